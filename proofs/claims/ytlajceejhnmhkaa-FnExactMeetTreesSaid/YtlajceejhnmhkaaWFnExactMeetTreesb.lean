/- Walks of the functions that the law FnExactMeetTrees reaches: each says what its function computes. No condition. -/
import Derived.Test.YtlajceejhnmhkaaProg
import Derived.Test.YtlajceejhnmhkaaLibL
import Derived.Test.YtlajceejhnmhkaaPlA
import Derived.Test.YtlajceejhnmhkaaPlM
import Derived.Test.YtlajceejhnmhkaaWFnExactMeetTreesa
namespace Go.Proofs.Ytlajceejhnmhkaa
open Go Go.WX Go.Proofs
set_option linter.unusedSimpArgs false
set_option linter.unusedVariables false

theorem c_impl_MeetTrees {w : World} {a0 : Int} {a1 : Int} {va2 : Value} {xa2 : List Int} {va3 : Value} {xa3 : List Int} {va4 : Value} {xa4 : List Bool} {y0 : Int} {y1 : Int} {vy2 : Value} {xy2 : List Int} {vy3 : Value} {xy3 : List Int} {vy4 : Value} {xy4 : List Bool}  (ha2 : Rd EI w va2 xa2) (ha3 : Rd EI w va3 xa3) (ha4 : Rd EB w va4 xa4) (hy2 : Rd EI w vy2 xy2) (hy3 : Rd EI w vy3 xy3) (hy4 : Rd EB w vy4 xy4) : Calls Try.prog 43 #[.agg #[.int .i64 a0, .int .i64 a1, va2, va3, va4], .agg #[.int .i64 y0, .int .i64 y1, vy2, vy3, vy4]] w (Ret1 (fun v w' => Ext w w' ∧ ∃ u2 og_u2 u3 og_u3 u4 og_u4, v = .tuple #[.agg #[.int .i64 (onI (meetB a0 a1 y0 y1 xa2 xa3 xy2 xy3 xa4 xy4) (a0 * y0)), .int .i64 (onI (meetB a0 a1 y0 y1 xa2 xa3 xy2 xy3 xa4 xy4) a1), u2, u3, u4], .bool (meetB a0 a1 y0 y1 xa2 xa3 xy2 xy3 xa4 xy4)] ∧ Osl VI w' og_u2 u2 (onT (meetB a0 a1 y0 y1 xa2 xa3 xy2 xy3 xa4 xy4) (mapR (leafM y0 xa2 xy2) a1.toNat)) ∧ Lo w og_u2 ∧ Osl VI w' og_u3 u3 (onT (meetB a0 a1 y0 y1 xa2 xa3 xy2 xy3 xa4 xy4) (rowsM (a0 * y0).toNat (nextM a0 y0 xa3 xy3) (a0 * y0).toNat)) ∧ Lo w og_u3 ∧ Osl VB w' og_u4 u4 (onT (meetB a0 a1 y0 y1 xa2 xa3 xy2 xy3 xa4 xy4) (mapR (endM y0 xa4 xy4) (a0 * y0).toNat)) ∧ Lo w og_u4 ∧ Dj og_u2 og_u3 ∧ Dj og_u2 og_u4 ∧ Dj og_u3 og_u4)) := by
  have hB : Ext w w := Ext.refl w
  have hla2 := ha2.leI; have hla3 := ha3.leI; have hla4 := ha4.leI; have hly2 := hy2.leI; have hly3 := hy3.leI; have hly4 := hy4.leI
  refine callsOf (vs := [_, _]) Try.func43 rfl Try.ntmps43 rfl rfl ?_
  refine CW.seq ?_
  refine CW.reg ?_
  refine WL.op rfl (OpK.box rfl rfl (by first | rfl | exact Rd.cells1 (by assumption) | exact Osl.cells1 (by assumption) | exact Osn.cells1 (by assumption)) (fun b1 w1 hXw1 hb1 hge1 => ?_))
  have hl1 := Lo.new hB hge1
  have hB := hB.trans hXw1
  refine WL.op rfl (OpK.box rfl rfl (by first | rfl | exact Rd.cells1 (by assumption) | exact Osl.cells1 (by assumption) | exact Osn.cells1 (by assumption)) (fun b2 w2 hXw2 hb2 hge2 => ?_))
  have hl2 := Lo.new hB hge2
  have hd1_2 := Dj.new hb1.ltO hge2
  have hB := hB.trans hXw2
  have hb1 := hb1.up hXw2
  refine WL.op rfl (OpK.alloc rfl T.zv37 rfl (fun b3 w3 hXw3 hb3 hge3 => ?_))
  have hl3 := Lo.new hB hge3
  have hd1_3 := Dj.new hb1.ltO hge3
  have hd2_3 := Dj.new hb2.ltO hge3
  have hB := hB.trans hXw3
  have hb1 := hb1.up hXw3
  have hb2 := hb2.up hXw3
  refine WL.pure rfl rfl rfl (PV.assign rfl) ?_
  refine WL.nilS ?_
  refine CW.seq ?_
  refine CW.seq ?_
  refine CW.reg ?_
  refine WL.pure rfl rfl rfl ((by first | exact PV.loadA T.ag37 rfl (by first | exact Cells.up (by assumption) hB | exact Bx.cells (by assumption) | assumption) (Ext.refl _) rfl | exact PV.loadP (ds := [_, _, _, _, _]) T.ag37 rfl (by first | exact Cells.up (by assumption) hB | exact Bx.cells (by assumption) | assumption) (Ext.refl _) rfl rfl)) ?_
  refine WL.op rfl (OpK.callR rfl T.cf30 rfl (c_impl_ValidTrees (by first | assumption | exact Rd.up (by assumption) hB | exact Osl.rd (by assumption) | exact Osn.rdR (by assumption)) (by first | assumption | exact Rd.up (by assumption) hB | exact Osl.rd (by assumption) | exact Osn.rdR (by assumption)) (by first | assumption | exact Rd.up (by assumption) hB | exact Osl.rd (by assumption) | exact Osn.rdR (by assumption))) (fun w4 hXw4 => ?_))
  have hB := hB.trans hXw4
  have hb1 := hb1.up hXw4
  have hb2 := hb2.up hXw4
  have hb3 := hb3.up hXw4
  refine WL.pure rfl rfl rfl (PV.not rfl) ?_
  refine WL.pure rfl rfl rfl (PV.move rfl) ?_
  refine WL.split (t := 13) rfl (fun hc1 => ?_) (fun hc1 => ?_)
  · skip
    try simp only [decide_eq_true_eq, decide_eq_false_iff_not, Bool.not_eq_true', Bool.not_eq_false', Bool.not_eq_eq_eq_not, Bool.not_true, Bool.not_false, Int.not_lt, Int.not_le, Classical.not_not, beq_iff_eq, beq_eq_false_iff_ne] at hc1
    refine WL.skip rfl rfl rfl rfl rfl ?_
    refine WL.skip rfl rfl rfl rfl rfl ?_
    refine WL.skip rfl rfl rfl rfl rfl ?_
    refine WL.pure rfl rfl rfl (PV.pickT rfl rfl) ?_
    refine WL.pure rfl rfl rfl (PV.move rfl) ?_
    refine WL.skip rfl rfl rfl rfl rfl ?_
    refine WL.skip rfl rfl rfl rfl rfl ?_
    refine WL.skip rfl rfl rfl rfl rfl ?_
    refine WL.skip rfl rfl rfl rfl rfl ?_
    refine WL.skip rfl rfl rfl rfl rfl ?_
    refine WL.pure rfl rfl rfl (PV.pickT rfl rfl) ?_
    refine WL.pure rfl rfl rfl (PV.move rfl) ?_
    refine WL.skip rfl rfl rfl rfl rfl ?_
    refine WL.skip rfl rfl rfl rfl rfl ?_
    refine WL.skip rfl rfl rfl rfl rfl ?_
    refine WL.skip rfl rfl rfl rfl rfl ?_
    refine WL.skip rfl rfl rfl rfl rfl ?_
    refine WL.skip rfl rfl rfl rfl rfl ?_
    refine WL.pure rfl rfl rfl (PV.pickT rfl rfl) ?_
    refine WL.nilS ?_
    refine CW.condT rfl ?_
    refine CW.seq ?_
    refine CW.reg ?_
    refine WL.pure rfl rfl rfl (PV.build (ks := []) (os := []) (css := []) (ds := [_, _, _, _, _]) T.bu37 rfl rfl trivial rfl) ?_
    refine WL.op rfl (OpK.storeA T.sz37 rfl rfl rfl rfl (by simp [Value.oneCell'] <;> first | done | (repeat' apply And.intro) <;> first | rfl | exact Osl.oneCell (by assumption) | exact Osn.oneCell (by assumption) | exact Rd.oneCell (by assumption) | assumption) hb3 (fun w5 hXw5 hb3 => ?_))
    have hB := hB.updL hXw5 hl3
    have hb1 := hb1.updD hXw5 hd1_3
    have hb2 := hb2.updD hXw5 hd2_3
    refine WL.pure rfl rfl rfl (PV.assign rfl) ?_
    refine WL.nilS ?_
    refine CW.ret ?_
    refine RQ.then ?_
    refine RQ.rc1 T.ag37 rfl (by first | exact Cells.up (by assumption) hB | exact Bx.cells (by assumption) | assumption) rfl rfl ?_
    refine ⟨hB, (.slice none 0 0), none, (.slice none 0 0), none, (.slice none 0 0), none, ?_, osE (Osl.nil _ _) ?_, Lo.nl _, osE (Osl.nil _ _) ?_, Lo.nl _, osE (Osl.nil _ _) ?_, Lo.nl _, (Dj.nl _), (Dj.nl _), (Dj.nl _)⟩
    · skip
      first | (exact tE2 (by rw [onI_no (by first | exact meetB_n1 (treesB_no (by assumption)) | exact meetB_n2 (treesB_no (by assumption)) | exact meetB_n3 (by omega) | exact meetB_n4 (by omega)), onI_no (by first | exact meetB_n1 (treesB_no (by assumption)) | exact meetB_n2 (treesB_no (by assumption)) | exact meetB_n3 (by omega) | exact meetB_n4 (by omega))]) (bE (Bool.eq_false_iff.2 (by first | exact meetB_n1 (treesB_no (by assumption)) | exact meetB_n2 (treesB_no (by assumption)) | exact meetB_n3 (by omega) | exact meetB_n4 (by omega))).symm)) | (exact tE2 (by rw [onI_yes (meetB_yes (treesB_yes (by assumption)) (treesB_yes (by assumption)) (by omega) (by omega)), onI_yes (meetB_yes (treesB_yes (by assumption)) (treesB_yes (by assumption)) (by omega) (by omega))]) (bE (meetB_yes (treesB_yes (by assumption)) (treesB_yes (by assumption)) (by omega) (by omega)).symm))
    · skip
      first | (rw [onT_no (by first | exact meetB_n1 (treesB_no (by assumption)) | exact meetB_n2 (treesB_no (by assumption)) | exact meetB_n3 (by omega) | exact meetB_n4 (by omega))]; done) | (rw [onT_yes (meetB_yes (treesB_yes (by assumption)) (treesB_yes (by assumption)) (by omega) (by omega))]; done)
    · skip
      first | (rw [onT_no (by first | exact meetB_n1 (treesB_no (by assumption)) | exact meetB_n2 (treesB_no (by assumption)) | exact meetB_n3 (by omega) | exact meetB_n4 (by omega))]; done) | (rw [onT_yes (meetB_yes (treesB_yes (by assumption)) (treesB_yes (by assumption)) (by omega) (by omega)), show i = (a0 * y0).toNat from (by omega)])
    · skip
      first | (rw [onT_no (by first | exact meetB_n1 (treesB_no (by assumption)) | exact meetB_n2 (treesB_no (by assumption)) | exact meetB_n3 (by omega) | exact meetB_n4 (by omega))]; done) | (rw [onT_yes (meetB_yes (treesB_yes (by assumption)) (treesB_yes (by assumption)) (by omega) (by omega)), show i = (a0 * y0).toNat from (by omega)])
  try simp only [decide_eq_true_eq, decide_eq_false_iff_not, Bool.not_eq_true', Bool.not_eq_false', Bool.not_eq_eq_eq_not, Bool.not_true, Bool.not_false, Int.not_lt, Int.not_le, Classical.not_not, beq_iff_eq, beq_eq_false_iff_ne] at hc1
  refine WL.pureG rfl rfl rfl rfl rfl ((by first | exact PV.loadA T.ag37 rfl (by first | exact Cells.up (by assumption) hB | exact Bx.cells (by assumption) | assumption) (Ext.refl _) rfl | exact PV.loadP (ds := [_, _, _, _, _]) T.ag37 rfl (by first | exact Cells.up (by assumption) hB | exact Bx.cells (by assumption) | assumption) (Ext.refl _) rfl rfl)) ?_
  refine WL.opG rfl rfl rfl (OpK.callR rfl T.cf30 rfl (c_impl_ValidTrees (by first | assumption | exact Rd.up (by assumption) hB | exact Osl.rd (by assumption) | exact Osn.rdR (by assumption)) (by first | assumption | exact Rd.up (by assumption) hB | exact Osl.rd (by assumption) | exact Osn.rdR (by assumption)) (by first | assumption | exact Rd.up (by assumption) hB | exact Osl.rd (by assumption) | exact Osn.rdR (by assumption))) (fun w6 hXw6 => ?_))
  have hB := hB.trans hXw6
  have hb1 := hb1.up hXw6
  have hb2 := hb2.up hXw6
  have hb3 := hb3.up hXw6
  refine WL.pureG rfl rfl rfl rfl rfl (PV.not rfl) ?_
  refine WL.pure rfl rfl rfl (PV.pickF rfl rfl) ?_
  refine WL.pure rfl rfl rfl (PV.move rfl) ?_
  refine WL.split (t := 18) rfl (fun hc2 => ?_) (fun hc2 => ?_)
  · skip
    try simp only [decide_eq_true_eq, decide_eq_false_iff_not, Bool.not_eq_true', Bool.not_eq_false', Bool.not_eq_eq_eq_not, Bool.not_true, Bool.not_false, Int.not_lt, Int.not_le, Classical.not_not, beq_iff_eq, beq_eq_false_iff_ne] at hc2
    refine WL.skip rfl rfl rfl rfl rfl ?_
    refine WL.skip rfl rfl rfl rfl rfl ?_
    refine WL.skip rfl rfl rfl rfl rfl ?_
    refine WL.skip rfl rfl rfl rfl rfl ?_
    refine WL.skip rfl rfl rfl rfl rfl ?_
    refine WL.pure rfl rfl rfl (PV.pickT rfl rfl) ?_
    refine WL.pure rfl rfl rfl (PV.move rfl) ?_
    refine WL.skip rfl rfl rfl rfl rfl ?_
    refine WL.skip rfl rfl rfl rfl rfl ?_
    refine WL.skip rfl rfl rfl rfl rfl ?_
    refine WL.skip rfl rfl rfl rfl rfl ?_
    refine WL.skip rfl rfl rfl rfl rfl ?_
    refine WL.skip rfl rfl rfl rfl rfl ?_
    refine WL.pure rfl rfl rfl (PV.pickT rfl rfl) ?_
    refine WL.nilS ?_
    refine CW.condT rfl ?_
    refine CW.seq ?_
    refine CW.reg ?_
    refine WL.pure rfl rfl rfl (PV.build (ks := []) (os := []) (css := []) (ds := [_, _, _, _, _]) T.bu37 rfl rfl trivial rfl) ?_
    refine WL.op rfl (OpK.storeA T.sz37 rfl rfl rfl rfl (by simp [Value.oneCell'] <;> first | done | (repeat' apply And.intro) <;> first | rfl | exact Osl.oneCell (by assumption) | exact Osn.oneCell (by assumption) | exact Rd.oneCell (by assumption) | assumption) hb3 (fun w7 hXw7 hb3 => ?_))
    have hB := hB.updL hXw7 hl3
    have hb1 := hb1.updD hXw7 hd1_3
    have hb2 := hb2.updD hXw7 hd2_3
    refine WL.pure rfl rfl rfl (PV.assign rfl) ?_
    refine WL.nilS ?_
    refine CW.ret ?_
    refine RQ.then ?_
    refine RQ.rc1 T.ag37 rfl (by first | exact Cells.up (by assumption) hB | exact Bx.cells (by assumption) | assumption) rfl rfl ?_
    refine ⟨hB, (.slice none 0 0), none, (.slice none 0 0), none, (.slice none 0 0), none, ?_, osE (Osl.nil _ _) ?_, Lo.nl _, osE (Osl.nil _ _) ?_, Lo.nl _, osE (Osl.nil _ _) ?_, Lo.nl _, (Dj.nl _), (Dj.nl _), (Dj.nl _)⟩
    · skip
      first | (exact tE2 (by rw [onI_no (by first | exact meetB_n1 (treesB_no (by assumption)) | exact meetB_n2 (treesB_no (by assumption)) | exact meetB_n3 (by omega) | exact meetB_n4 (by omega)), onI_no (by first | exact meetB_n1 (treesB_no (by assumption)) | exact meetB_n2 (treesB_no (by assumption)) | exact meetB_n3 (by omega) | exact meetB_n4 (by omega))]) (bE (Bool.eq_false_iff.2 (by first | exact meetB_n1 (treesB_no (by assumption)) | exact meetB_n2 (treesB_no (by assumption)) | exact meetB_n3 (by omega) | exact meetB_n4 (by omega))).symm)) | (exact tE2 (by rw [onI_yes (meetB_yes (treesB_yes (by assumption)) (treesB_yes (by assumption)) (by omega) (by omega)), onI_yes (meetB_yes (treesB_yes (by assumption)) (treesB_yes (by assumption)) (by omega) (by omega))]) (bE (meetB_yes (treesB_yes (by assumption)) (treesB_yes (by assumption)) (by omega) (by omega)).symm))
    · skip
      first | (rw [onT_no (by first | exact meetB_n1 (treesB_no (by assumption)) | exact meetB_n2 (treesB_no (by assumption)) | exact meetB_n3 (by omega) | exact meetB_n4 (by omega))]; done) | (rw [onT_yes (meetB_yes (treesB_yes (by assumption)) (treesB_yes (by assumption)) (by omega) (by omega))]; done)
    · skip
      first | (rw [onT_no (by first | exact meetB_n1 (treesB_no (by assumption)) | exact meetB_n2 (treesB_no (by assumption)) | exact meetB_n3 (by omega) | exact meetB_n4 (by omega))]; done) | (rw [onT_yes (meetB_yes (treesB_yes (by assumption)) (treesB_yes (by assumption)) (by omega) (by omega)), show i = (a0 * y0).toNat from (by omega)])
    · skip
      first | (rw [onT_no (by first | exact meetB_n1 (treesB_no (by assumption)) | exact meetB_n2 (treesB_no (by assumption)) | exact meetB_n3 (by omega) | exact meetB_n4 (by omega))]; done) | (rw [onT_yes (meetB_yes (treesB_yes (by assumption)) (treesB_yes (by assumption)) (by omega) (by omega)), show i = (a0 * y0).toNat from (by omega)])
  try simp only [decide_eq_true_eq, decide_eq_false_iff_not, Bool.not_eq_true', Bool.not_eq_false', Bool.not_eq_eq_eq_not, Bool.not_true, Bool.not_false, Int.not_lt, Int.not_le, Classical.not_not, beq_iff_eq, beq_eq_false_iff_ne] at hc2
  refine WL.pureG rfl rfl rfl rfl rfl ((by first | exact PV.fieldAddr T.fl37_1 rfl (by first | assumption | exact Bx.cells (by assumption)) | exact PV.fieldAddrP T.fl37_1 rfl rfl)) ?_
  refine WL.pureG rfl rfl rfl rfl rfl ((by first | exact PV.load0 T.na2 rfl (by first | exact Cells.up (by assumption) hB | exact Bx.cells (by assumption) | assumption) (Ext.refl _) rfl | exact PV.load1 T.na2 rfl (by first | exact Cells.up (by assumption) hB | exact Bx.cells (by assumption) | assumption) (Ext.refl _) rfl)) ?_
  refine WL.pureG rfl rfl rfl rfl rfl ((by first | exact PV.fieldAddr T.fl37_1 rfl (by first | assumption | exact Bx.cells (by assumption)) | exact PV.fieldAddrP T.fl37_1 rfl rfl)) ?_
  refine WL.pureG rfl rfl rfl rfl rfl ((by first | exact PV.load0 T.na2 rfl (by first | exact Cells.up (by assumption) hB | exact Bx.cells (by assumption) | assumption) (Ext.refl _) rfl | exact PV.load1 T.na2 rfl (by first | exact Cells.up (by assumption) hB | exact Bx.cells (by assumption) | assumption) (Ext.refl _) rfl)) ?_
  refine WL.pureG rfl rfl rfl rfl rfl (PV.neq rfl rfl) ?_
  refine WL.pure rfl rfl rfl (PV.pickF rfl rfl) ?_
  refine WL.pure rfl rfl rfl (PV.move rfl) ?_
  refine WL.split (t := 25) rfl (fun hc3 => ?_) (fun hc3 => ?_)
  · skip
    try simp only [decide_eq_true_eq, decide_eq_false_iff_not, Bool.not_eq_true', Bool.not_eq_false', Bool.not_eq_eq_eq_not, Bool.not_true, Bool.not_false, Int.not_lt, Int.not_le, Classical.not_not, beq_iff_eq, beq_eq_false_iff_ne] at hc3
    refine WL.skip rfl rfl rfl rfl rfl ?_
    refine WL.skip rfl rfl rfl rfl rfl ?_
    refine WL.skip rfl rfl rfl rfl rfl ?_
    refine WL.skip rfl rfl rfl rfl rfl ?_
    refine WL.skip rfl rfl rfl rfl rfl ?_
    refine WL.skip rfl rfl rfl rfl rfl ?_
    refine WL.pure rfl rfl rfl (PV.pickT rfl rfl) ?_
    refine WL.nilS ?_
    refine CW.condT rfl ?_
    refine CW.seq ?_
    refine CW.reg ?_
    refine WL.pure rfl rfl rfl (PV.build (ks := []) (os := []) (css := []) (ds := [_, _, _, _, _]) T.bu37 rfl rfl trivial rfl) ?_
    refine WL.op rfl (OpK.storeA T.sz37 rfl rfl rfl rfl (by simp [Value.oneCell'] <;> first | done | (repeat' apply And.intro) <;> first | rfl | exact Osl.oneCell (by assumption) | exact Osn.oneCell (by assumption) | exact Rd.oneCell (by assumption) | assumption) hb3 (fun w8 hXw8 hb3 => ?_))
    have hB := hB.updL hXw8 hl3
    have hb1 := hb1.updD hXw8 hd1_3
    have hb2 := hb2.updD hXw8 hd2_3
    refine WL.pure rfl rfl rfl (PV.assign rfl) ?_
    refine WL.nilS ?_
    refine CW.ret ?_
    refine RQ.then ?_
    refine RQ.rc1 T.ag37 rfl (by first | exact Cells.up (by assumption) hB | exact Bx.cells (by assumption) | assumption) rfl rfl ?_
    refine ⟨hB, (.slice none 0 0), none, (.slice none 0 0), none, (.slice none 0 0), none, ?_, osE (Osl.nil _ _) ?_, Lo.nl _, osE (Osl.nil _ _) ?_, Lo.nl _, osE (Osl.nil _ _) ?_, Lo.nl _, (Dj.nl _), (Dj.nl _), (Dj.nl _)⟩
    · skip
      first | (exact tE2 (by rw [onI_no (by first | exact meetB_n1 (treesB_no (by assumption)) | exact meetB_n2 (treesB_no (by assumption)) | exact meetB_n3 (by omega) | exact meetB_n4 (by omega)), onI_no (by first | exact meetB_n1 (treesB_no (by assumption)) | exact meetB_n2 (treesB_no (by assumption)) | exact meetB_n3 (by omega) | exact meetB_n4 (by omega))]) (bE (Bool.eq_false_iff.2 (by first | exact meetB_n1 (treesB_no (by assumption)) | exact meetB_n2 (treesB_no (by assumption)) | exact meetB_n3 (by omega) | exact meetB_n4 (by omega))).symm)) | (exact tE2 (by rw [onI_yes (meetB_yes (treesB_yes (by assumption)) (treesB_yes (by assumption)) (by omega) (by omega)), onI_yes (meetB_yes (treesB_yes (by assumption)) (treesB_yes (by assumption)) (by omega) (by omega))]) (bE (meetB_yes (treesB_yes (by assumption)) (treesB_yes (by assumption)) (by omega) (by omega)).symm))
    · skip
      first | (rw [onT_no (by first | exact meetB_n1 (treesB_no (by assumption)) | exact meetB_n2 (treesB_no (by assumption)) | exact meetB_n3 (by omega) | exact meetB_n4 (by omega))]; done) | (rw [onT_yes (meetB_yes (treesB_yes (by assumption)) (treesB_yes (by assumption)) (by omega) (by omega))]; done)
    · skip
      first | (rw [onT_no (by first | exact meetB_n1 (treesB_no (by assumption)) | exact meetB_n2 (treesB_no (by assumption)) | exact meetB_n3 (by omega) | exact meetB_n4 (by omega))]; done) | (rw [onT_yes (meetB_yes (treesB_yes (by assumption)) (treesB_yes (by assumption)) (by omega) (by omega)), show i = (a0 * y0).toNat from (by omega)])
    · skip
      first | (rw [onT_no (by first | exact meetB_n1 (treesB_no (by assumption)) | exact meetB_n2 (treesB_no (by assumption)) | exact meetB_n3 (by omega) | exact meetB_n4 (by omega))]; done) | (rw [onT_yes (meetB_yes (treesB_yes (by assumption)) (treesB_yes (by assumption)) (by omega) (by omega)), show i = (a0 * y0).toNat from (by omega)])
  try simp only [decide_eq_true_eq, decide_eq_false_iff_not, Bool.not_eq_true', Bool.not_eq_false', Bool.not_eq_eq_eq_not, Bool.not_true, Bool.not_false, Int.not_lt, Int.not_le, Classical.not_not, beq_iff_eq, beq_eq_false_iff_ne] at hc3
  refine WL.pureG rfl rfl rfl rfl rfl ((by first | exact PV.fieldAddr T.fl37_0 rfl (by first | assumption | exact Bx.cells (by assumption)) | exact PV.fieldAddrP T.fl37_0 rfl rfl)) ?_
  refine WL.pureG rfl rfl rfl rfl rfl ((by first | exact PV.load0 T.na2 rfl (by first | exact Cells.up (by assumption) hB | exact Bx.cells (by assumption) | assumption) (Ext.refl _) rfl | exact PV.load1 T.na2 rfl (by first | exact Cells.up (by assumption) hB | exact Bx.cells (by assumption) | assumption) (Ext.refl _) rfl)) ?_
  refine WL.pureG rfl rfl rfl rfl rfl ((by first | exact PV.fieldAddr T.fl37_0 rfl (by first | assumption | exact Bx.cells (by assumption)) | exact PV.fieldAddrP T.fl37_0 rfl rfl)) ?_
  refine WL.pureG rfl rfl rfl rfl rfl ((by first | exact PV.load0 T.na2 rfl (by first | exact Cells.up (by assumption) hB | exact Bx.cells (by assumption) | assumption) (Ext.refl _) rfl | exact PV.load1 T.na2 rfl (by first | exact Cells.up (by assumption) hB | exact Bx.cells (by assumption) | assumption) (Ext.refl _) rfl)) ?_
  refine WL.pureG rfl rfl rfl rfl rfl (PV.mul rfl rfl (by constructor <;> (have hm0 := pair_le (x := a0) (n := y0) (by omega) (by omega); omega))) ?_
  refine WL.pureG rfl rfl rfl rfl rfl (PV.gtr rfl rfl) ?_
  refine WL.pure rfl rfl rfl (PV.pickF rfl rfl) ?_
  refine WL.nilS ?_
  refine CW.cond rfl (fun hc4 => ?_) (fun hc4 => ?_)
  · skip
    try simp only [decide_eq_true_eq, decide_eq_false_iff_not, Bool.not_eq_true', Bool.not_eq_false', Bool.not_eq_eq_eq_not, Bool.not_true, Bool.not_false, Int.not_lt, Int.not_le, Classical.not_not, beq_iff_eq, beq_eq_false_iff_ne] at hc4
    refine CW.seq ?_
    refine CW.reg ?_
    refine WL.pure rfl rfl rfl (PV.build (ks := []) (os := []) (css := []) (ds := [_, _, _, _, _]) T.bu37 rfl rfl trivial rfl) ?_
    refine WL.op rfl (OpK.storeA T.sz37 rfl rfl rfl rfl (by simp [Value.oneCell'] <;> first | done | (repeat' apply And.intro) <;> first | rfl | exact Osl.oneCell (by assumption) | exact Osn.oneCell (by assumption) | exact Rd.oneCell (by assumption) | assumption) hb3 (fun w9 hXw9 hb3 => ?_))
    have hB := hB.updL hXw9 hl3
    have hb1 := hb1.updD hXw9 hd1_3
    have hb2 := hb2.updD hXw9 hd2_3
    refine WL.pure rfl rfl rfl (PV.assign rfl) ?_
    refine WL.nilS ?_
    refine CW.ret ?_
    refine RQ.then ?_
    refine RQ.rc1 T.ag37 rfl (by first | exact Cells.up (by assumption) hB | exact Bx.cells (by assumption) | assumption) rfl rfl ?_
    refine ⟨hB, (.slice none 0 0), none, (.slice none 0 0), none, (.slice none 0 0), none, ?_, osE (Osl.nil _ _) ?_, Lo.nl _, osE (Osl.nil _ _) ?_, Lo.nl _, osE (Osl.nil _ _) ?_, Lo.nl _, (Dj.nl _), (Dj.nl _), (Dj.nl _)⟩
    · skip
      first | (exact tE2 (by rw [onI_no (by first | exact meetB_n1 (treesB_no (by assumption)) | exact meetB_n2 (treesB_no (by assumption)) | exact meetB_n3 (by omega) | exact meetB_n4 (by omega)), onI_no (by first | exact meetB_n1 (treesB_no (by assumption)) | exact meetB_n2 (treesB_no (by assumption)) | exact meetB_n3 (by omega) | exact meetB_n4 (by omega))]) (bE (Bool.eq_false_iff.2 (by first | exact meetB_n1 (treesB_no (by assumption)) | exact meetB_n2 (treesB_no (by assumption)) | exact meetB_n3 (by omega) | exact meetB_n4 (by omega))).symm)) | (exact tE2 (by rw [onI_yes (meetB_yes (treesB_yes (by assumption)) (treesB_yes (by assumption)) (by omega) (by omega)), onI_yes (meetB_yes (treesB_yes (by assumption)) (treesB_yes (by assumption)) (by omega) (by omega))]) (bE (meetB_yes (treesB_yes (by assumption)) (treesB_yes (by assumption)) (by omega) (by omega)).symm))
    · skip
      first | (rw [onT_no (by first | exact meetB_n1 (treesB_no (by assumption)) | exact meetB_n2 (treesB_no (by assumption)) | exact meetB_n3 (by omega) | exact meetB_n4 (by omega))]; done) | (rw [onT_yes (meetB_yes (treesB_yes (by assumption)) (treesB_yes (by assumption)) (by omega) (by omega))]; done)
    · skip
      first | (rw [onT_no (by first | exact meetB_n1 (treesB_no (by assumption)) | exact meetB_n2 (treesB_no (by assumption)) | exact meetB_n3 (by omega) | exact meetB_n4 (by omega))]; done) | (rw [onT_yes (meetB_yes (treesB_yes (by assumption)) (treesB_yes (by assumption)) (by omega) (by omega)), show i = (a0 * y0).toNat from (by omega)])
    · skip
      first | (rw [onT_no (by first | exact meetB_n1 (treesB_no (by assumption)) | exact meetB_n2 (treesB_no (by assumption)) | exact meetB_n3 (by omega) | exact meetB_n4 (by omega))]; done) | (rw [onT_yes (meetB_yes (treesB_yes (by assumption)) (treesB_yes (by assumption)) (by omega) (by omega)), show i = (a0 * y0).toNat from (by omega)])
  try simp only [decide_eq_true_eq, decide_eq_false_iff_not, Bool.not_eq_true', Bool.not_eq_false', Bool.not_eq_eq_eq_not, Bool.not_true, Bool.not_false, Int.not_lt, Int.not_le, Classical.not_not, beq_iff_eq, beq_eq_false_iff_ne] at hc4
  refine CW.skipS ?_
  refine CW.seq ?_
  refine CW.reg ?_
  obtain ⟨pa1, pa2, pa3, pa4, pa5, pa6, pa7⟩ := (by assumption : (1 ≤ a0 ∧ a0 ≤ 16) ∧ (1 ≤ a1 ∧ a1 ≤ 4) ∧ (xa2.length : Int) = a1 ∧ (xa3.length : Int) = a0 * a0 ∧ (xa4.length : Int) = a0 ∧ allIn xa2 0 (a0 - 1) = true ∧ allIn xa3 0 (a0 - 1) = true); obtain ⟨pb1, pb2, pb3, pb4, pb5, pb6, pb7⟩ := (by assumption : (1 ≤ y0 ∧ y0 ≤ 16) ∧ (1 ≤ y1 ∧ y1 ≤ 4) ∧ (xy2.length : Int) = y1 ∧ (xy3.length : Int) = y0 * y0 ∧ (xy4.length : Int) = y0 ∧ allIn xy2 0 (y0 - 1) = true ∧ allIn xy3 0 (y0 - 1) = true); have hm1 := pair_le (x := a0) (n := y0) (by omega) (by omega)
  refine WL.pure rfl rfl rfl ((by first | exact PV.fieldAddr T.fl37_0 rfl (by first | assumption | exact Bx.cells (by assumption)) | exact PV.fieldAddrP T.fl37_0 rfl rfl)) ?_
  refine WL.pure rfl rfl rfl ((by first | exact PV.load0 T.na2 rfl (by first | exact Cells.up (by assumption) hB | exact Bx.cells (by assumption) | assumption) (Ext.refl _) rfl | exact PV.load1 T.na2 rfl (by first | exact Cells.up (by assumption) hB | exact Bx.cells (by assumption) | assumption) (Ext.refl _) rfl)) ?_
  refine WL.pure rfl rfl rfl ((by first | exact PV.fieldAddr T.fl37_0 rfl (by first | assumption | exact Bx.cells (by assumption)) | exact PV.fieldAddrP T.fl37_0 rfl rfl)) ?_
  refine WL.pure rfl rfl rfl ((by first | exact PV.load0 T.na2 rfl (by first | exact Cells.up (by assumption) hB | exact Bx.cells (by assumption) | assumption) (Ext.refl _) rfl | exact PV.load1 T.na2 rfl (by first | exact Cells.up (by assumption) hB | exact Bx.cells (by assumption) | assumption) (Ext.refl _) rfl)) ?_
  refine WL.pure rfl rfl rfl (PV.mul rfl rfl (by constructor <;> omega)) ?_
  refine WL.pure rfl rfl rfl ((by first | exact PV.fieldAddr T.fl37_1 rfl (by first | assumption | exact Bx.cells (by assumption)) | exact PV.fieldAddrP T.fl37_1 rfl rfl)) ?_
  refine WL.pure rfl rfl rfl ((by first | exact PV.load0 T.na2 rfl (by first | exact Cells.up (by assumption) hB | exact Bx.cells (by assumption) | assumption) (Ext.refl _) rfl | exact PV.load1 T.na2 rfl (by first | exact Cells.up (by assumption) hB | exact Bx.cells (by assumption) | assumption) (Ext.refl _) rfl)) ?_
  refine WL.pure rfl rfl rfl (PV.build (ks := [0, 1]) (os := [.tmp 38, .tmp 40]) (css := [[_], [_]]) (ds := [_, _, _, _, _]) T.bu37 rfl rfl ⟨(by first | rfl | exact Rd.cells1 (by assumption) | exact Osl.cells1 (by assumption) | exact Osn.cells1 (by assumption)), (by first | rfl | exact Rd.cells1 (by assumption) | exact Osl.cells1 (by assumption) | exact Osn.cells1 (by assumption)), trivial⟩ rfl) ?_
  refine WL.op rfl (OpK.alloc rfl T.zv37 rfl (fun b4 w10 hXw10 hb4 hge4 => ?_))
  have hl4 := Lo.new hB hge4
  have hd1_4 := Dj.new hb1.ltO hge4
  have hd2_4 := Dj.new hb2.ltO hge4
  have hd3_4 := Dj.new hb3.ltO hge4
  have hB := hB.trans hXw10
  have hb1 := hb1.up hXw10
  have hb2 := hb2.up hXw10
  have hb3 := hb3.up hXw10
  refine WL.op rfl (OpK.storeA T.sz37 rfl rfl rfl rfl (by simp [Value.oneCell'] <;> first | done | (repeat' apply And.intro) <;> first | rfl | exact Osl.oneCell (by assumption) | exact Osn.oneCell (by assumption) | exact Rd.oneCell (by assumption) | assumption) hb4 (fun w11 hXw11 hb4 => ?_))
  have hB := hB.updL hXw11 hl4
  have hb1 := hb1.updD hXw11 hd1_4
  have hb2 := hb2.updD hXw11 hd2_4
  have hb3 := hb3.updD hXw11 hd3_4
  refine WL.nilS ?_
  refine CW.seq ?_
  refine CW.seq ?_
  refine CW.reg ?_
  refine WL.pure rfl rfl rfl ((by first | exact PV.fieldAddr T.fl37_1 rfl (by first | assumption | exact Bx.cells (by assumption)) | exact PV.fieldAddrP T.fl37_1 rfl rfl)) ?_
  refine WL.pure rfl rfl rfl ((by first | exact PV.load0 T.na2 rfl (by first | exact Cells.up (by assumption) hB | exact Bx.cells (by assumption) | assumption) (Ext.refl _) rfl | exact PV.load1 T.na2 rfl (by first | exact Cells.up (by assumption) hB | exact Bx.cells (by assumption) | assumption) (Ext.refl _) rfl)) ?_
  refine WL.pure rfl rfl rfl (PV.move rfl) ?_
  refine WL.nilS ?_
  refine CW.block ?_
  have ho5 : Osl VI w11 none (.slice none 0 0) [] := (Osl.nil _ _)
  have hl5 : Lo w none := Lo.nl _
  have hd1_5 : Dj (some b1.block) none := Dj.nlR _
  have hd2_5 : Dj (some b2.block) none := Dj.nlR _
  have hd3_5 : Dj (some b3.block) none := Dj.nlR _
  have hd4_5 : Dj (some b4.block) none := Dj.nlR _
  have ho6 : Osl VI w11 none (.slice none 0 0) [] := (Osl.nil _ _)
  have hl6 : Lo w none := Lo.nl _
  have hd1_6 : Dj (some b1.block) none := Dj.nlR _
  have hd2_6 : Dj (some b2.block) none := Dj.nlR _
  have hd3_6 : Dj (some b3.block) none := Dj.nlR _
  have hd4_6 : Dj (some b4.block) none := Dj.nlR _
  have hd5_6 : Dj none none := Dj.nlR _
  have ho7 : Osl VB w11 none (.slice none 0 0) [] := (Osl.nil _ _)
  have hl7 : Lo w none := Lo.nl _
  have hd1_7 : Dj (some b1.block) none := Dj.nlR _
  have hd2_7 : Dj (some b2.block) none := Dj.nlR _
  have hd3_7 : Dj (some b3.block) none := Dj.nlR _
  have hd4_7 : Dj (some b4.block) none := Dj.nlR _
  have hd5_7 : Dj none none := Dj.nlR _
  have hd6_7 : Dj none none := Dj.nlR _
  have hlt1 := hb1.ltO
  have hlt2 := hb2.ltO
  have hlt3 := hb3.ltO
  have hlt4 := hb4.ltO
  have hlt5 := ho5.ltO
  have hlt6 := ho6.ltO
  have hlt7 := ho7.ltO
  refine CW.loop (σk := [(2, _), (3, _), (4, _), (6, _), (43, _)]) (fun ρ wz m => ∃ (v8 : Value) (og8 : Option Nat) (v9 : Value) (og9 : Option Nat) (v10 : Value) (og10 : Option Nat) (k : Nat), ρ = [(44, .int .i64 (k : Nat))] ∧ m = a1.toNat - k ∧ UpdL [none, none, none, (some b4.block)] w11 wz ∧ Osl VI wz og8 v8 (mapR (leafM y0 xa2 xy2) k) ∧ OgR w11 none og8 ∧ Osl VI wz og9 v9 (([] : List Int)) ∧ OgR w11 none og9 ∧ Osl VB wz og10 v10 (([] : List Bool)) ∧ OgR w11 none og10 ∧ Bx wz b4 [.int .i64 (a0 * y0), .int .i64 a1, v8, v9, v10] ∧ Dj og8 og9 ∧ Dj og8 og10 ∧ Dj og9 og10 ∧ ((k : Int) ≤ a1)) (ρ₀ := [(44, _)]) (m₀ := _) ⟨rfl, rfl, rfl, rfl, rfl, rfl, trivial⟩ ⟨(.slice none 0 0), none, (.slice none 0 0), none, (.slice none 0 0), none, 0, rfl, rfl, (UpdL.refl _ _), osE ho5 (by rfl), OgR.refl _ _, osE ho6 (by rfl), OgR.refl _ _, osE ho7 (by rfl), OgR.refl _ _, bxE hb4 (by first | rfl | (simp_all; done) | (simp_all; omega)), hd5_6, hd5_7, hd6_7, (by first | omega | rfl | (simp; done) | assumption | (simp_all; done))⟩ ?_
  rintro _ wl1 _ ⟨v8, og8, v9, og9, v10, og10, k, rfl, rfl, hU0, ho8, ha8, ho9, ha9, ho10, ha10, hb4, hd8_9, hd8_10, hd9_10, hk⟩
  have hb1 := hb1.loop hU0 ⟨hd1_5, hd1_6, hd1_7, hd1_4, trivial⟩
  have hb2 := hb2.loop hU0 ⟨hd2_5, hd2_6, hd2_7, hd2_4, trivial⟩
  have hb3 := hb3.loop hU0 ⟨hd3_5, hd3_6, hd3_7, hd3_4, trivial⟩
  have hl8 := Lo.ogr hl5 hB ha8
  have hg0_8 := ha8
  have hk0_8 : OkB [none, none, none, (some b4.block)] w11 og8 := OkB.ogr (OkB.mem (by simp)) (Nat.le_refl _) ha8
  have hd1_8 := Dj.ogr hd1_5 hlt1 ha8
  have hd2_8 := Dj.ogr hd2_5 hlt2 ha8
  have hd3_8 := Dj.ogr hd3_5 hlt3 ha8
  have hd4_8 := Dj.ogr hd4_5 hlt4 ha8
  have hl9 := Lo.ogr hl6 hB ha9
  have hg0_9 := ha9
  have hk0_9 : OkB [none, none, none, (some b4.block)] w11 og9 := OkB.ogr (OkB.mem (by simp)) (Nat.le_refl _) ha9
  have hd1_9 := Dj.ogr hd1_6 hlt1 ha9
  have hd2_9 := Dj.ogr hd2_6 hlt2 ha9
  have hd3_9 := Dj.ogr hd3_6 hlt3 ha9
  have hd4_9 := Dj.ogr hd4_6 hlt4 ha9
  have hl10 := Lo.ogr hl7 hB ha10
  have hg0_10 := ha10
  have hk0_10 : OkB [none, none, none, (some b4.block)] w11 og10 := OkB.ogr (OkB.mem (by simp)) (Nat.le_refl _) ha10
  have hd1_10 := Dj.ogr hd1_7 hlt1 ha10
  have hd2_10 := Dj.ogr hd2_7 hlt2 ha10
  have hd3_10 := Dj.ogr hd3_7 hlt3 ha10
  have hd4_10 := Dj.ogr hd4_7 hlt4 ha10
  have hk0_4 : OkB [none, none, none, (some b4.block)] w11 (some b4.block) := OkB.mem (by simp)
  have hB := hB.loop hU0 ⟨hl5, hl6, hl7, hl4, trivial⟩
  have hml := mapR_len (leafM y0 xa2 xy2) k
  refine CW.seq ?_
  refine CW.reg ?_
  refine WL.pure rfl rfl rfl (PV.lss rfl rfl) ?_
  refine WL.nilS ?_
  refine CW.seq ?_
  refine CW.cond rfl (fun hc5 => ?_) (fun hc5 => ?_)
  · skip
    try simp only [decide_eq_true_eq, decide_eq_false_iff_not, Bool.not_eq_true', Bool.not_eq_false', Bool.not_eq_eq_eq_not, Bool.not_true, Bool.not_false, Int.not_lt, Int.not_le, Classical.not_not, beq_iff_eq, beq_eq_false_iff_ne] at hc5
    refine CW.skipS ?_
    refine CW.seq ?_
    refine CW.block ?_
    refine CW.seq ?_
    refine CW.reg ?_
    refine WL.pure rfl rfl rfl (PV.move rfl) ?_
    refine WL.pure rfl rfl rfl (PV.assign rfl) ?_
    refine WL.nilS ?_
    refine CW.draw T.mixed (by kernel_rfl) (fun _ _ _ _ _ h => h) (fun w8 w9 => Upd og8 w8 w9) 15 (.take 0 (.take 1 (.take 2 (.take 3 (.take 5 (.take 6 (.take 8 (.take 9 (.must 4 (.take 7 (.must 10 (.take 11 (.must 12 (.must 13 (.take 14 (.must 15 .done)))))))))))))))) (by kernel_rfl) (fun w12 hXd => ?_)
    have hB := hB.trans hXd
    have hb1 := hb1.up hXd
    have hb2 := hb2.up hXd
    have hb3 := hb3.up hXd
    have hb4 := hb4.up hXd
    have ho8 := ho8.up hXd
    have ho9 := ho9.up hXd
    have ho10 := ho10.up hXd
    have hU0 := hU0.ext hXd
    have hBr := hB
    have hS : Upd og8 w12 w12 := Ext.toUpd (Ext.refl _)
    have hl := allIn_get (k := ((k : Int)).toNat) pa6 (by omega); have hlb := allIn_get (k := ((k : Int)).toNat) pb6 (by omega); have hlp := pair_le (x := xa2.getD ((k : Int)).toNat 0) (n := y0) (by omega) (by omega); have hl0 : ((k : Int)).toNat = k := Int.toNat_natCast k
    refine HP.take rfl rfl rfl rfl hS (fun wS hS1 => (by first | exact PV.fieldAddr T.fl37_2 rfl (by first | assumption | exact Bx.cells (by assumption)) | exact PV.fieldAddrP T.fl37_2 rfl rfl)) ?_
    refine HP.take rfl rfl rfl rfl hS (fun wS hS1 => (by first | exact PV.load0 T.na22 rfl (by first | exact Cells.up (by assumption) (hBr.updL hS1 hl8) | exact Bx.cells (Bx.updD (by assumption) hS1 (by first | assumption | exact Dj.symm (by assumption))) | exact Cells.upd (by assumption) hS1 (by simp)) (Ext.refl _) rfl | exact PV.load1 T.na22 rfl (by first | exact Cells.up (by assumption) (hBr.updL hS1 hl8) | exact Bx.cells (Bx.updD (by assumption) hS1 (by first | assumption | exact Dj.symm (by assumption))) | exact Cells.upd (by assumption) hS1 (by simp)) (Ext.refl _) rfl)) ?_
    refine HP.take rfl rfl rfl rfl hS (fun wS hS1 => (by first | exact PV.loadA T.ag37 rfl (by first | exact Cells.up (by assumption) (hBr.updL hS1 hl8) | exact Bx.cells (Bx.updD (by assumption) hS1 (by first | assumption | exact Dj.symm (by assumption))) | exact Cells.upd (by assumption) hS1 (by simp)) (Ext.refl _) rfl | exact PV.loadP (ds := [_, _, _, _, _]) T.ag37 rfl (by first | exact Cells.up (by assumption) (hBr.updL hS1 hl8) | exact Bx.cells (Bx.updD (by assumption) hS1 (by first | assumption | exact Dj.symm (by assumption))) | exact Cells.upd (by assumption) hS1 (by simp)) (Ext.refl _) rfl rfl)) ?_
    refine HP.take rfl rfl rfl rfl hS (fun wS hS1 => PV.move rfl) ?_
    refine HP.take rfl rfl rfl rfl hS (fun wS hS1 => (by first | exact PV.fieldAddr T.fl37_0 rfl (by first | assumption | exact Bx.cells (by assumption)) | exact PV.fieldAddrP T.fl37_0 rfl rfl)) ?_
    refine HP.take rfl rfl rfl rfl hS (fun wS hS1 => (by first | exact PV.load0 T.na2 rfl (by first | exact Cells.up (by assumption) (hBr.updL hS1 hl8) | exact Bx.cells (Bx.updD (by assumption) hS1 (by first | assumption | exact Dj.symm (by assumption))) | exact Cells.upd (by assumption) hS1 (by simp)) (Ext.refl _) rfl | exact PV.load1 T.na2 rfl (by first | exact Cells.up (by assumption) (hBr.updL hS1 hl8) | exact Bx.cells (Bx.updD (by assumption) hS1 (by first | assumption | exact Dj.symm (by assumption))) | exact Cells.upd (by assumption) hS1 (by simp)) (Ext.refl _) rfl)) ?_
    refine HP.take rfl rfl rfl rfl hS (fun wS hS1 => (by first | exact PV.loadA T.ag37 rfl (by first | exact Cells.up (by assumption) (hBr.updL hS1 hl8) | exact Bx.cells (Bx.updD (by assumption) hS1 (by first | assumption | exact Dj.symm (by assumption))) | exact Cells.upd (by assumption) hS1 (by simp)) (Ext.refl _) rfl | exact PV.loadP (ds := [_, _, _, _, _]) T.ag37 rfl (by first | exact Cells.up (by assumption) (hBr.updL hS1 hl8) | exact Bx.cells (Bx.updD (by assumption) hS1 (by first | assumption | exact Dj.symm (by assumption))) | exact Cells.upd (by assumption) hS1 (by simp)) (Ext.refl _) rfl rfl)) ?_
    refine HP.take rfl rfl rfl rfl hS (fun wS hS1 => PV.move rfl) ?_
    refine HP.must rfl rfl (OpK.callR rfl T.cf79 rfl (c_impl_TreeMachine_leaf (by first | assumption | exact Rd.up (by assumption) hB | exact Osl.rd (by assumption) | exact Osn.rdR (by assumption)) (by first | assumption | exact Rd.up (by assumption) hB | exact Osl.rd (by assumption) | exact Osn.rdR (by assumption)) (by first | assumption | exact Rd.up (by assumption) hB | exact Osl.rd (by assumption) | exact Osn.rdR (by assumption)) (by first | assumption | omega | (simp only [marks_len, marksB_len]; omega))) (fun w13 hXw13 => ?_))
    refine ⟨Upd.trans hS (Ext.toUpd hXw13), ?_⟩
    have hS := Upd.trans hS (Ext.toUpd hXw13)
    have hB := hB.trans hXw13
    have hb1 := hb1.up hXw13
    have hb2 := hb2.up hXw13
    have hb3 := hb3.up hXw13
    have hb4 := hb4.up hXw13
    have ho8 := ho8.up hXw13
    have ho9 := ho9.up hXw13
    have ho10 := ho10.up hXw13
    have hU0 := hU0.ext hXw13
    refine HP.take rfl rfl rfl rfl hS (fun wS hS1 => PV.mul rfl rfl (by constructor <;> omega)) ?_
    refine HP.must rfl rfl (OpK.callR rfl T.cf79 rfl (c_impl_TreeMachine_leaf (by first | assumption | exact Rd.up (by assumption) hB | exact Osl.rd (by assumption) | exact Osn.rdR (by assumption)) (by first | assumption | exact Rd.up (by assumption) hB | exact Osl.rd (by assumption) | exact Osn.rdR (by assumption)) (by first | assumption | exact Rd.up (by assumption) hB | exact Osl.rd (by assumption) | exact Osn.rdR (by assumption)) (by first | assumption | omega | (simp only [marks_len, marksB_len]; omega))) (fun w14 hXw14 => ?_))
    refine ⟨Upd.trans hS (Ext.toUpd hXw14), ?_⟩
    have hS := Upd.trans hS (Ext.toUpd hXw14)
    have hB := hB.trans hXw14
    have hb1 := hb1.up hXw14
    have hb2 := hb2.up hXw14
    have hb3 := hb3.up hXw14
    have hb4 := hb4.up hXw14
    have ho8 := ho8.up hXw14
    have ho9 := ho9.up hXw14
    have ho10 := ho10.up hXw14
    have hU0 := hU0.ext hXw14
    refine HP.take rfl rfl rfl rfl hS (fun wS hS1 => PV.add rfl rfl (by constructor <;> omega)) ?_
    refine HP.must rfl rfl (OpK.buildS VI (os := [.tmp 58]) [_] rfl T.sl22 rfl rfl T.zv2 rfl (by intro z _; rfl) rfl (fun v12 g12 w15 hXw15 ho12 hge12 => ?_))
    have hl12 := Lo.new hB hge12
    have hd1_12 := Dj.new hb1.ltO hge12
    have hd2_12 := Dj.new hb2.ltO hge12
    have hd3_12 := Dj.new hb3.ltO hge12
    have hd4_12 := Dj.new hb4.ltO hge12
    have hd8_12 := Dj.new ho8.ltO hge12
    have hd9_12 := Dj.new ho9.ltO hge12
    have hd10_12 := Dj.new ho10.ltO hge12
    have hk0_12 := OkN.new hU0 hge12
    have hg0_12 := OgR.new hU0.size hge12
    refine ⟨Upd.trans hS (Ext.toUpd hXw15), ?_⟩
    have hS := Upd.trans hS (Ext.toUpd hXw15)
    have hB := hB.trans hXw15
    have hb1 := hb1.up hXw15
    have hb2 := hb2.up hXw15
    have hb3 := hb3.up hXw15
    have hb4 := hb4.up hXw15
    have ho8 := ho8.up hXw15
    have ho9 := ho9.up hXw15
    have ho10 := ho10.up hXw15
    have hU0 := hU0.ext hXw15
    refine HP.must rfl rfl (OpK.appendS (f := VI) rfl T.sl22 T.zv2 rfl rfl ho8 rfl (Osl.src ho12 (fun _ => rfl)) (by first | (simp only [List.length_cons, List.length_nil]; omega) | (simp only [List.length_append, List.length_cons, List.length_nil]; omega)) (fun v13 og13 w16 hXw16 ho13 hap13 => ?_))
    have hl13 := Lo.app hl8 hB hap13
    have hd1_13 := Dj.app hd1_8 hb1.ltO hap13
    have hd2_13 := Dj.app hd2_8 hb2.ltO hap13
    have hd3_13 := Dj.app hd3_8 hb3.ltO hap13
    have hd4_13 := Dj.app hd4_8 hb4.ltO hap13
    have hd9_13 := Dj.app (Dj.symm hd8_9) ho9.ltO hap13
    have hd10_13 := Dj.app (Dj.symm hd8_10) ho10.ltO hap13
    have hd12_13 := Dj.app (Dj.symm hd8_12) ho12.ltO hap13
    have hk0_13 := OkN.app hU0 hk0_8 hap13
    have hg0_13 := OgR.app hg0_8 hU0.size hap13
    refine ⟨Upd.trans hS hXw16, ?_⟩
    have hS := Upd.trans hS hXw16
    have hB := hB.updL hXw16 hl8
    have hb1 := hb1.updD hXw16 hd1_8
    have hb2 := hb2.updD hXw16 hd2_8
    have hb3 := hb3.updD hXw16 hd3_8
    have hb4 := hb4.updD hXw16 hd4_8
    have ho9 := ho9.updD hXw16 (Dj.symm hd8_9)
    have ho10 := ho10.updD hXw16 (Dj.symm hd8_10)
    have ho12 := ho12.updD hXw16 (Dj.symm hd8_12)
    have hU0 := hU0.step hXw16 hk0_8
    refine HP.take rfl rfl rfl rfl hS (fun wS hS1 => (by first | exact PV.fieldAddr T.fl37_2 rfl (by first | assumption | exact Bx.cells (by assumption)) | exact PV.fieldAddrP T.fl37_2 rfl rfl)) ?_
    first
      | refine HP.last rfl rfl (OpK.storeB T.sz22 rfl rfl (by first | rfl | exact Osl.oneCell (by assumption) | exact Osn.oneCell (by assumption) | exact Rd.oneCell (by assumption) | assumption) hb4 rfl (fun w17 hXw17 hb4 => ?_))
      | refine HP.last rfl rfl (OpK.storeB0 T.sz22 rfl rfl (by first | rfl | exact Osl.oneCell (by assumption) | exact Osn.oneCell (by assumption) | exact Rd.oneCell (by assumption) | assumption) hb4 (fun w17 hXw17 hb4 => ?_))
    have hB := hB.updL hXw17 hl4
    have hb1 := hb1.updD hXw17 hd1_4
    have hb2 := hb2.updD hXw17 hd2_4
    have hb3 := hb3.updD hXw17 hd3_4
    have ho9 := ho9.updD hXw17 (Dj.symm hd4_9)
    have ho10 := ho10.updD hXw17 (Dj.symm hd4_10)
    have ho12 := ho12.updD hXw17 (Dj.symm hd4_12)
    have ho13 := ho13.updD hXw17 (Dj.symm hd4_13)
    have hU0 := hU0.step hXw17 hk0_4
    refine HP.done ?_
    refine NQ.block ?_
    refine NQ.then ?_
    refine CW.reg ?_
    refine WL.pure rfl rfl rfl (PV.add rfl rfl (by constructor <;> omega)) ?_
    refine WL.pure rfl rfl rfl (PV.move rfl) ?_
    refine WL.nil ?_
    refine NQ.next (ρ := [(44, _)]) ⟨rfl, rfl, rfl, rfl, rfl, rfl, trivial⟩ ?_
    exact ⟨_, ⟨v13, og13, v9, og9, v10, og10, k + 1, rfl, rfl, hU0, osE ho13 (by exact mapR_put0 rfl), (by first | exact hg0_13 | exact OgR.weak hg0_13), osE ho9 (by first | rfl | (simp_all; done) | (simp_all; omega)), (by first | exact hg0_9 | exact OgR.weak hg0_9), osE ho10 (by first | rfl | (simp_all; done) | (simp_all; omega)), (by first | exact hg0_10 | exact OgR.weak hg0_10), bxE hb4 (by first | rfl | (simp_all; done) | (simp_all; omega)), (Dj.symm hd9_13), (Dj.symm hd10_13), hd9_10, (by first | omega | assumption | (simp_all; done) | (simp_all; omega))⟩, by omega⟩
  try simp only [decide_eq_true_eq, decide_eq_false_iff_not, Bool.not_eq_true', Bool.not_eq_false', Bool.not_eq_eq_eq_not, Bool.not_true, Bool.not_false, Int.not_lt, Int.not_le, Classical.not_not, beq_iff_eq, beq_eq_false_iff_ne] at hc5
  refine CW.exit ?_
  refine XQ.then ?_
  refine XQ.then ?_
  refine XQ.here ?_
  refine NQ.then ?_
  refine CW.seq ?_
  refine CW.seq ?_
  refine CW.reg ?_
  refine WL.pure rfl rfl rfl ((by first | exact PV.fieldAddr T.fl37_0 rfl (by first | assumption | exact Bx.cells (by assumption)) | exact PV.fieldAddrP T.fl37_0 rfl rfl)) ?_
  refine WL.pure rfl rfl rfl ((by first | exact PV.load0 T.na2 rfl (by first | exact Cells.up (by assumption) hB | exact Bx.cells (by assumption) | assumption) (Ext.refl _) rfl | exact PV.load1 T.na2 rfl (by first | exact Cells.up (by assumption) hB | exact Bx.cells (by assumption) | assumption) (Ext.refl _) rfl)) ?_
  refine WL.pure rfl rfl rfl (PV.move rfl) ?_
  refine WL.nilS ?_
  refine CW.block ?_
  have hlt1 := hb1.ltO
  have hlt2 := hb2.ltO
  have hlt3 := hb3.ltO
  have hlt4 := hb4.ltO
  have hlt8 := ho8.ltO
  have hlt9 := ho9.ltO
  have hlt10 := ho10.ltO
  refine CW.loop (σk := [(2, _), (3, _), (4, _), (6, _), (64, _)]) (fun ρ wz m => ∃ (v14 : Value) (og14 : Option Nat) (v15 : Value) (og15 : Option Nat) (v16 : Value) (og16 : Option Nat) (i : Nat), ρ = [(65, .int .i64 (i : Nat))] ∧ m = (a0 * y0).toNat - i ∧ UpdL [og8, og9, og10, (some b4.block)] wl1 wz ∧ Osl VI wz og14 v14 (mapR (leafM y0 xa2 xy2) a1.toNat) ∧ OgR wl1 og8 og14 ∧ Osl VI wz og15 v15 (rowsM (a0 * y0).toNat (nextM a0 y0 xa3 xy3) i) ∧ OgR wl1 og9 og15 ∧ Osl VB wz og16 v16 (mapR (endM y0 xa4 xy4) i) ∧ OgR wl1 og10 og16 ∧ Bx wz b4 [.int .i64 (a0 * y0), .int .i64 a1, v14, v15, v16] ∧ Dj og14 og15 ∧ Dj og14 og16 ∧ Dj og15 og16 ∧ ((i : Int) ≤ a0 * y0)) (ρ₀ := [(65, _)]) (m₀ := _) ⟨rfl, rfl, rfl, rfl, rfl, rfl, trivial⟩ ⟨v8, og8, v9, og9, v10, og10, 0, rfl, rfl, (UpdL.refl _ _), osE ho8 (by rw [show k = a1.toNat from (by omega)]), OgR.refl _ _, osE ho9 (by rfl), OgR.refl _ _, osE ho10 (by rfl), OgR.refl _ _, bxE hb4 (by first | rfl | (simp_all; done) | (simp_all; omega)), hd8_9, hd8_10, hd9_10, (by first | omega | rfl | (simp; done) | assumption | (simp_all; done))⟩ ?_
  rintro _ wl2 _ ⟨v14, og14, v15, og15, v16, og16, i, rfl, rfl, hU1, ho14, ha14, ho15, ha15, ho16, ha16, hb4, hd14_15, hd14_16, hd15_16, hi⟩
  have hb1 := hb1.loop hU1 ⟨hd1_8, hd1_9, hd1_10, hd1_4, trivial⟩
  have hb2 := hb2.loop hU1 ⟨hd2_8, hd2_9, hd2_10, hd2_4, trivial⟩
  have hb3 := hb3.loop hU1 ⟨hd3_8, hd3_9, hd3_10, hd3_4, trivial⟩
  have hl14 := Lo.ogr hl8 hB ha14
  have hg1_14 := ha14
  have hk1_14 : OkB [og8, og9, og10, (some b4.block)] wl1 og14 := OkB.ogr (OkB.mem (by simp)) (Nat.le_refl _) ha14
  have hd1_14 := Dj.ogr hd1_8 hlt1 ha14
  have hd2_14 := Dj.ogr hd2_8 hlt2 ha14
  have hd3_14 := Dj.ogr hd3_8 hlt3 ha14
  have hd4_14 := Dj.ogr hd4_8 hlt4 ha14
  have hl15 := Lo.ogr hl9 hB ha15
  have hg1_15 := ha15
  have hk1_15 : OkB [og8, og9, og10, (some b4.block)] wl1 og15 := OkB.ogr (OkB.mem (by simp)) (Nat.le_refl _) ha15
  have hd1_15 := Dj.ogr hd1_9 hlt1 ha15
  have hd2_15 := Dj.ogr hd2_9 hlt2 ha15
  have hd3_15 := Dj.ogr hd3_9 hlt3 ha15
  have hd4_15 := Dj.ogr hd4_9 hlt4 ha15
  have hl16 := Lo.ogr hl10 hB ha16
  have hg1_16 := ha16
  have hk1_16 : OkB [og8, og9, og10, (some b4.block)] wl1 og16 := OkB.ogr (OkB.mem (by simp)) (Nat.le_refl _) ha16
  have hd1_16 := Dj.ogr hd1_10 hlt1 ha16
  have hd2_16 := Dj.ogr hd2_10 hlt2 ha16
  have hd3_16 := Dj.ogr hd3_10 hlt3 ha16
  have hd4_16 := Dj.ogr hd4_10 hlt4 ha16
  have hk1_4 : OkB [og8, og9, og10, (some b4.block)] wl1 (some b4.block) := OkB.mem (by simp)
  have hB := hB.loop hU1 ⟨hl8, hl9, hl10, hl4, trivial⟩
  have hel := mapR_len (endM y0 xa4 xy4) i; have hrl := rowsM_len (m := (a0 * y0).toNat) (f := nextM a0 y0 xa3 xy3) (by omega) i
  refine CW.seq ?_
  refine CW.reg ?_
  refine WL.pure rfl rfl rfl (PV.lss rfl rfl) ?_
  refine WL.nilS ?_
  refine CW.seq ?_
  refine CW.cond rfl (fun hc6 => ?_) (fun hc6 => ?_)
  · skip
    try simp only [decide_eq_true_eq, decide_eq_false_iff_not, Bool.not_eq_true', Bool.not_eq_false', Bool.not_eq_eq_eq_not, Bool.not_true, Bool.not_false, Int.not_lt, Int.not_le, Classical.not_not, beq_iff_eq, beq_eq_false_iff_ne] at hc6
    refine CW.skipS ?_
    refine CW.seq ?_
    refine CW.block ?_
    refine CW.seq ?_
    refine CW.reg ?_
    refine WL.pure rfl rfl rfl (PV.move rfl) ?_
    refine WL.pure rfl rfl rfl (PV.assign rfl) ?_
    refine WL.nilS ?_
    refine CW.seq ?_
    refine CW.draw T.mixed (by kernel_rfl) (fun _ _ _ _ _ h => h) (fun w8 w9 => Upd og16 w8 w9) 23 (.take 0 (.take 1 (.take 2 (.take 3 (.take 4 (.take 5 (.take 6 (.take 7 (.take 8 (.take 9 (.take 10 (.split (.take 11 (.take 12 (.take 13 (.take 14 (.take 15 (.take 16 (.take 17 (.take 18 (.take 19 (.must 20 (.must 21 (.take 22 (.must 23 .done))))))))))))) (.take 11 (.take 12 (.take 13 (.take 14 (.take 15 (.take 16 (.take 17 (.take 18 (.take 19 (.must 20 (.must 21 (.take 22 (.must 23 .done))))))))))))))))))))))))) (by kernel_rfl) (fun w18 hXd => ?_)
    have hB := hB.trans hXd
    have hb1 := hb1.up hXd
    have hb2 := hb2.up hXd
    have hb3 := hb3.up hXd
    have hb4 := hb4.up hXd
    have ho14 := ho14.up hXd
    have ho15 := ho15.up hXd
    have ho16 := ho16.up hXd
    have hU1 := hU1.ext hXd
    have hBr := hB
    have hS : Upd og16 w18 w18 := Ext.toUpd (Ext.refl _)
    have di := dm (s := a0) (n := y0) (i := (i : Int)) (by omega) (by omega)
    refine HP.take rfl rfl rfl rfl hS (fun wS hS1 => (by first | exact PV.fieldAddr T.fl37_4 rfl (by first | assumption | exact Bx.cells (by assumption)) | exact PV.fieldAddrP T.fl37_4 rfl rfl)) ?_
    refine HP.take rfl rfl rfl rfl hS (fun wS hS1 => (by first | exact PV.load0 T.na32 rfl (by first | exact Cells.up (by assumption) (hBr.updL hS1 hl16) | exact Bx.cells (Bx.updD (by assumption) hS1 (by first | assumption | exact Dj.symm (by assumption))) | exact Cells.upd (by assumption) hS1 (by simp)) (Ext.refl _) rfl | exact PV.load1 T.na32 rfl (by first | exact Cells.up (by assumption) (hBr.updL hS1 hl16) | exact Bx.cells (Bx.updD (by assumption) hS1 (by first | assumption | exact Dj.symm (by assumption))) | exact Cells.upd (by assumption) hS1 (by simp)) (Ext.refl _) rfl)) ?_
    refine HP.take rfl rfl rfl rfl hS (fun wS hS1 => (by first | exact PV.fieldAddr T.fl37_4 rfl (by first | assumption | exact Bx.cells (by assumption)) | exact PV.fieldAddrP T.fl37_4 rfl rfl)) ?_
    refine HP.take rfl rfl rfl rfl hS (fun wS hS1 => (by first | exact PV.load0 T.na32 rfl (by first | exact Cells.up (by assumption) (hBr.updL hS1 hl16) | exact Bx.cells (Bx.updD (by assumption) hS1 (by first | assumption | exact Dj.symm (by assumption))) | exact Cells.upd (by assumption) hS1 (by simp)) (Ext.refl _) rfl | exact PV.load1 T.na32 rfl (by first | exact Cells.up (by assumption) (hBr.updL hS1 hl16) | exact Bx.cells (Bx.updD (by assumption) hS1 (by first | assumption | exact Dj.symm (by assumption))) | exact Cells.upd (by assumption) hS1 (by simp)) (Ext.refl _) rfl)) ?_
    refine HP.take rfl rfl rfl rfl hS (fun wS hS1 => PV.move rfl) ?_
    refine HP.take rfl rfl rfl rfl hS (fun wS hS1 => (by first | exact PV.fieldAddr T.fl37_0 rfl (by first | assumption | exact Bx.cells (by assumption)) | exact PV.fieldAddrP T.fl37_0 rfl rfl)) ?_
    refine HP.take rfl rfl rfl rfl hS (fun wS hS1 => (by first | exact PV.load0 T.na2 rfl (by first | exact Cells.up (by assumption) (hBr.updL hS1 hl16) | exact Bx.cells (Bx.updD (by assumption) hS1 (by first | assumption | exact Dj.symm (by assumption))) | exact Cells.upd (by assumption) hS1 (by simp)) (Ext.refl _) rfl | exact PV.load1 T.na2 rfl (by first | exact Cells.up (by assumption) (hBr.updL hS1 hl16) | exact Bx.cells (Bx.updD (by assumption) hS1 (by first | assumption | exact Dj.symm (by assumption))) | exact Cells.upd (by assumption) hS1 (by simp)) (Ext.refl _) rfl)) ?_
    refine HP.take rfl rfl rfl rfl hS (fun wS hS1 => PV.quoN rfl rfl (by omega)) ?_
    first
      | refine HP.at (x := .tmp 71) (y := .tmp 75) (E := EB) (false) rfl rfl (by assumption) (by omega) (fun p1 csp1 hpp1 hcp1 hq => ?_)
      | refine HP.atZ (x := .tmp 71) (y := .tmp 75) (E := EB) (false) rfl rfl (by assumption) (by omega) (fun p1 csp1 hpp1 hzp1 hcp1 hq => ?_)
    cases hq
    refine HP.take rfl rfl rfl rfl hS (fun wS hS1 => (by first | exact PV.indexAddr hpp1 rfl rfl T.sl32 | exact PV.indexAddr hpp1 rfl (by rw [← hzp1]; rfl) T.sl32)) ?_
    refine HP.take rfl rfl rfl rfl hS (fun wS hS1 => (by first | exact PV.load0 T.na4 rfl (by first | exact Cells.up (by assumption) (hBr.updL hS1 hl16) | exact Bx.cells (Bx.updD (by assumption) hS1 (by first | assumption | exact Dj.symm (by assumption))) | exact Cells.upd (by assumption) hS1 (by simp)) (Ext.refl _) rfl | exact PV.load1 T.na4 rfl (by first | exact Cells.up (by assumption) (hBr.updL hS1 hl16) | exact Bx.cells (Bx.updD (by assumption) hS1 (by first | assumption | exact Dj.symm (by assumption))) | exact Cells.upd (by assumption) hS1 (by simp)) (Ext.refl _) rfl)) ?_
    refine HP.take rfl rfl rfl rfl hS (fun wS hS1 => PV.move rfl) ?_
    refine HP.split (t := 78) rfl (fun hc7 => ?_) (fun hc7 => ?_)
    rotate_left
    · skip
      try simp only [decide_eq_true_eq, decide_eq_false_iff_not, Bool.not_eq_true', Bool.not_eq_false', Bool.not_eq_eq_eq_not, Bool.not_true, Bool.not_false, Int.not_lt, Int.not_le, Classical.not_not, beq_iff_eq, beq_eq_false_iff_ne] at hc7
      refine HP.skip rfl rfl rfl rfl rfl rfl hS ?_
      refine HP.skip rfl rfl rfl rfl rfl rfl hS ?_
      refine HP.skip rfl rfl rfl rfl rfl rfl hS ?_
      refine HP.skip rfl rfl rfl rfl rfl rfl hS ?_
      refine HP.skip rfl rfl rfl rfl rfl rfl hS ?_
      refine HP.skip rfl rfl rfl rfl rfl rfl hS ?_
      refine HP.skip rfl rfl rfl rfl rfl rfl hS ?_
      refine HP.skip rfl rfl rfl rfl rfl rfl hS ?_
      refine HP.take rfl rfl rfl rfl hS (fun wS hS1 => PV.pickF rfl rfl) ?_
      refine HP.must rfl rfl (OpK.buildS VB (os := [.tmp 87]) [_] rfl T.sl32 rfl rfl T.zv4 rfl (by intro z _; rfl) rfl (fun v18 g18 w19 hXw19 ho18 hge18 => ?_))
      have hl18 := Lo.new hB hge18
      have hd1_18 := Dj.new hb1.ltO hge18
      have hd2_18 := Dj.new hb2.ltO hge18
      have hd3_18 := Dj.new hb3.ltO hge18
      have hd4_18 := Dj.new hb4.ltO hge18
      have hd14_18 := Dj.new ho14.ltO hge18
      have hd15_18 := Dj.new ho15.ltO hge18
      have hd16_18 := Dj.new ho16.ltO hge18
      have hk1_18 := OkN.new hU1 hge18
      have hg1_18 := OgR.new hU1.size hge18
      refine ⟨Upd.trans hS (Ext.toUpd hXw19), ?_⟩
      have hS := Upd.trans hS (Ext.toUpd hXw19)
      have hB := hB.trans hXw19
      have hb1 := hb1.up hXw19
      have hb2 := hb2.up hXw19
      have hb3 := hb3.up hXw19
      have hb4 := hb4.up hXw19
      have ho14 := ho14.up hXw19
      have ho15 := ho15.up hXw19
      have ho16 := ho16.up hXw19
      have hU1 := hU1.ext hXw19
      refine HP.must rfl rfl (OpK.appendS (f := VB) rfl T.sl32 T.zv4 rfl rfl ho16 rfl (Osl.src ho18 (fun _ => rfl)) (by first | (simp only [List.length_cons, List.length_nil]; omega) | (simp only [List.length_append, List.length_cons, List.length_nil]; omega)) (fun v19 og19 w20 hXw20 ho19 hap19 => ?_))
      have hl19 := Lo.app hl16 hB hap19
      have hd1_19 := Dj.app hd1_16 hb1.ltO hap19
      have hd2_19 := Dj.app hd2_16 hb2.ltO hap19
      have hd3_19 := Dj.app hd3_16 hb3.ltO hap19
      have hd4_19 := Dj.app hd4_16 hb4.ltO hap19
      have hd14_19 := Dj.app hd14_16 ho14.ltO hap19
      have hd15_19 := Dj.app hd15_16 ho15.ltO hap19
      have hd18_19 := Dj.app (Dj.symm hd16_18) ho18.ltO hap19
      have hk1_19 := OkN.app hU1 hk1_16 hap19
      have hg1_19 := OgR.app hg1_16 hU1.size hap19
      refine ⟨Upd.trans hS hXw20, ?_⟩
      have hS := Upd.trans hS hXw20
      have hB := hB.updL hXw20 hl16
      have hb1 := hb1.updD hXw20 hd1_16
      have hb2 := hb2.updD hXw20 hd2_16
      have hb3 := hb3.updD hXw20 hd3_16
      have hb4 := hb4.updD hXw20 hd4_16
      have ho14 := ho14.updD hXw20 hd14_16
      have ho15 := ho15.updD hXw20 hd15_16
      have ho18 := ho18.updD hXw20 (Dj.symm hd16_18)
      have hU1 := hU1.step hXw20 hk1_16
      refine HP.take rfl rfl rfl rfl hS (fun wS hS1 => (by first | exact PV.fieldAddr T.fl37_4 rfl (by first | assumption | exact Bx.cells (by assumption)) | exact PV.fieldAddrP T.fl37_4 rfl rfl)) ?_
      first
        | refine HP.last rfl rfl (OpK.storeB T.sz32 rfl rfl (by first | rfl | exact Osl.oneCell (by assumption) | exact Osn.oneCell (by assumption) | exact Rd.oneCell (by assumption) | assumption) hb4 rfl (fun w21 hXw21 hb4 => ?_))
        | refine HP.last rfl rfl (OpK.storeB0 T.sz32 rfl rfl (by first | rfl | exact Osl.oneCell (by assumption) | exact Osn.oneCell (by assumption) | exact Rd.oneCell (by assumption) | assumption) hb4 (fun w21 hXw21 hb4 => ?_))
      have hB := hB.updL hXw21 hl4
      have hb1 := hb1.updD hXw21 hd1_4
      have hb2 := hb2.updD hXw21 hd2_4
      have hb3 := hb3.updD hXw21 hd3_4
      have ho14 := ho14.updD hXw21 (Dj.symm hd4_14)
      have ho15 := ho15.updD hXw21 (Dj.symm hd4_15)
      have ho18 := ho18.updD hXw21 (Dj.symm hd4_18)
      have ho19 := ho19.updD hXw21 (Dj.symm hd4_19)
      have hU1 := hU1.step hXw21 hk1_4
      refine HP.doneS ?_
      refine CW.seq ?_
      refine CW.reg ?_
      refine WL.pure rfl rfl rfl ((by first | exact PV.fieldAddr T.fl37_0 rfl (by first | assumption | exact Bx.cells (by assumption)) | exact PV.fieldAddrP T.fl37_0 rfl rfl)) ?_
      refine WL.pure rfl rfl rfl ((by first | exact PV.load0 T.na2 rfl (by first | exact Cells.up (by assumption) hB | exact Bx.cells (by assumption) | assumption) (Ext.refl _) rfl | exact PV.load1 T.na2 rfl (by first | exact Cells.up (by assumption) hB | exact Bx.cells (by assumption) | assumption) (Ext.refl _) rfl)) ?_
      refine WL.pure rfl rfl rfl (PV.move rfl) ?_
      refine WL.nilS ?_
      refine CW.block ?_
      have hlt1 := hb1.ltO
      have hlt2 := hb2.ltO
      have hlt3 := hb3.ltO
      have hlt4 := hb4.ltO
      have hlt14 := ho14.ltO
      have hlt15 := ho15.ltO
      have hlt18 := ho18.ltO
      have hlt19 := ho19.ltO
      refine CW.loop (σk := [(2, _), (3, _), (4, _), (6, _), (8, _), (64, _), (65, _), (92, _)]) (fun ρ wz m => ∃ (v20 : Value) (og20 : Option Nat) (v21 : Value) (og21 : Option Nat) (v22 : Value) (og22 : Option Nat) (k : Nat), ρ = [(93, .int .i64 (k : Nat))] ∧ m = (a0 * y0).toNat - k ∧ UpdL [og14, og15, og19, (some b4.block)] w21 wz ∧ Osl VI wz og20 v20 (mapR (leafM y0 xa2 xy2) a1.toNat) ∧ OgR w21 og14 og20 ∧ Osl VI wz og21 v21 (rowsM (a0 * y0).toNat (nextM a0 y0 xa3 xy3) i ++ mapR (nextM a0 y0 xa3 xy3 i) k) ∧ OgR w21 og15 og21 ∧ Osl VB wz og22 v22 (mapR (endM y0 xa4 xy4) (i + 1)) ∧ OgR w21 og19 og22 ∧ Bx wz b4 [.int .i64 (a0 * y0), .int .i64 a1, v20, v21, v22] ∧ Dj og20 og21 ∧ Dj og20 og22 ∧ Dj og21 og22 ∧ ((k : Int) ≤ a0 * y0)) (ρ₀ := [(93, _)]) (m₀ := _) ⟨rfl, rfl, rfl, rfl, rfl, rfl, rfl, rfl, rfl, trivial⟩ ⟨v14, og14, v15, og15, v19, og19, 0, rfl, rfl, (UpdL.refl _ _), osE ho14 (by rfl), OgR.refl _ _, osE ho15 (by exact mapR_zero _ _), OgR.refl _ _, osE ho19 (by exact mapR_put0 (by first | exact endM_t (by assumption) | exact endM_f (by assumption))), OgR.refl _ _, bxE hb4 (by first | rfl | (simp_all; done) | (simp_all; omega)), hd14_15, hd14_19, hd15_19, (by first | omega | rfl | (simp; done) | assumption | (simp_all; done))⟩ ?_
      rintro _ wl3 _ ⟨v20, og20, v21, og21, v22, og22, k, rfl, rfl, hU2, ho20, ha20, ho21, ha21, ho22, ha22, hb4, hd20_21, hd20_22, hd21_22, hk⟩
      have hU1 := hU1.trans hU2 ⟨hk1_14, hk1_15, hk1_19, hk1_4, trivial⟩
      have hb1 := hb1.loop hU2 ⟨hd1_14, hd1_15, hd1_19, hd1_4, trivial⟩
      have hb2 := hb2.loop hU2 ⟨hd2_14, hd2_15, hd2_19, hd2_4, trivial⟩
      have hb3 := hb3.loop hU2 ⟨hd3_14, hd3_15, hd3_19, hd3_4, trivial⟩
      have ho18 := ho18.loop hU2 ⟨(Dj.symm hd14_18), (Dj.symm hd15_18), hd18_19, (Dj.symm hd4_18), trivial⟩
      have hl20 := Lo.ogr hl14 hB ha20
      have hg2_20 := ha20
      have hk2_20 : OkB [og14, og15, og19, (some b4.block)] w21 og20 := OkB.ogr (OkB.mem (by simp)) (Nat.le_refl _) ha20
      have hk1_20 := OkB.ogr hk1_14 (by first | assumption | exact UpdL.size (by assumption)) ha20
      have hg1_20 := OgR.trans hg1_14 (by first | assumption | exact UpdL.size (by assumption)) ha20
      have hd1_20 := Dj.ogr hd1_14 hlt1 ha20
      have hd2_20 := Dj.ogr hd2_14 hlt2 ha20
      have hd3_20 := Dj.ogr hd3_14 hlt3 ha20
      have hd4_20 := Dj.ogr hd4_14 hlt4 ha20
      have hd18_20 := Dj.ogr (Dj.symm hd14_18) hlt18 ha20
      have hl21 := Lo.ogr hl15 hB ha21
      have hg2_21 := ha21
      have hk2_21 : OkB [og14, og15, og19, (some b4.block)] w21 og21 := OkB.ogr (OkB.mem (by simp)) (Nat.le_refl _) ha21
      have hk1_21 := OkB.ogr hk1_15 (by first | assumption | exact UpdL.size (by assumption)) ha21
      have hg1_21 := OgR.trans hg1_15 (by first | assumption | exact UpdL.size (by assumption)) ha21
      have hd1_21 := Dj.ogr hd1_15 hlt1 ha21
      have hd2_21 := Dj.ogr hd2_15 hlt2 ha21
      have hd3_21 := Dj.ogr hd3_15 hlt3 ha21
      have hd4_21 := Dj.ogr hd4_15 hlt4 ha21
      have hd18_21 := Dj.ogr (Dj.symm hd15_18) hlt18 ha21
      have hl22 := Lo.ogr hl19 hB ha22
      have hg2_22 := ha22
      have hk2_22 : OkB [og14, og15, og19, (some b4.block)] w21 og22 := OkB.ogr (OkB.mem (by simp)) (Nat.le_refl _) ha22
      have hk1_22 := OkB.ogr hk1_19 (by first | assumption | exact UpdL.size (by assumption)) ha22
      have hg1_22 := OgR.trans hg1_19 (by first | assumption | exact UpdL.size (by assumption)) ha22
      have hd1_22 := Dj.ogr hd1_19 hlt1 ha22
      have hd2_22 := Dj.ogr hd2_19 hlt2 ha22
      have hd3_22 := Dj.ogr hd3_19 hlt3 ha22
      have hd4_22 := Dj.ogr hd4_19 hlt4 ha22
      have hd18_22 := Dj.ogr hd18_19 hlt18 ha22
      have hk2_4 : OkB [og14, og15, og19, (some b4.block)] w21 (some b4.block) := OkB.mem (by simp)
      have hB := hB.loop hU2 ⟨hl14, hl15, hl19, hl4, trivial⟩
      have hnl := mapR_len (nextM a0 y0 xa3 xy3 i) k
      refine CW.seq ?_
      refine CW.reg ?_
      refine WL.pure rfl rfl rfl (PV.lss rfl rfl) ?_
      refine WL.nilS ?_
      refine CW.seq ?_
      refine CW.cond rfl (fun hc8 => ?_) (fun hc8 => ?_)
      · skip
        try simp only [decide_eq_true_eq, decide_eq_false_iff_not, Bool.not_eq_true', Bool.not_eq_false', Bool.not_eq_eq_eq_not, Bool.not_true, Bool.not_false, Int.not_lt, Int.not_le, Classical.not_not, beq_iff_eq, beq_eq_false_iff_ne] at hc8
        refine CW.skipS ?_
        refine CW.seq ?_
        refine CW.block ?_
        refine CW.seq ?_
        refine CW.reg ?_
        refine WL.pure rfl rfl rfl (PV.move rfl) ?_
        refine WL.pure rfl rfl rfl (PV.assign rfl) ?_
        refine WL.nilS ?_
        refine CW.draw T.mixed (by kernel_rfl) (fun _ _ _ _ _ h => h) (fun w8 w9 => Upd og21 w8 w9) 29 (.take 0 (.take 1 (.take 2 (.take 3 (.take 4 (.take 5 (.take 6 (.take 7 (.take 8 (.take 9 (.take 10 (.take 12 (.take 13 (.take 15 (.take 16 (.take 17 (.take 18 (.take 19 (.take 20 (.take 21 (.take 22 (.take 23 (.must 11 (.take 14 (.must 24 (.take 25 (.must 26 (.must 27 (.take 28 (.must 29 .done)))))))))))))))))))))))))))))) (by kernel_rfl) (fun w22 hXd => ?_)
        have hB := hB.trans hXd
        have hb1 := hb1.up hXd
        have hb2 := hb2.up hXd
        have hb3 := hb3.up hXd
        have hb4 := hb4.up hXd
        have ho18 := ho18.up hXd
        have ho20 := ho20.up hXd
        have ho21 := ho21.up hXd
        have ho22 := ho22.up hXd
        have hU1 := hU1.ext hXd
        have hU2 := hU2.ext hXd
        have hBr := hB
        have hS : Upd og21 w22 w22 := Ext.toUpd (Ext.refl _)
        have di := dm (s := a0) (n := y0) (i := (i : Int)) (by omega) (by omega); have dk := dm (s := a0) (n := y0) (i := (k : Int)) (by omega) (by omega); have ix := sq_idx (s := a0) (q := (i : Int).tdiv y0) (r := (k : Int).tdiv y0) (n := xa3.length) (by omega) (by omega) (by omega) (by omega); have iy := sq_idx (s := y0) (q := (i : Int).tmod y0) (r := (k : Int).tmod y0) (n := xy3.length) (by omega) (by omega) (by omega) (by omega); have vx := allIn_get (k := ((i : Int).tdiv y0 * a0 + (k : Int).tdiv y0).toNat) pa7 (by omega); have vy := allIn_get (k := ((i : Int).tmod y0 * y0 + (k : Int).tmod y0).toNat) pb7 (by omega); have vp := pair_le (x := xa3.getD ((i : Int).tdiv y0 * a0 + (k : Int).tdiv y0).toNat 0) (n := y0) (by omega) (by omega)
        refine HP.take rfl rfl rfl rfl hS (fun wS hS1 => (by first | exact PV.fieldAddr T.fl37_3 rfl (by first | assumption | exact Bx.cells (by assumption)) | exact PV.fieldAddrP T.fl37_3 rfl rfl)) ?_
        refine HP.take rfl rfl rfl rfl hS (fun wS hS1 => (by first | exact PV.load0 T.na22 rfl (by first | exact Cells.up (by assumption) (hBr.updL hS1 hl21) | exact Bx.cells (Bx.updD (by assumption) hS1 (by first | assumption | exact Dj.symm (by assumption))) | exact Cells.upd (by assumption) hS1 (by simp)) (Ext.refl _) rfl | exact PV.load1 T.na22 rfl (by first | exact Cells.up (by assumption) (hBr.updL hS1 hl21) | exact Bx.cells (Bx.updD (by assumption) hS1 (by first | assumption | exact Dj.symm (by assumption))) | exact Cells.upd (by assumption) hS1 (by simp)) (Ext.refl _) rfl)) ?_
        refine HP.take rfl rfl rfl rfl hS (fun wS hS1 => (by first | exact PV.loadA T.ag37 rfl (by first | exact Cells.up (by assumption) (hBr.updL hS1 hl21) | exact Bx.cells (Bx.updD (by assumption) hS1 (by first | assumption | exact Dj.symm (by assumption))) | exact Cells.upd (by assumption) hS1 (by simp)) (Ext.refl _) rfl | exact PV.loadP (ds := [_, _, _, _, _]) T.ag37 rfl (by first | exact Cells.up (by assumption) (hBr.updL hS1 hl21) | exact Bx.cells (Bx.updD (by assumption) hS1 (by first | assumption | exact Dj.symm (by assumption))) | exact Cells.upd (by assumption) hS1 (by simp)) (Ext.refl _) rfl rfl)) ?_
        refine HP.take rfl rfl rfl rfl hS (fun wS hS1 => PV.move rfl) ?_
        refine HP.take rfl rfl rfl rfl hS (fun wS hS1 => (by first | exact PV.fieldAddr T.fl37_0 rfl (by first | assumption | exact Bx.cells (by assumption)) | exact PV.fieldAddrP T.fl37_0 rfl rfl)) ?_
        refine HP.take rfl rfl rfl rfl hS (fun wS hS1 => (by first | exact PV.load0 T.na2 rfl (by first | exact Cells.up (by assumption) (hBr.updL hS1 hl21) | exact Bx.cells (Bx.updD (by assumption) hS1 (by first | assumption | exact Dj.symm (by assumption))) | exact Cells.upd (by assumption) hS1 (by simp)) (Ext.refl _) rfl | exact PV.load1 T.na2 rfl (by first | exact Cells.up (by assumption) (hBr.updL hS1 hl21) | exact Bx.cells (Bx.updD (by assumption) hS1 (by first | assumption | exact Dj.symm (by assumption))) | exact Cells.upd (by assumption) hS1 (by simp)) (Ext.refl _) rfl)) ?_
        refine HP.take rfl rfl rfl rfl hS (fun wS hS1 => PV.quoN rfl rfl (by omega)) ?_
        refine HP.take rfl rfl rfl rfl hS (fun wS hS1 => PV.move rfl) ?_
        refine HP.take rfl rfl rfl rfl hS (fun wS hS1 => (by first | exact PV.fieldAddr T.fl37_0 rfl (by first | assumption | exact Bx.cells (by assumption)) | exact PV.fieldAddrP T.fl37_0 rfl rfl)) ?_
        refine HP.take rfl rfl rfl rfl hS (fun wS hS1 => (by first | exact PV.load0 T.na2 rfl (by first | exact Cells.up (by assumption) (hBr.updL hS1 hl21) | exact Bx.cells (Bx.updD (by assumption) hS1 (by first | assumption | exact Dj.symm (by assumption))) | exact Cells.upd (by assumption) hS1 (by simp)) (Ext.refl _) rfl | exact PV.load1 T.na2 rfl (by first | exact Cells.up (by assumption) (hBr.updL hS1 hl21) | exact Bx.cells (Bx.updD (by assumption) hS1 (by first | assumption | exact Dj.symm (by assumption))) | exact Cells.upd (by assumption) hS1 (by simp)) (Ext.refl _) rfl)) ?_
        refine HP.take rfl rfl rfl rfl hS (fun wS hS1 => PV.quoN rfl rfl (by omega)) ?_
        refine HP.take rfl rfl rfl rfl hS (fun wS hS1 => (by first | exact PV.fieldAddr T.fl37_0 rfl (by first | assumption | exact Bx.cells (by assumption)) | exact PV.fieldAddrP T.fl37_0 rfl rfl)) ?_
        refine HP.take rfl rfl rfl rfl hS (fun wS hS1 => (by first | exact PV.load0 T.na2 rfl (by first | exact Cells.up (by assumption) (hBr.updL hS1 hl21) | exact Bx.cells (Bx.updD (by assumption) hS1 (by first | assumption | exact Dj.symm (by assumption))) | exact Cells.upd (by assumption) hS1 (by simp)) (Ext.refl _) rfl | exact PV.load1 T.na2 rfl (by first | exact Cells.up (by assumption) (hBr.updL hS1 hl21) | exact Bx.cells (Bx.updD (by assumption) hS1 (by first | assumption | exact Dj.symm (by assumption))) | exact Cells.upd (by assumption) hS1 (by simp)) (Ext.refl _) rfl)) ?_
        refine HP.take rfl rfl rfl rfl hS (fun wS hS1 => (by first | exact PV.loadA T.ag37 rfl (by first | exact Cells.up (by assumption) (hBr.updL hS1 hl21) | exact Bx.cells (Bx.updD (by assumption) hS1 (by first | assumption | exact Dj.symm (by assumption))) | exact Cells.upd (by assumption) hS1 (by simp)) (Ext.refl _) rfl | exact PV.loadP (ds := [_, _, _, _, _]) T.ag37 rfl (by first | exact Cells.up (by assumption) (hBr.updL hS1 hl21) | exact Bx.cells (Bx.updD (by assumption) hS1 (by first | assumption | exact Dj.symm (by assumption))) | exact Cells.upd (by assumption) hS1 (by simp)) (Ext.refl _) rfl rfl)) ?_
        refine HP.take rfl rfl rfl rfl hS (fun wS hS1 => PV.move rfl) ?_
        refine HP.take rfl rfl rfl rfl hS (fun wS hS1 => (by first | exact PV.fieldAddr T.fl37_0 rfl (by first | assumption | exact Bx.cells (by assumption)) | exact PV.fieldAddrP T.fl37_0 rfl rfl)) ?_
        refine HP.take rfl rfl rfl rfl hS (fun wS hS1 => (by first | exact PV.load0 T.na2 rfl (by first | exact Cells.up (by assumption) (hBr.updL hS1 hl21) | exact Bx.cells (Bx.updD (by assumption) hS1 (by first | assumption | exact Dj.symm (by assumption))) | exact Cells.upd (by assumption) hS1 (by simp)) (Ext.refl _) rfl | exact PV.load1 T.na2 rfl (by first | exact Cells.up (by assumption) (hBr.updL hS1 hl21) | exact Bx.cells (Bx.updD (by assumption) hS1 (by first | assumption | exact Dj.symm (by assumption))) | exact Cells.upd (by assumption) hS1 (by simp)) (Ext.refl _) rfl)) ?_
        refine HP.take rfl rfl rfl rfl hS (fun wS hS1 => PV.rem rfl rfl (by omega) rfl) ?_
        refine HP.take rfl rfl rfl rfl hS (fun wS hS1 => PV.move rfl) ?_
        refine HP.take rfl rfl rfl rfl hS (fun wS hS1 => (by first | exact PV.fieldAddr T.fl37_0 rfl (by first | assumption | exact Bx.cells (by assumption)) | exact PV.fieldAddrP T.fl37_0 rfl rfl)) ?_
        refine HP.take rfl rfl rfl rfl hS (fun wS hS1 => (by first | exact PV.load0 T.na2 rfl (by first | exact Cells.up (by assumption) (hBr.updL hS1 hl21) | exact Bx.cells (Bx.updD (by assumption) hS1 (by first | assumption | exact Dj.symm (by assumption))) | exact Cells.upd (by assumption) hS1 (by simp)) (Ext.refl _) rfl | exact PV.load1 T.na2 rfl (by first | exact Cells.up (by assumption) (hBr.updL hS1 hl21) | exact Bx.cells (Bx.updD (by assumption) hS1 (by first | assumption | exact Dj.symm (by assumption))) | exact Cells.upd (by assumption) hS1 (by simp)) (Ext.refl _) rfl)) ?_
        refine HP.take rfl rfl rfl rfl hS (fun wS hS1 => PV.rem rfl rfl (by omega) rfl) ?_
        refine HP.must rfl rfl (OpK.callR rfl T.cf80 rfl (c_impl_TreeMachine_join (by first | assumption | exact Rd.up (by assumption) hB | exact Osl.rd (by assumption) | exact Osn.rdR (by assumption)) (by first | assumption | exact Rd.up (by assumption) hB | exact Osl.rd (by assumption) | exact Osn.rdR (by assumption)) (by first | assumption | exact Rd.up (by assumption) hB | exact Osl.rd (by assumption) | exact Osn.rdR (by assumption)) (by first | assumption | omega | (simp only [marks_len, marksB_len]; omega)) (by first | assumption | omega | (simp only [marks_len, marksB_len]; omega)) (by first | assumption | omega | (simp only [marks_len, marksB_len]; omega)) (by first | assumption | omega | (simp only [marks_len, marksB_len]; omega))) (fun w23 hXw23 => ?_))
        refine ⟨Upd.trans hS (Ext.toUpd hXw23), ?_⟩
        have hS := Upd.trans hS (Ext.toUpd hXw23)
        have hB := hB.trans hXw23
        have hb1 := hb1.up hXw23
        have hb2 := hb2.up hXw23
        have hb3 := hb3.up hXw23
        have hb4 := hb4.up hXw23
        have ho18 := ho18.up hXw23
        have ho20 := ho20.up hXw23
        have ho21 := ho21.up hXw23
        have ho22 := ho22.up hXw23
        have hU1 := hU1.ext hXw23
        have hU2 := hU2.ext hXw23
        refine HP.take rfl rfl rfl rfl hS (fun wS hS1 => PV.mul rfl rfl (by constructor <;> omega)) ?_
        refine HP.must rfl rfl (OpK.callR rfl T.cf80 rfl (c_impl_TreeMachine_join (by first | assumption | exact Rd.up (by assumption) hB | exact Osl.rd (by assumption) | exact Osn.rdR (by assumption)) (by first | assumption | exact Rd.up (by assumption) hB | exact Osl.rd (by assumption) | exact Osn.rdR (by assumption)) (by first | assumption | exact Rd.up (by assumption) hB | exact Osl.rd (by assumption) | exact Osn.rdR (by assumption)) (by first | assumption | omega | (simp only [marks_len, marksB_len]; omega)) (by first | assumption | omega | (simp only [marks_len, marksB_len]; omega)) (by first | assumption | omega | (simp only [marks_len, marksB_len]; omega)) (by first | assumption | omega | (simp only [marks_len, marksB_len]; omega))) (fun w24 hXw24 => ?_))
        refine ⟨Upd.trans hS (Ext.toUpd hXw24), ?_⟩
        have hS := Upd.trans hS (Ext.toUpd hXw24)
        have hB := hB.trans hXw24
        have hb1 := hb1.up hXw24
        have hb2 := hb2.up hXw24
        have hb3 := hb3.up hXw24
        have hb4 := hb4.up hXw24
        have ho18 := ho18.up hXw24
        have ho20 := ho20.up hXw24
        have ho21 := ho21.up hXw24
        have ho22 := ho22.up hXw24
        have hU1 := hU1.ext hXw24
        have hU2 := hU2.ext hXw24
        refine HP.take rfl rfl rfl rfl hS (fun wS hS1 => PV.add rfl rfl (by constructor <;> omega)) ?_
        refine HP.must rfl rfl (OpK.buildS VI (os := [.tmp 121]) [_] rfl T.sl22 rfl rfl T.zv2 rfl (by intro z _; rfl) rfl (fun v24 g24 w25 hXw25 ho24 hge24 => ?_))
        have hl24 := Lo.new hB hge24
        have hd1_24 := Dj.new hb1.ltO hge24
        have hd2_24 := Dj.new hb2.ltO hge24
        have hd3_24 := Dj.new hb3.ltO hge24
        have hd4_24 := Dj.new hb4.ltO hge24
        have hd18_24 := Dj.new ho18.ltO hge24
        have hd20_24 := Dj.new ho20.ltO hge24
        have hd21_24 := Dj.new ho21.ltO hge24
        have hd22_24 := Dj.new ho22.ltO hge24
        have hk1_24 := OkN.new hU1 hge24
        have hg1_24 := OgR.new hU1.size hge24
        have hk2_24 := OkN.new hU2 hge24
        have hg2_24 := OgR.new hU2.size hge24
        refine ⟨Upd.trans hS (Ext.toUpd hXw25), ?_⟩
        have hS := Upd.trans hS (Ext.toUpd hXw25)
        have hB := hB.trans hXw25
        have hb1 := hb1.up hXw25
        have hb2 := hb2.up hXw25
        have hb3 := hb3.up hXw25
        have hb4 := hb4.up hXw25
        have ho18 := ho18.up hXw25
        have ho20 := ho20.up hXw25
        have ho21 := ho21.up hXw25
        have ho22 := ho22.up hXw25
        have hU1 := hU1.ext hXw25
        have hU2 := hU2.ext hXw25
        refine HP.must rfl rfl (OpK.appendS (f := VI) rfl T.sl22 T.zv2 rfl rfl ho21 rfl (Osl.src ho24 (fun _ => rfl)) (by first | (simp only [List.length_cons, List.length_nil]; omega) | (simp only [List.length_append, List.length_cons, List.length_nil]; omega)) (fun v25 og25 w26 hXw26 ho25 hap25 => ?_))
        have hl25 := Lo.app hl21 hB hap25
        have hd1_25 := Dj.app hd1_21 hb1.ltO hap25
        have hd2_25 := Dj.app hd2_21 hb2.ltO hap25
        have hd3_25 := Dj.app hd3_21 hb3.ltO hap25
        have hd4_25 := Dj.app hd4_21 hb4.ltO hap25
        have hd18_25 := Dj.app hd18_21 ho18.ltO hap25
        have hd20_25 := Dj.app hd20_21 ho20.ltO hap25
        have hd22_25 := Dj.app (Dj.symm hd21_22) ho22.ltO hap25
        have hd24_25 := Dj.app (Dj.symm hd21_24) ho24.ltO hap25
        have hk1_25 := OkN.app hU1 hk1_21 hap25
        have hg1_25 := OgR.app hg1_21 hU1.size hap25
        have hk2_25 := OkN.app hU2 hk2_21 hap25
        have hg2_25 := OgR.app hg2_21 hU2.size hap25
        refine ⟨Upd.trans hS hXw26, ?_⟩
        have hS := Upd.trans hS hXw26
        have hB := hB.updL hXw26 hl21
        have hb1 := hb1.updD hXw26 hd1_21
        have hb2 := hb2.updD hXw26 hd2_21
        have hb3 := hb3.updD hXw26 hd3_21
        have hb4 := hb4.updD hXw26 hd4_21
        have ho18 := ho18.updD hXw26 hd18_21
        have ho20 := ho20.updD hXw26 hd20_21
        have ho22 := ho22.updD hXw26 (Dj.symm hd21_22)
        have ho24 := ho24.updD hXw26 (Dj.symm hd21_24)
        have hU1 := hU1.step hXw26 hk1_21
        have hU2 := hU2.step hXw26 hk2_21
        refine HP.take rfl rfl rfl rfl hS (fun wS hS1 => (by first | exact PV.fieldAddr T.fl37_3 rfl (by first | assumption | exact Bx.cells (by assumption)) | exact PV.fieldAddrP T.fl37_3 rfl rfl)) ?_
        first
          | refine HP.last rfl rfl (OpK.storeB T.sz22 rfl rfl (by first | rfl | exact Osl.oneCell (by assumption) | exact Osn.oneCell (by assumption) | exact Rd.oneCell (by assumption) | assumption) hb4 rfl (fun w27 hXw27 hb4 => ?_))
          | refine HP.last rfl rfl (OpK.storeB0 T.sz22 rfl rfl (by first | rfl | exact Osl.oneCell (by assumption) | exact Osn.oneCell (by assumption) | exact Rd.oneCell (by assumption) | assumption) hb4 (fun w27 hXw27 hb4 => ?_))
        have hB := hB.updL hXw27 hl4
        have hb1 := hb1.updD hXw27 hd1_4
        have hb2 := hb2.updD hXw27 hd2_4
        have hb3 := hb3.updD hXw27 hd3_4
        have ho18 := ho18.updD hXw27 (Dj.symm hd4_18)
        have ho20 := ho20.updD hXw27 (Dj.symm hd4_20)
        have ho22 := ho22.updD hXw27 (Dj.symm hd4_22)
        have ho24 := ho24.updD hXw27 (Dj.symm hd4_24)
        have ho25 := ho25.updD hXw27 (Dj.symm hd4_25)
        have hU1 := hU1.step hXw27 hk1_4
        have hU2 := hU2.step hXw27 hk2_4
        refine HP.done ?_
        refine NQ.block ?_
        refine NQ.then ?_
        refine CW.reg ?_
        refine WL.pure rfl rfl rfl (PV.add rfl rfl (by constructor <;> omega)) ?_
        refine WL.pure rfl rfl rfl (PV.move rfl) ?_
        refine WL.nil ?_
        refine NQ.next (ρ := [(93, _)]) ⟨rfl, rfl, rfl, rfl, rfl, rfl, rfl, rfl, rfl, trivial⟩ ?_
        exact ⟨_, ⟨v20, og20, v25, og25, v22, og22, k + 1, rfl, rfl, hU2, osE ho20 (by first | rfl | (simp_all; done) | (simp_all; omega)), (by first | exact hg2_20 | exact OgR.weak hg2_20), osE ho25 (by exact mapR_put rfl), (by first | exact hg2_25 | exact OgR.weak hg2_25), osE ho22 (by first | rfl | (simp_all; done) | (simp_all; omega)), (by first | exact hg2_22 | exact OgR.weak hg2_22), bxE hb4 (by first | rfl | (simp_all; done) | (simp_all; omega)), hd20_25, hd20_22, (Dj.symm hd22_25), (by first | omega | assumption | (simp_all; done) | (simp_all; omega))⟩, by omega⟩
      try simp only [decide_eq_true_eq, decide_eq_false_iff_not, Bool.not_eq_true', Bool.not_eq_false', Bool.not_eq_eq_eq_not, Bool.not_true, Bool.not_false, Int.not_lt, Int.not_le, Classical.not_not, beq_iff_eq, beq_eq_false_iff_ne] at hc8
      refine CW.exit ?_
      refine XQ.then ?_
      refine XQ.then ?_
      refine XQ.here ?_
      refine NQ.block ?_
      refine NQ.then ?_
      refine CW.reg ?_
      refine WL.pure rfl rfl rfl (PV.add rfl rfl (by constructor <;> omega)) ?_
      refine WL.pure rfl rfl rfl (PV.move rfl) ?_
      refine WL.nil ?_
      refine NQ.next (ρ := [(65, _)]) ⟨rfl, rfl, rfl, rfl, rfl, rfl, trivial⟩ ?_
      exact ⟨_, ⟨v20, og20, v21, og21, v22, og22, i + 1, rfl, rfl, hU1, osE ho20 (by first | rfl | (simp_all; done) | (simp_all; omega)), (by first | exact hg1_20 | exact OgR.weak hg1_20), osE ho21 (by exact rowsM_succ (by omega)), (by first | exact hg1_21 | exact OgR.weak hg1_21), osE ho22 (by rfl), (by first | exact hg1_22 | exact OgR.weak hg1_22), bxE hb4 (by first | rfl | (simp_all; done) | (simp_all; omega)), hd20_21, hd20_22, hd21_22, (by first | omega | assumption | (simp_all; done) | (simp_all; omega))⟩, by omega⟩
    try simp only [decide_eq_true_eq, decide_eq_false_iff_not, Bool.not_eq_true', Bool.not_eq_false', Bool.not_eq_eq_eq_not, Bool.not_true, Bool.not_false, Int.not_lt, Int.not_le, Classical.not_not, beq_iff_eq, beq_eq_false_iff_ne] at hc7
    refine HP.takeG rfl rfl rfl rfl rfl rfl hS (fun wS hS1 => (by first | exact PV.fieldAddr T.fl37_4 rfl (by first | assumption | exact Bx.cells (by assumption)) | exact PV.fieldAddrP T.fl37_4 rfl rfl)) ?_
    refine HP.takeG rfl rfl rfl rfl rfl rfl hS (fun wS hS1 => (by first | exact PV.load0 T.na32 rfl (by first | exact Cells.up (by assumption) (hBr.updL hS1 hl16) | exact Bx.cells (Bx.updD (by assumption) hS1 (by first | assumption | exact Dj.symm (by assumption))) | exact Cells.upd (by assumption) hS1 (by simp)) (Ext.refl _) rfl | exact PV.load1 T.na32 rfl (by first | exact Cells.up (by assumption) (hBr.updL hS1 hl16) | exact Bx.cells (Bx.updD (by assumption) hS1 (by first | assumption | exact Dj.symm (by assumption))) | exact Cells.upd (by assumption) hS1 (by simp)) (Ext.refl _) rfl)) ?_
    refine HP.takeG rfl rfl rfl rfl rfl rfl hS (fun wS hS1 => PV.move rfl) ?_
    refine HP.takeG rfl rfl rfl rfl rfl rfl hS (fun wS hS1 => (by first | exact PV.fieldAddr T.fl37_0 rfl (by first | assumption | exact Bx.cells (by assumption)) | exact PV.fieldAddrP T.fl37_0 rfl rfl)) ?_
    refine HP.takeG rfl rfl rfl rfl rfl rfl hS (fun wS hS1 => (by first | exact PV.load0 T.na2 rfl (by first | exact Cells.up (by assumption) (hBr.updL hS1 hl16) | exact Bx.cells (Bx.updD (by assumption) hS1 (by first | assumption | exact Dj.symm (by assumption))) | exact Cells.upd (by assumption) hS1 (by simp)) (Ext.refl _) rfl | exact PV.load1 T.na2 rfl (by first | exact Cells.up (by assumption) (hBr.updL hS1 hl16) | exact Bx.cells (Bx.updD (by assumption) hS1 (by first | assumption | exact Dj.symm (by assumption))) | exact Cells.upd (by assumption) hS1 (by simp)) (Ext.refl _) rfl)) ?_
    refine HP.takeG rfl rfl rfl rfl rfl rfl hS (fun wS hS1 => PV.rem rfl rfl (by omega) rfl) ?_
    first
      | refine HP.at (x := .tmp 80) (y := .tmp 84) (E := EB) (false) rfl rfl (by assumption) (by omega) (fun p2 csp2 hpp2 hcp2 hq => ?_)
      | refine HP.atZ (x := .tmp 80) (y := .tmp 84) (E := EB) (false) rfl rfl (by assumption) (by omega) (fun p2 csp2 hpp2 hzp2 hcp2 hq => ?_)
    cases hq
    refine HP.takeG rfl rfl rfl rfl rfl rfl hS (fun wS hS1 => (by first | exact PV.indexAddr hpp2 rfl rfl T.sl32 | exact PV.indexAddr hpp2 rfl (by rw [← hzp2]; rfl) T.sl32)) ?_
    refine HP.takeG rfl rfl rfl rfl rfl rfl hS (fun wS hS1 => (by first | exact PV.load0 T.na4 rfl (by first | exact Cells.up (by assumption) (hBr.updL hS1 hl16) | exact Bx.cells (Bx.updD (by assumption) hS1 (by first | assumption | exact Dj.symm (by assumption))) | exact Cells.upd (by assumption) hS1 (by simp)) (Ext.refl _) rfl | exact PV.load1 T.na4 rfl (by first | exact Cells.up (by assumption) (hBr.updL hS1 hl16) | exact Bx.cells (Bx.updD (by assumption) hS1 (by first | assumption | exact Dj.symm (by assumption))) | exact Cells.upd (by assumption) hS1 (by simp)) (Ext.refl _) rfl)) ?_
    refine HP.take rfl rfl rfl rfl hS (fun wS hS1 => PV.pickT rfl rfl) ?_
    refine HP.must rfl rfl (OpK.buildS VB (os := [.tmp 87]) [_] rfl T.sl32 rfl rfl T.zv4 rfl (by intro z _; rfl) rfl (fun v26 g26 w28 hXw28 ho26 hge26 => ?_))
    have hl26 := Lo.new hB hge26
    have hd1_26 := Dj.new hb1.ltO hge26
    have hd2_26 := Dj.new hb2.ltO hge26
    have hd3_26 := Dj.new hb3.ltO hge26
    have hd4_26 := Dj.new hb4.ltO hge26
    have hd14_26 := Dj.new ho14.ltO hge26
    have hd15_26 := Dj.new ho15.ltO hge26
    have hd16_26 := Dj.new ho16.ltO hge26
    have hk1_26 := OkN.new hU1 hge26
    have hg1_26 := OgR.new hU1.size hge26
    refine ⟨Upd.trans hS (Ext.toUpd hXw28), ?_⟩
    have hS := Upd.trans hS (Ext.toUpd hXw28)
    have hB := hB.trans hXw28
    have hb1 := hb1.up hXw28
    have hb2 := hb2.up hXw28
    have hb3 := hb3.up hXw28
    have hb4 := hb4.up hXw28
    have ho14 := ho14.up hXw28
    have ho15 := ho15.up hXw28
    have ho16 := ho16.up hXw28
    have hU1 := hU1.ext hXw28
    refine HP.must rfl rfl (OpK.appendS (f := VB) rfl T.sl32 T.zv4 rfl rfl ho16 rfl (Osl.src ho26 (fun _ => rfl)) (by first | (simp only [List.length_cons, List.length_nil]; omega) | (simp only [List.length_append, List.length_cons, List.length_nil]; omega)) (fun v27 og27 w29 hXw29 ho27 hap27 => ?_))
    have hl27 := Lo.app hl16 hB hap27
    have hd1_27 := Dj.app hd1_16 hb1.ltO hap27
    have hd2_27 := Dj.app hd2_16 hb2.ltO hap27
    have hd3_27 := Dj.app hd3_16 hb3.ltO hap27
    have hd4_27 := Dj.app hd4_16 hb4.ltO hap27
    have hd14_27 := Dj.app hd14_16 ho14.ltO hap27
    have hd15_27 := Dj.app hd15_16 ho15.ltO hap27
    have hd26_27 := Dj.app (Dj.symm hd16_26) ho26.ltO hap27
    have hk1_27 := OkN.app hU1 hk1_16 hap27
    have hg1_27 := OgR.app hg1_16 hU1.size hap27
    refine ⟨Upd.trans hS hXw29, ?_⟩
    have hS := Upd.trans hS hXw29
    have hB := hB.updL hXw29 hl16
    have hb1 := hb1.updD hXw29 hd1_16
    have hb2 := hb2.updD hXw29 hd2_16
    have hb3 := hb3.updD hXw29 hd3_16
    have hb4 := hb4.updD hXw29 hd4_16
    have ho14 := ho14.updD hXw29 hd14_16
    have ho15 := ho15.updD hXw29 hd15_16
    have ho26 := ho26.updD hXw29 (Dj.symm hd16_26)
    have hU1 := hU1.step hXw29 hk1_16
    refine HP.take rfl rfl rfl rfl hS (fun wS hS1 => (by first | exact PV.fieldAddr T.fl37_4 rfl (by first | assumption | exact Bx.cells (by assumption)) | exact PV.fieldAddrP T.fl37_4 rfl rfl)) ?_
    first
      | refine HP.last rfl rfl (OpK.storeB T.sz32 rfl rfl (by first | rfl | exact Osl.oneCell (by assumption) | exact Osn.oneCell (by assumption) | exact Rd.oneCell (by assumption) | assumption) hb4 rfl (fun w30 hXw30 hb4 => ?_))
      | refine HP.last rfl rfl (OpK.storeB0 T.sz32 rfl rfl (by first | rfl | exact Osl.oneCell (by assumption) | exact Osn.oneCell (by assumption) | exact Rd.oneCell (by assumption) | assumption) hb4 (fun w30 hXw30 hb4 => ?_))
    have hB := hB.updL hXw30 hl4
    have hb1 := hb1.updD hXw30 hd1_4
    have hb2 := hb2.updD hXw30 hd2_4
    have hb3 := hb3.updD hXw30 hd3_4
    have ho14 := ho14.updD hXw30 (Dj.symm hd4_14)
    have ho15 := ho15.updD hXw30 (Dj.symm hd4_15)
    have ho26 := ho26.updD hXw30 (Dj.symm hd4_26)
    have ho27 := ho27.updD hXw30 (Dj.symm hd4_27)
    have hU1 := hU1.step hXw30 hk1_4
    refine HP.doneS ?_
    refine CW.seq ?_
    refine CW.reg ?_
    refine WL.pure rfl rfl rfl ((by first | exact PV.fieldAddr T.fl37_0 rfl (by first | assumption | exact Bx.cells (by assumption)) | exact PV.fieldAddrP T.fl37_0 rfl rfl)) ?_
    refine WL.pure rfl rfl rfl ((by first | exact PV.load0 T.na2 rfl (by first | exact Cells.up (by assumption) hB | exact Bx.cells (by assumption) | assumption) (Ext.refl _) rfl | exact PV.load1 T.na2 rfl (by first | exact Cells.up (by assumption) hB | exact Bx.cells (by assumption) | assumption) (Ext.refl _) rfl)) ?_
    refine WL.pure rfl rfl rfl (PV.move rfl) ?_
    refine WL.nilS ?_
    refine CW.block ?_
    have hlt1 := hb1.ltO
    have hlt2 := hb2.ltO
    have hlt3 := hb3.ltO
    have hlt4 := hb4.ltO
    have hlt14 := ho14.ltO
    have hlt15 := ho15.ltO
    have hlt26 := ho26.ltO
    have hlt27 := ho27.ltO
    refine CW.loop (σk := [(2, _), (3, _), (4, _), (6, _), (8, _), (64, _), (65, _), (92, _)]) (fun ρ wz m => ∃ (v28 : Value) (og28 : Option Nat) (v29 : Value) (og29 : Option Nat) (v30 : Value) (og30 : Option Nat) (k : Nat), ρ = [(93, .int .i64 (k : Nat))] ∧ m = (a0 * y0).toNat - k ∧ UpdL [og14, og15, og27, (some b4.block)] w30 wz ∧ Osl VI wz og28 v28 (mapR (leafM y0 xa2 xy2) a1.toNat) ∧ OgR w30 og14 og28 ∧ Osl VI wz og29 v29 (rowsM (a0 * y0).toNat (nextM a0 y0 xa3 xy3) i ++ mapR (nextM a0 y0 xa3 xy3 i) k) ∧ OgR w30 og15 og29 ∧ Osl VB wz og30 v30 (mapR (endM y0 xa4 xy4) (i + 1)) ∧ OgR w30 og27 og30 ∧ Bx wz b4 [.int .i64 (a0 * y0), .int .i64 a1, v28, v29, v30] ∧ Dj og28 og29 ∧ Dj og28 og30 ∧ Dj og29 og30 ∧ ((k : Int) ≤ a0 * y0)) (ρ₀ := [(93, _)]) (m₀ := _) ⟨rfl, rfl, rfl, rfl, rfl, rfl, rfl, rfl, rfl, trivial⟩ ⟨v14, og14, v15, og15, v27, og27, 0, rfl, rfl, (UpdL.refl _ _), osE ho14 (by rfl), OgR.refl _ _, osE ho15 (by exact mapR_zero _ _), OgR.refl _ _, osE ho27 (by exact mapR_put0 (by first | exact endM_t (by assumption) | exact endM_f (by assumption))), OgR.refl _ _, bxE hb4 (by first | rfl | (simp_all; done) | (simp_all; omega)), hd14_15, hd14_27, hd15_27, (by first | omega | rfl | (simp; done) | assumption | (simp_all; done))⟩ ?_
    rintro _ wl4 _ ⟨v28, og28, v29, og29, v30, og30, k, rfl, rfl, hU2, ho28, ha28, ho29, ha29, ho30, ha30, hb4, hd28_29, hd28_30, hd29_30, hk⟩
    have hU1 := hU1.trans hU2 ⟨hk1_14, hk1_15, hk1_27, hk1_4, trivial⟩
    have hb1 := hb1.loop hU2 ⟨hd1_14, hd1_15, hd1_27, hd1_4, trivial⟩
    have hb2 := hb2.loop hU2 ⟨hd2_14, hd2_15, hd2_27, hd2_4, trivial⟩
    have hb3 := hb3.loop hU2 ⟨hd3_14, hd3_15, hd3_27, hd3_4, trivial⟩
    have ho26 := ho26.loop hU2 ⟨(Dj.symm hd14_26), (Dj.symm hd15_26), hd26_27, (Dj.symm hd4_26), trivial⟩
    have hl28 := Lo.ogr hl14 hB ha28
    have hg2_28 := ha28
    have hk2_28 : OkB [og14, og15, og27, (some b4.block)] w30 og28 := OkB.ogr (OkB.mem (by simp)) (Nat.le_refl _) ha28
    have hk1_28 := OkB.ogr hk1_14 (by first | assumption | exact UpdL.size (by assumption)) ha28
    have hg1_28 := OgR.trans hg1_14 (by first | assumption | exact UpdL.size (by assumption)) ha28
    have hd1_28 := Dj.ogr hd1_14 hlt1 ha28
    have hd2_28 := Dj.ogr hd2_14 hlt2 ha28
    have hd3_28 := Dj.ogr hd3_14 hlt3 ha28
    have hd4_28 := Dj.ogr hd4_14 hlt4 ha28
    have hd26_28 := Dj.ogr (Dj.symm hd14_26) hlt26 ha28
    have hl29 := Lo.ogr hl15 hB ha29
    have hg2_29 := ha29
    have hk2_29 : OkB [og14, og15, og27, (some b4.block)] w30 og29 := OkB.ogr (OkB.mem (by simp)) (Nat.le_refl _) ha29
    have hk1_29 := OkB.ogr hk1_15 (by first | assumption | exact UpdL.size (by assumption)) ha29
    have hg1_29 := OgR.trans hg1_15 (by first | assumption | exact UpdL.size (by assumption)) ha29
    have hd1_29 := Dj.ogr hd1_15 hlt1 ha29
    have hd2_29 := Dj.ogr hd2_15 hlt2 ha29
    have hd3_29 := Dj.ogr hd3_15 hlt3 ha29
    have hd4_29 := Dj.ogr hd4_15 hlt4 ha29
    have hd26_29 := Dj.ogr (Dj.symm hd15_26) hlt26 ha29
    have hl30 := Lo.ogr hl27 hB ha30
    have hg2_30 := ha30
    have hk2_30 : OkB [og14, og15, og27, (some b4.block)] w30 og30 := OkB.ogr (OkB.mem (by simp)) (Nat.le_refl _) ha30
    have hk1_30 := OkB.ogr hk1_27 (by first | assumption | exact UpdL.size (by assumption)) ha30
    have hg1_30 := OgR.trans hg1_27 (by first | assumption | exact UpdL.size (by assumption)) ha30
    have hd1_30 := Dj.ogr hd1_27 hlt1 ha30
    have hd2_30 := Dj.ogr hd2_27 hlt2 ha30
    have hd3_30 := Dj.ogr hd3_27 hlt3 ha30
    have hd4_30 := Dj.ogr hd4_27 hlt4 ha30
    have hd26_30 := Dj.ogr hd26_27 hlt26 ha30
    have hk2_4 : OkB [og14, og15, og27, (some b4.block)] w30 (some b4.block) := OkB.mem (by simp)
    have hB := hB.loop hU2 ⟨hl14, hl15, hl27, hl4, trivial⟩
    have hnl := mapR_len (nextM a0 y0 xa3 xy3 i) k
    refine CW.seq ?_
    refine CW.reg ?_
    refine WL.pure rfl rfl rfl (PV.lss rfl rfl) ?_
    refine WL.nilS ?_
    refine CW.seq ?_
    refine CW.cond rfl (fun hc9 => ?_) (fun hc9 => ?_)
    · skip
      try simp only [decide_eq_true_eq, decide_eq_false_iff_not, Bool.not_eq_true', Bool.not_eq_false', Bool.not_eq_eq_eq_not, Bool.not_true, Bool.not_false, Int.not_lt, Int.not_le, Classical.not_not, beq_iff_eq, beq_eq_false_iff_ne] at hc9
      refine CW.skipS ?_
      refine CW.seq ?_
      refine CW.block ?_
      refine CW.seq ?_
      refine CW.reg ?_
      refine WL.pure rfl rfl rfl (PV.move rfl) ?_
      refine WL.pure rfl rfl rfl (PV.assign rfl) ?_
      refine WL.nilS ?_
      refine CW.draw T.mixed (by kernel_rfl) (fun _ _ _ _ _ h => h) (fun w8 w9 => Upd og29 w8 w9) 29 (.take 0 (.take 1 (.take 2 (.take 3 (.take 4 (.take 5 (.take 6 (.take 7 (.take 8 (.take 9 (.take 10 (.take 12 (.take 13 (.take 15 (.take 16 (.take 17 (.take 18 (.take 19 (.take 20 (.take 21 (.take 22 (.take 23 (.must 11 (.take 14 (.must 24 (.take 25 (.must 26 (.must 27 (.take 28 (.must 29 .done)))))))))))))))))))))))))))))) (by kernel_rfl) (fun w31 hXd => ?_)
      have hB := hB.trans hXd
      have hb1 := hb1.up hXd
      have hb2 := hb2.up hXd
      have hb3 := hb3.up hXd
      have hb4 := hb4.up hXd
      have ho26 := ho26.up hXd
      have ho28 := ho28.up hXd
      have ho29 := ho29.up hXd
      have ho30 := ho30.up hXd
      have hU1 := hU1.ext hXd
      have hU2 := hU2.ext hXd
      have hBr := hB
      have hS : Upd og29 w31 w31 := Ext.toUpd (Ext.refl _)
      have di := dm (s := a0) (n := y0) (i := (i : Int)) (by omega) (by omega); have dk := dm (s := a0) (n := y0) (i := (k : Int)) (by omega) (by omega); have ix := sq_idx (s := a0) (q := (i : Int).tdiv y0) (r := (k : Int).tdiv y0) (n := xa3.length) (by omega) (by omega) (by omega) (by omega); have iy := sq_idx (s := y0) (q := (i : Int).tmod y0) (r := (k : Int).tmod y0) (n := xy3.length) (by omega) (by omega) (by omega) (by omega); have vx := allIn_get (k := ((i : Int).tdiv y0 * a0 + (k : Int).tdiv y0).toNat) pa7 (by omega); have vy := allIn_get (k := ((i : Int).tmod y0 * y0 + (k : Int).tmod y0).toNat) pb7 (by omega); have vp := pair_le (x := xa3.getD ((i : Int).tdiv y0 * a0 + (k : Int).tdiv y0).toNat 0) (n := y0) (by omega) (by omega)
      refine HP.take rfl rfl rfl rfl hS (fun wS hS1 => (by first | exact PV.fieldAddr T.fl37_3 rfl (by first | assumption | exact Bx.cells (by assumption)) | exact PV.fieldAddrP T.fl37_3 rfl rfl)) ?_
      refine HP.take rfl rfl rfl rfl hS (fun wS hS1 => (by first | exact PV.load0 T.na22 rfl (by first | exact Cells.up (by assumption) (hBr.updL hS1 hl29) | exact Bx.cells (Bx.updD (by assumption) hS1 (by first | assumption | exact Dj.symm (by assumption))) | exact Cells.upd (by assumption) hS1 (by simp)) (Ext.refl _) rfl | exact PV.load1 T.na22 rfl (by first | exact Cells.up (by assumption) (hBr.updL hS1 hl29) | exact Bx.cells (Bx.updD (by assumption) hS1 (by first | assumption | exact Dj.symm (by assumption))) | exact Cells.upd (by assumption) hS1 (by simp)) (Ext.refl _) rfl)) ?_
      refine HP.take rfl rfl rfl rfl hS (fun wS hS1 => (by first | exact PV.loadA T.ag37 rfl (by first | exact Cells.up (by assumption) (hBr.updL hS1 hl29) | exact Bx.cells (Bx.updD (by assumption) hS1 (by first | assumption | exact Dj.symm (by assumption))) | exact Cells.upd (by assumption) hS1 (by simp)) (Ext.refl _) rfl | exact PV.loadP (ds := [_, _, _, _, _]) T.ag37 rfl (by first | exact Cells.up (by assumption) (hBr.updL hS1 hl29) | exact Bx.cells (Bx.updD (by assumption) hS1 (by first | assumption | exact Dj.symm (by assumption))) | exact Cells.upd (by assumption) hS1 (by simp)) (Ext.refl _) rfl rfl)) ?_
      refine HP.take rfl rfl rfl rfl hS (fun wS hS1 => PV.move rfl) ?_
      refine HP.take rfl rfl rfl rfl hS (fun wS hS1 => (by first | exact PV.fieldAddr T.fl37_0 rfl (by first | assumption | exact Bx.cells (by assumption)) | exact PV.fieldAddrP T.fl37_0 rfl rfl)) ?_
      refine HP.take rfl rfl rfl rfl hS (fun wS hS1 => (by first | exact PV.load0 T.na2 rfl (by first | exact Cells.up (by assumption) (hBr.updL hS1 hl29) | exact Bx.cells (Bx.updD (by assumption) hS1 (by first | assumption | exact Dj.symm (by assumption))) | exact Cells.upd (by assumption) hS1 (by simp)) (Ext.refl _) rfl | exact PV.load1 T.na2 rfl (by first | exact Cells.up (by assumption) (hBr.updL hS1 hl29) | exact Bx.cells (Bx.updD (by assumption) hS1 (by first | assumption | exact Dj.symm (by assumption))) | exact Cells.upd (by assumption) hS1 (by simp)) (Ext.refl _) rfl)) ?_
      refine HP.take rfl rfl rfl rfl hS (fun wS hS1 => PV.quoN rfl rfl (by omega)) ?_
      refine HP.take rfl rfl rfl rfl hS (fun wS hS1 => PV.move rfl) ?_
      refine HP.take rfl rfl rfl rfl hS (fun wS hS1 => (by first | exact PV.fieldAddr T.fl37_0 rfl (by first | assumption | exact Bx.cells (by assumption)) | exact PV.fieldAddrP T.fl37_0 rfl rfl)) ?_
      refine HP.take rfl rfl rfl rfl hS (fun wS hS1 => (by first | exact PV.load0 T.na2 rfl (by first | exact Cells.up (by assumption) (hBr.updL hS1 hl29) | exact Bx.cells (Bx.updD (by assumption) hS1 (by first | assumption | exact Dj.symm (by assumption))) | exact Cells.upd (by assumption) hS1 (by simp)) (Ext.refl _) rfl | exact PV.load1 T.na2 rfl (by first | exact Cells.up (by assumption) (hBr.updL hS1 hl29) | exact Bx.cells (Bx.updD (by assumption) hS1 (by first | assumption | exact Dj.symm (by assumption))) | exact Cells.upd (by assumption) hS1 (by simp)) (Ext.refl _) rfl)) ?_
      refine HP.take rfl rfl rfl rfl hS (fun wS hS1 => PV.quoN rfl rfl (by omega)) ?_
      refine HP.take rfl rfl rfl rfl hS (fun wS hS1 => (by first | exact PV.fieldAddr T.fl37_0 rfl (by first | assumption | exact Bx.cells (by assumption)) | exact PV.fieldAddrP T.fl37_0 rfl rfl)) ?_
      refine HP.take rfl rfl rfl rfl hS (fun wS hS1 => (by first | exact PV.load0 T.na2 rfl (by first | exact Cells.up (by assumption) (hBr.updL hS1 hl29) | exact Bx.cells (Bx.updD (by assumption) hS1 (by first | assumption | exact Dj.symm (by assumption))) | exact Cells.upd (by assumption) hS1 (by simp)) (Ext.refl _) rfl | exact PV.load1 T.na2 rfl (by first | exact Cells.up (by assumption) (hBr.updL hS1 hl29) | exact Bx.cells (Bx.updD (by assumption) hS1 (by first | assumption | exact Dj.symm (by assumption))) | exact Cells.upd (by assumption) hS1 (by simp)) (Ext.refl _) rfl)) ?_
      refine HP.take rfl rfl rfl rfl hS (fun wS hS1 => (by first | exact PV.loadA T.ag37 rfl (by first | exact Cells.up (by assumption) (hBr.updL hS1 hl29) | exact Bx.cells (Bx.updD (by assumption) hS1 (by first | assumption | exact Dj.symm (by assumption))) | exact Cells.upd (by assumption) hS1 (by simp)) (Ext.refl _) rfl | exact PV.loadP (ds := [_, _, _, _, _]) T.ag37 rfl (by first | exact Cells.up (by assumption) (hBr.updL hS1 hl29) | exact Bx.cells (Bx.updD (by assumption) hS1 (by first | assumption | exact Dj.symm (by assumption))) | exact Cells.upd (by assumption) hS1 (by simp)) (Ext.refl _) rfl rfl)) ?_
      refine HP.take rfl rfl rfl rfl hS (fun wS hS1 => PV.move rfl) ?_
      refine HP.take rfl rfl rfl rfl hS (fun wS hS1 => (by first | exact PV.fieldAddr T.fl37_0 rfl (by first | assumption | exact Bx.cells (by assumption)) | exact PV.fieldAddrP T.fl37_0 rfl rfl)) ?_
      refine HP.take rfl rfl rfl rfl hS (fun wS hS1 => (by first | exact PV.load0 T.na2 rfl (by first | exact Cells.up (by assumption) (hBr.updL hS1 hl29) | exact Bx.cells (Bx.updD (by assumption) hS1 (by first | assumption | exact Dj.symm (by assumption))) | exact Cells.upd (by assumption) hS1 (by simp)) (Ext.refl _) rfl | exact PV.load1 T.na2 rfl (by first | exact Cells.up (by assumption) (hBr.updL hS1 hl29) | exact Bx.cells (Bx.updD (by assumption) hS1 (by first | assumption | exact Dj.symm (by assumption))) | exact Cells.upd (by assumption) hS1 (by simp)) (Ext.refl _) rfl)) ?_
      refine HP.take rfl rfl rfl rfl hS (fun wS hS1 => PV.rem rfl rfl (by omega) rfl) ?_
      refine HP.take rfl rfl rfl rfl hS (fun wS hS1 => PV.move rfl) ?_
      refine HP.take rfl rfl rfl rfl hS (fun wS hS1 => (by first | exact PV.fieldAddr T.fl37_0 rfl (by first | assumption | exact Bx.cells (by assumption)) | exact PV.fieldAddrP T.fl37_0 rfl rfl)) ?_
      refine HP.take rfl rfl rfl rfl hS (fun wS hS1 => (by first | exact PV.load0 T.na2 rfl (by first | exact Cells.up (by assumption) (hBr.updL hS1 hl29) | exact Bx.cells (Bx.updD (by assumption) hS1 (by first | assumption | exact Dj.symm (by assumption))) | exact Cells.upd (by assumption) hS1 (by simp)) (Ext.refl _) rfl | exact PV.load1 T.na2 rfl (by first | exact Cells.up (by assumption) (hBr.updL hS1 hl29) | exact Bx.cells (Bx.updD (by assumption) hS1 (by first | assumption | exact Dj.symm (by assumption))) | exact Cells.upd (by assumption) hS1 (by simp)) (Ext.refl _) rfl)) ?_
      refine HP.take rfl rfl rfl rfl hS (fun wS hS1 => PV.rem rfl rfl (by omega) rfl) ?_
      refine HP.must rfl rfl (OpK.callR rfl T.cf80 rfl (c_impl_TreeMachine_join (by first | assumption | exact Rd.up (by assumption) hB | exact Osl.rd (by assumption) | exact Osn.rdR (by assumption)) (by first | assumption | exact Rd.up (by assumption) hB | exact Osl.rd (by assumption) | exact Osn.rdR (by assumption)) (by first | assumption | exact Rd.up (by assumption) hB | exact Osl.rd (by assumption) | exact Osn.rdR (by assumption)) (by first | assumption | omega | (simp only [marks_len, marksB_len]; omega)) (by first | assumption | omega | (simp only [marks_len, marksB_len]; omega)) (by first | assumption | omega | (simp only [marks_len, marksB_len]; omega)) (by first | assumption | omega | (simp only [marks_len, marksB_len]; omega))) (fun w32 hXw32 => ?_))
      refine ⟨Upd.trans hS (Ext.toUpd hXw32), ?_⟩
      have hS := Upd.trans hS (Ext.toUpd hXw32)
      have hB := hB.trans hXw32
      have hb1 := hb1.up hXw32
      have hb2 := hb2.up hXw32
      have hb3 := hb3.up hXw32
      have hb4 := hb4.up hXw32
      have ho26 := ho26.up hXw32
      have ho28 := ho28.up hXw32
      have ho29 := ho29.up hXw32
      have ho30 := ho30.up hXw32
      have hU1 := hU1.ext hXw32
      have hU2 := hU2.ext hXw32
      refine HP.take rfl rfl rfl rfl hS (fun wS hS1 => PV.mul rfl rfl (by constructor <;> omega)) ?_
      refine HP.must rfl rfl (OpK.callR rfl T.cf80 rfl (c_impl_TreeMachine_join (by first | assumption | exact Rd.up (by assumption) hB | exact Osl.rd (by assumption) | exact Osn.rdR (by assumption)) (by first | assumption | exact Rd.up (by assumption) hB | exact Osl.rd (by assumption) | exact Osn.rdR (by assumption)) (by first | assumption | exact Rd.up (by assumption) hB | exact Osl.rd (by assumption) | exact Osn.rdR (by assumption)) (by first | assumption | omega | (simp only [marks_len, marksB_len]; omega)) (by first | assumption | omega | (simp only [marks_len, marksB_len]; omega)) (by first | assumption | omega | (simp only [marks_len, marksB_len]; omega)) (by first | assumption | omega | (simp only [marks_len, marksB_len]; omega))) (fun w33 hXw33 => ?_))
      refine ⟨Upd.trans hS (Ext.toUpd hXw33), ?_⟩
      have hS := Upd.trans hS (Ext.toUpd hXw33)
      have hB := hB.trans hXw33
      have hb1 := hb1.up hXw33
      have hb2 := hb2.up hXw33
      have hb3 := hb3.up hXw33
      have hb4 := hb4.up hXw33
      have ho26 := ho26.up hXw33
      have ho28 := ho28.up hXw33
      have ho29 := ho29.up hXw33
      have ho30 := ho30.up hXw33
      have hU1 := hU1.ext hXw33
      have hU2 := hU2.ext hXw33
      refine HP.take rfl rfl rfl rfl hS (fun wS hS1 => PV.add rfl rfl (by constructor <;> omega)) ?_
      refine HP.must rfl rfl (OpK.buildS VI (os := [.tmp 121]) [_] rfl T.sl22 rfl rfl T.zv2 rfl (by intro z _; rfl) rfl (fun v32 g32 w34 hXw34 ho32 hge32 => ?_))
      have hl32 := Lo.new hB hge32
      have hd1_32 := Dj.new hb1.ltO hge32
      have hd2_32 := Dj.new hb2.ltO hge32
      have hd3_32 := Dj.new hb3.ltO hge32
      have hd4_32 := Dj.new hb4.ltO hge32
      have hd26_32 := Dj.new ho26.ltO hge32
      have hd28_32 := Dj.new ho28.ltO hge32
      have hd29_32 := Dj.new ho29.ltO hge32
      have hd30_32 := Dj.new ho30.ltO hge32
      have hk1_32 := OkN.new hU1 hge32
      have hg1_32 := OgR.new hU1.size hge32
      have hk2_32 := OkN.new hU2 hge32
      have hg2_32 := OgR.new hU2.size hge32
      refine ⟨Upd.trans hS (Ext.toUpd hXw34), ?_⟩
      have hS := Upd.trans hS (Ext.toUpd hXw34)
      have hB := hB.trans hXw34
      have hb1 := hb1.up hXw34
      have hb2 := hb2.up hXw34
      have hb3 := hb3.up hXw34
      have hb4 := hb4.up hXw34
      have ho26 := ho26.up hXw34
      have ho28 := ho28.up hXw34
      have ho29 := ho29.up hXw34
      have ho30 := ho30.up hXw34
      have hU1 := hU1.ext hXw34
      have hU2 := hU2.ext hXw34
      refine HP.must rfl rfl (OpK.appendS (f := VI) rfl T.sl22 T.zv2 rfl rfl ho29 rfl (Osl.src ho32 (fun _ => rfl)) (by first | (simp only [List.length_cons, List.length_nil]; omega) | (simp only [List.length_append, List.length_cons, List.length_nil]; omega)) (fun v33 og33 w35 hXw35 ho33 hap33 => ?_))
      have hl33 := Lo.app hl29 hB hap33
      have hd1_33 := Dj.app hd1_29 hb1.ltO hap33
      have hd2_33 := Dj.app hd2_29 hb2.ltO hap33
      have hd3_33 := Dj.app hd3_29 hb3.ltO hap33
      have hd4_33 := Dj.app hd4_29 hb4.ltO hap33
      have hd26_33 := Dj.app hd26_29 ho26.ltO hap33
      have hd28_33 := Dj.app hd28_29 ho28.ltO hap33
      have hd30_33 := Dj.app (Dj.symm hd29_30) ho30.ltO hap33
      have hd32_33 := Dj.app (Dj.symm hd29_32) ho32.ltO hap33
      have hk1_33 := OkN.app hU1 hk1_29 hap33
      have hg1_33 := OgR.app hg1_29 hU1.size hap33
      have hk2_33 := OkN.app hU2 hk2_29 hap33
      have hg2_33 := OgR.app hg2_29 hU2.size hap33
      refine ⟨Upd.trans hS hXw35, ?_⟩
      have hS := Upd.trans hS hXw35
      have hB := hB.updL hXw35 hl29
      have hb1 := hb1.updD hXw35 hd1_29
      have hb2 := hb2.updD hXw35 hd2_29
      have hb3 := hb3.updD hXw35 hd3_29
      have hb4 := hb4.updD hXw35 hd4_29
      have ho26 := ho26.updD hXw35 hd26_29
      have ho28 := ho28.updD hXw35 hd28_29
      have ho30 := ho30.updD hXw35 (Dj.symm hd29_30)
      have ho32 := ho32.updD hXw35 (Dj.symm hd29_32)
      have hU1 := hU1.step hXw35 hk1_29
      have hU2 := hU2.step hXw35 hk2_29
      refine HP.take rfl rfl rfl rfl hS (fun wS hS1 => (by first | exact PV.fieldAddr T.fl37_3 rfl (by first | assumption | exact Bx.cells (by assumption)) | exact PV.fieldAddrP T.fl37_3 rfl rfl)) ?_
      first
        | refine HP.last rfl rfl (OpK.storeB T.sz22 rfl rfl (by first | rfl | exact Osl.oneCell (by assumption) | exact Osn.oneCell (by assumption) | exact Rd.oneCell (by assumption) | assumption) hb4 rfl (fun w36 hXw36 hb4 => ?_))
        | refine HP.last rfl rfl (OpK.storeB0 T.sz22 rfl rfl (by first | rfl | exact Osl.oneCell (by assumption) | exact Osn.oneCell (by assumption) | exact Rd.oneCell (by assumption) | assumption) hb4 (fun w36 hXw36 hb4 => ?_))
      have hB := hB.updL hXw36 hl4
      have hb1 := hb1.updD hXw36 hd1_4
      have hb2 := hb2.updD hXw36 hd2_4
      have hb3 := hb3.updD hXw36 hd3_4
      have ho26 := ho26.updD hXw36 (Dj.symm hd4_26)
      have ho28 := ho28.updD hXw36 (Dj.symm hd4_28)
      have ho30 := ho30.updD hXw36 (Dj.symm hd4_30)
      have ho32 := ho32.updD hXw36 (Dj.symm hd4_32)
      have ho33 := ho33.updD hXw36 (Dj.symm hd4_33)
      have hU1 := hU1.step hXw36 hk1_4
      have hU2 := hU2.step hXw36 hk2_4
      refine HP.done ?_
      refine NQ.block ?_
      refine NQ.then ?_
      refine CW.reg ?_
      refine WL.pure rfl rfl rfl (PV.add rfl rfl (by constructor <;> omega)) ?_
      refine WL.pure rfl rfl rfl (PV.move rfl) ?_
      refine WL.nil ?_
      refine NQ.next (ρ := [(93, _)]) ⟨rfl, rfl, rfl, rfl, rfl, rfl, rfl, rfl, rfl, trivial⟩ ?_
      exact ⟨_, ⟨v28, og28, v33, og33, v30, og30, k + 1, rfl, rfl, hU2, osE ho28 (by first | rfl | (simp_all; done) | (simp_all; omega)), (by first | exact hg2_28 | exact OgR.weak hg2_28), osE ho33 (by exact mapR_put rfl), (by first | exact hg2_33 | exact OgR.weak hg2_33), osE ho30 (by first | rfl | (simp_all; done) | (simp_all; omega)), (by first | exact hg2_30 | exact OgR.weak hg2_30), bxE hb4 (by first | rfl | (simp_all; done) | (simp_all; omega)), hd28_33, hd28_30, (Dj.symm hd30_33), (by first | omega | assumption | (simp_all; done) | (simp_all; omega))⟩, by omega⟩
    try simp only [decide_eq_true_eq, decide_eq_false_iff_not, Bool.not_eq_true', Bool.not_eq_false', Bool.not_eq_eq_eq_not, Bool.not_true, Bool.not_false, Int.not_lt, Int.not_le, Classical.not_not, beq_iff_eq, beq_eq_false_iff_ne] at hc9
    refine CW.exit ?_
    refine XQ.then ?_
    refine XQ.then ?_
    refine XQ.here ?_
    refine NQ.block ?_
    refine NQ.then ?_
    refine CW.reg ?_
    refine WL.pure rfl rfl rfl (PV.add rfl rfl (by constructor <;> omega)) ?_
    refine WL.pure rfl rfl rfl (PV.move rfl) ?_
    refine WL.nil ?_
    refine NQ.next (ρ := [(65, _)]) ⟨rfl, rfl, rfl, rfl, rfl, rfl, trivial⟩ ?_
    exact ⟨_, ⟨v28, og28, v29, og29, v30, og30, i + 1, rfl, rfl, hU1, osE ho28 (by first | rfl | (simp_all; done) | (simp_all; omega)), (by first | exact hg1_28 | exact OgR.weak hg1_28), osE ho29 (by exact rowsM_succ (by omega)), (by first | exact hg1_29 | exact OgR.weak hg1_29), osE ho30 (by rfl), (by first | exact hg1_30 | exact OgR.weak hg1_30), bxE hb4 (by first | rfl | (simp_all; done) | (simp_all; omega)), hd28_29, hd28_30, hd29_30, (by first | omega | assumption | (simp_all; done) | (simp_all; omega))⟩, by omega⟩
  try simp only [decide_eq_true_eq, decide_eq_false_iff_not, Bool.not_eq_true', Bool.not_eq_false', Bool.not_eq_eq_eq_not, Bool.not_true, Bool.not_false, Int.not_lt, Int.not_le, Classical.not_not, beq_iff_eq, beq_eq_false_iff_ne] at hc6
  refine CW.exit ?_
  refine XQ.then ?_
  refine XQ.then ?_
  refine XQ.here ?_
  refine NQ.then ?_
  refine CW.seq ?_
  refine CW.reg ?_
  refine WL.pure rfl rfl rfl ((by first | exact PV.loadA T.ag37 rfl (by first | exact Cells.up (by assumption) hB | exact Bx.cells (by assumption) | assumption) (Ext.refl _) rfl | exact PV.loadP (ds := [_, _, _, _, _]) T.ag37 rfl (by first | exact Cells.up (by assumption) hB | exact Bx.cells (by assumption) | assumption) (Ext.refl _) rfl rfl)) ?_
  refine WL.op rfl (OpK.storeA T.sz37 rfl rfl rfl rfl (by simp [Value.oneCell'] <;> first | done | (repeat' apply And.intro) <;> first | rfl | exact Osl.oneCell (by assumption) | exact Osn.oneCell (by assumption) | exact Rd.oneCell (by assumption) | assumption) hb3 (fun w37 hXw37 hb3 => ?_))
  have hB := hB.updL hXw37 hl3
  have hb1 := hb1.updD hXw37 hd1_3
  have hb2 := hb2.updD hXw37 hd2_3
  have hb4 := hb4.updD hXw37 (Dj.symm hd3_4)
  have ho14 := ho14.updD hXw37 (Dj.symm hd3_14)
  have ho15 := ho15.updD hXw37 (Dj.symm hd3_15)
  have ho16 := ho16.updD hXw37 (Dj.symm hd3_16)
  refine WL.pure rfl rfl rfl (PV.assign rfl) ?_
  refine WL.nilS ?_
  refine CW.ret ?_
  refine RQ.rc1 T.ag37 rfl (by first | exact Cells.up (by assumption) hB | exact Bx.cells (by assumption) | assumption) rfl rfl ?_
  refine ⟨hB, v14, og14, v15, og15, v16, og16, ?_, osE ho14 ?_, hl14, osE ho15 ?_, hl15, osE ho16 ?_, hl16, hd14_15, hd14_16, hd15_16⟩
  · skip
    first | (exact tE2 (by rw [onI_no (by first | exact meetB_n1 (treesB_no (by assumption)) | exact meetB_n2 (treesB_no (by assumption)) | exact meetB_n3 (by omega) | exact meetB_n4 (by omega)), onI_no (by first | exact meetB_n1 (treesB_no (by assumption)) | exact meetB_n2 (treesB_no (by assumption)) | exact meetB_n3 (by omega) | exact meetB_n4 (by omega))]) (bE (Bool.eq_false_iff.2 (by first | exact meetB_n1 (treesB_no (by assumption)) | exact meetB_n2 (treesB_no (by assumption)) | exact meetB_n3 (by omega) | exact meetB_n4 (by omega))).symm)) | (exact tE2 (by rw [onI_yes (meetB_yes (treesB_yes (by assumption)) (treesB_yes (by assumption)) (by omega) (by omega)), onI_yes (meetB_yes (treesB_yes (by assumption)) (treesB_yes (by assumption)) (by omega) (by omega))]) (bE (meetB_yes (treesB_yes (by assumption)) (treesB_yes (by assumption)) (by omega) (by omega)).symm))
  · skip
    first | (rw [onT_no (by first | exact meetB_n1 (treesB_no (by assumption)) | exact meetB_n2 (treesB_no (by assumption)) | exact meetB_n3 (by omega) | exact meetB_n4 (by omega))]; done) | (rw [onT_yes (meetB_yes (treesB_yes (by assumption)) (treesB_yes (by assumption)) (by omega) (by omega))]; done)
  · skip
    first | (rw [onT_no (by first | exact meetB_n1 (treesB_no (by assumption)) | exact meetB_n2 (treesB_no (by assumption)) | exact meetB_n3 (by omega) | exact meetB_n4 (by omega))]; done) | (rw [onT_yes (meetB_yes (treesB_yes (by assumption)) (treesB_yes (by assumption)) (by omega) (by omega)), show i = (a0 * y0).toNat from (by omega)])
  · skip
    first | (rw [onT_no (by first | exact meetB_n1 (treesB_no (by assumption)) | exact meetB_n2 (treesB_no (by assumption)) | exact meetB_n3 (by omega) | exact meetB_n4 (by omega))]; done) | (rw [onT_yes (meetB_yes (treesB_yes (by assumption)) (treesB_yes (by assumption)) (by omega) (by omega)), show i = (a0 * y0).toNat from (by omega)])
theorem c_laws_eqInt64S {w : World} {va vb : Value} {xs ys : List Int} (ha : Rd EI w va xs) (hb : Rd EI w vb ys) : Calls Try.prog 18 #[va, vb] w (Ret1 (RQt (.bool (decide (xs = ys))) w)) := by
  have hB : Ext w w := Ext.refl w
  have hla := ha.leI; have hlb := hb.leI
  refine callsOf (vs := [_, _]) Try.func18 rfl Try.ntmps18 rfl rfl ?_
  refine CW.seq ?_
  refine CW.reg ?_
  refine WL.pure rfl rfl rfl (PV.assign rfl) ?_
  refine WL.nilS ?_
  refine CW.seq ?_
  refine CW.seq ?_
  refine CW.reg ?_
  refine WL.pure rfl rfl rfl (PV.move rfl) ?_
  refine WL.pure rfl rfl rfl ((by first | exact PV.len rfl (by assumption) T.sl22 | exact PV.lenOs rfl (by assumption) T.sl22)) ?_
  refine WL.pure rfl rfl rfl (PV.move rfl) ?_
  refine WL.pure rfl rfl rfl ((by first | exact PV.len rfl (by assumption) T.sl22 | exact PV.lenOs rfl (by assumption) T.sl22)) ?_
  refine WL.pure rfl rfl rfl (PV.neq rfl rfl) ?_
  refine WL.nilS ?_
  refine CW.cond rfl (fun hc1 => ?_) (fun hc1 => ?_)
  · skip
    try simp only [decide_eq_true_eq, decide_eq_false_iff_not, Bool.not_eq_true', Bool.not_eq_false', Bool.not_eq_eq_eq_not, Bool.not_true, Bool.not_false, Int.not_lt, Int.not_le, Classical.not_not, beq_iff_eq, beq_eq_false_iff_ne] at hc1
    refine CW.seq ?_
    refine CW.reg ?_
    refine WL.pure rfl rfl rfl (PV.assign rfl) ?_
    refine WL.nilS ?_
    refine CW.ret ?_
    refine RQ.then ?_
    refine RQ.r1 rfl ?_
    refine ⟨?_, hB⟩
    first | exact bT (eq_of_takes (by omega) (by omega) he) | exact bF (by rintro rfl; simp_all)
  try simp only [decide_eq_true_eq, decide_eq_false_iff_not, Bool.not_eq_true', Bool.not_eq_false', Bool.not_eq_eq_eq_not, Bool.not_true, Bool.not_false, Int.not_lt, Int.not_le, Classical.not_not, beq_iff_eq, beq_eq_false_iff_ne] at hc1
  refine CW.skipS ?_
  refine CW.seq ?_
  refine CW.seq ?_
  refine CW.reg ?_
  refine WL.pure rfl rfl rfl (PV.assign rfl) ?_
  refine WL.nilS ?_
  refine CW.block ?_
  refine CW.loop (σk := [(0, _), (1, _)]) (fun ρ wz m => ∃ (k : Nat), ρ = [(5, .int .i64 (k : Nat))] ∧ m = xs.length - k ∧ UpdL [] w wz ∧ (k ≤ xs.length) ∧ (xs.take k = ys.take k)) (ρ₀ := [(5, _)]) (m₀ := _) ⟨rfl, rfl, rfl, trivial⟩ ⟨0, rfl, rfl, (UpdL.refl _ _), (by first | omega | rfl | (simp; done) | assumption | (simp_all; done)), (by first | omega | rfl | (simp; done) | assumption | (simp_all; done))⟩ ?_
  rintro _ wl1 _ ⟨k, rfl, rfl, hU0, hk, he⟩
  have hB := hB.loop hU0 trivial
  refine CW.seq ?_
  refine CW.seq ?_
  refine CW.reg ?_
  refine WL.pure rfl rfl rfl (PV.move rfl) ?_
  refine WL.pure rfl rfl rfl (PV.move rfl) ?_
  refine WL.pure rfl rfl rfl ((by first | exact PV.len rfl (by assumption) T.sl22 | exact PV.lenOs rfl (by assumption) T.sl22)) ?_
  refine WL.pure rfl rfl rfl (PV.lss rfl rfl) ?_
  refine WL.nilS ?_
  refine CW.cond rfl (fun hc2 => ?_) (fun hc2 => ?_)
  · skip
    try simp only [decide_eq_true_eq, decide_eq_false_iff_not, Bool.not_eq_true', Bool.not_eq_false', Bool.not_eq_eq_eq_not, Bool.not_true, Bool.not_false, Int.not_lt, Int.not_le, Classical.not_not, beq_iff_eq, beq_eq_false_iff_ne] at hc2
    refine CW.skipS ?_
    refine CW.seq ?_
    refine CW.block ?_
    refine CW.seq ?_
    refine CW.draw T.mixed (by kernel_rfl) (fun _ _ _ _ _ h => h) (fun w8 w9 => Upd none w8 w9) 9 (.take 0 (.take 1 (.take 2 (.take 3 (.take 4 (.take 5 (.take 6 (.take 7 (.take 8 .done))))))))) (by kernel_rfl) (fun w1 hXd => ?_)
    have hB := hB.trans hXd
    have hU0 := hU0.ext hXd
    have hBr := hB
    have hS : Upd none w1 w1 := Ext.toUpd (Ext.refl _)
    refine HP.take rfl rfl rfl rfl hS (fun wS hS1 => PV.move rfl) ?_
    refine HP.take rfl rfl rfl rfl hS (fun wS hS1 => PV.move rfl) ?_
    first
      | refine HP.at (x := .tmp 17) (y := .tmp 18) (E := EI) (0) rfl rfl (by assumption) (by first | omega | (simp; omega) | (simp_all; omega)) (fun p1 csp1 hpp1 hcp1 hq => ?_)
      | refine HP.atZ (x := .tmp 17) (y := .tmp 18) (E := EI) (0) rfl rfl (by assumption) (by first | omega | (simp; omega) | (simp_all; omega)) (fun p1 csp1 hpp1 hzp1 hcp1 hq => ?_)
    cases hq
    refine HP.take rfl rfl rfl rfl hS (fun wS hS1 => (by first | exact PV.indexAddr hpp1 rfl rfl T.sl22 | exact PV.indexAddr hpp1 rfl (by rw [← hzp1]; rfl) T.sl22)) ?_
    refine HP.take rfl rfl rfl rfl hS (fun wS hS1 => (by first | exact PV.load0 T.na2 rfl (by first | exact Cells.up (by assumption) (hBr.trans hS1) | exact Bx.cells (Bx.updD (by assumption) hS1 (Dj.nlR _)) | exact Cells.upd (by assumption) hS1 (by simp)) (Ext.refl _) rfl | exact PV.load1 T.na2 rfl (by first | exact Cells.up (by assumption) (hBr.trans hS1) | exact Bx.cells (Bx.updD (by assumption) hS1 (Dj.nlR _)) | exact Cells.upd (by assumption) hS1 (by simp)) (Ext.refl _) rfl)) ?_
    refine HP.take rfl rfl rfl rfl hS (fun wS hS1 => PV.move rfl) ?_
    refine HP.take rfl rfl rfl rfl hS (fun wS hS1 => PV.move rfl) ?_
    first
      | refine HP.at (x := .tmp 21) (y := .tmp 22) (E := EI) (0) rfl rfl (by assumption) (by first | omega | (simp; omega) | (simp_all; omega)) (fun p2 csp2 hpp2 hcp2 hq => ?_)
      | refine HP.atZ (x := .tmp 21) (y := .tmp 22) (E := EI) (0) rfl rfl (by assumption) (by first | omega | (simp; omega) | (simp_all; omega)) (fun p2 csp2 hpp2 hzp2 hcp2 hq => ?_)
    cases hq
    refine HP.take rfl rfl rfl rfl hS (fun wS hS1 => (by first | exact PV.indexAddr hpp2 rfl rfl T.sl22 | exact PV.indexAddr hpp2 rfl (by rw [← hzp2]; rfl) T.sl22)) ?_
    refine HP.take rfl rfl rfl rfl hS (fun wS hS1 => (by first | exact PV.load0 T.na2 rfl (by first | exact Cells.up (by assumption) (hBr.trans hS1) | exact Bx.cells (Bx.updD (by assumption) hS1 (Dj.nlR _)) | exact Cells.upd (by assumption) hS1 (by simp)) (Ext.refl _) rfl | exact PV.load1 T.na2 rfl (by first | exact Cells.up (by assumption) (hBr.trans hS1) | exact Bx.cells (Bx.updD (by assumption) hS1 (Dj.nlR _)) | exact Cells.upd (by assumption) hS1 (by simp)) (Ext.refl _) rfl)) ?_
    refine HP.take rfl rfl rfl rfl hS (fun wS hS1 => PV.neq rfl rfl) ?_
    refine HP.doneS ?_
    refine CW.cond rfl (fun hc3 => ?_) (fun hc3 => ?_)
    · skip
      try simp only [decide_eq_true_eq, decide_eq_false_iff_not, Bool.not_eq_true', Bool.not_eq_false', Bool.not_eq_eq_eq_not, Bool.not_true, Bool.not_false, Int.not_lt, Int.not_le, Classical.not_not, beq_iff_eq, beq_eq_false_iff_ne] at hc3
      refine CW.seq ?_
      refine CW.reg ?_
      refine WL.pure rfl rfl rfl (PV.assign rfl) ?_
      refine WL.nilS ?_
      refine CW.ret ?_
      refine RQ.block ?_
      refine RQ.then ?_
      refine RQ.then ?_
      refine RQ.block ?_
      refine RQ.then ?_
      refine RQ.r1 rfl ?_
      refine ⟨?_, hB⟩
      first | exact bT (eq_of_takes (by omega) (by omega) he) | exact bF (by rintro rfl; simp_all)
    try simp only [decide_eq_true_eq, decide_eq_false_iff_not, Bool.not_eq_true', Bool.not_eq_false', Bool.not_eq_eq_eq_not, Bool.not_true, Bool.not_false, Int.not_lt, Int.not_le, Classical.not_not, beq_iff_eq, beq_eq_false_iff_ne] at hc3
    refine CW.skip ?_
    refine NQ.block ?_
    refine NQ.then ?_
    refine CW.reg ?_
    refine WL.pure rfl rfl rfl (PV.move rfl) ?_
    refine WL.pure rfl rfl rfl (PV.add rfl rfl (by constructor <;> omega)) ?_
    refine WL.pure rfl rfl rfl (PV.assign rfl) ?_
    refine WL.nil ?_
    refine NQ.next (ρ := [(5, _)]) ⟨rfl, rfl, rfl, trivial⟩ ?_
    exact ⟨_, ⟨k + 1, rfl, rfl, hU0, (by first | omega | assumption | (simp_all; done) | (simp_all; omega)), (by exact take_eq_succ (by omega) (by omega) he (by assumption))⟩, by omega⟩
  try simp only [decide_eq_true_eq, decide_eq_false_iff_not, Bool.not_eq_true', Bool.not_eq_false', Bool.not_eq_eq_eq_not, Bool.not_true, Bool.not_false, Int.not_lt, Int.not_le, Classical.not_not, beq_iff_eq, beq_eq_false_iff_ne] at hc2
  refine CW.exit ?_
  refine XQ.then ?_
  refine XQ.then ?_
  refine XQ.here ?_
  refine NQ.then ?_
  refine CW.seq ?_
  refine CW.reg ?_
  refine WL.pure rfl rfl rfl (PV.assign rfl) ?_
  refine WL.nilS ?_
  refine CW.ret ?_
  refine RQ.r1 rfl ?_
  refine ⟨?_, hB⟩
  first | exact bT (eq_of_takes (by omega) (by omega) he) | exact bF (by rintro rfl; simp_all)
theorem c_laws_eqBoolS {w : World} {va vb : Value} {xs ys : List Bool} (ha : Rd EB w va xs) (hb : Rd EB w vb ys) : Calls Try.prog 73 #[va, vb] w (Ret1 (RQt (.bool (decide (xs = ys))) w)) := by
  have hB : Ext w w := Ext.refl w
  have hla := ha.leI; have hlb := hb.leI
  refine callsOf (vs := [_, _]) Try.func73 rfl Try.ntmps73 rfl rfl ?_
  refine CW.seq ?_
  refine CW.reg ?_
  refine WL.pure rfl rfl rfl (PV.assign rfl) ?_
  refine WL.nilS ?_
  refine CW.seq ?_
  refine CW.seq ?_
  refine CW.reg ?_
  refine WL.pure rfl rfl rfl (PV.move rfl) ?_
  refine WL.pure rfl rfl rfl ((by first | exact PV.len rfl (by assumption) T.sl32 | exact PV.lenOs rfl (by assumption) T.sl32)) ?_
  refine WL.pure rfl rfl rfl (PV.move rfl) ?_
  refine WL.pure rfl rfl rfl ((by first | exact PV.len rfl (by assumption) T.sl32 | exact PV.lenOs rfl (by assumption) T.sl32)) ?_
  refine WL.pure rfl rfl rfl (PV.neq rfl rfl) ?_
  refine WL.nilS ?_
  refine CW.cond rfl (fun hc1 => ?_) (fun hc1 => ?_)
  · skip
    try simp only [decide_eq_true_eq, decide_eq_false_iff_not, Bool.not_eq_true', Bool.not_eq_false', Bool.not_eq_eq_eq_not, Bool.not_true, Bool.not_false, Int.not_lt, Int.not_le, Classical.not_not, beq_iff_eq, beq_eq_false_iff_ne] at hc1
    refine CW.seq ?_
    refine CW.reg ?_
    refine WL.pure rfl rfl rfl (PV.assign rfl) ?_
    refine WL.nilS ?_
    refine CW.ret ?_
    refine RQ.then ?_
    refine RQ.r1 rfl ?_
    refine ⟨?_, hB⟩
    first | exact bT (eq_of_takes (by omega) (by omega) he) | exact bF (by rintro rfl; simp_all)
  try simp only [decide_eq_true_eq, decide_eq_false_iff_not, Bool.not_eq_true', Bool.not_eq_false', Bool.not_eq_eq_eq_not, Bool.not_true, Bool.not_false, Int.not_lt, Int.not_le, Classical.not_not, beq_iff_eq, beq_eq_false_iff_ne] at hc1
  refine CW.skipS ?_
  refine CW.seq ?_
  refine CW.seq ?_
  refine CW.reg ?_
  refine WL.pure rfl rfl rfl (PV.assign rfl) ?_
  refine WL.nilS ?_
  refine CW.block ?_
  refine CW.loop (σk := [(0, _), (1, _)]) (fun ρ wz m => ∃ (k : Nat), ρ = [(5, .int .i64 (k : Nat))] ∧ m = xs.length - k ∧ UpdL [] w wz ∧ (k ≤ xs.length) ∧ (xs.take k = ys.take k)) (ρ₀ := [(5, _)]) (m₀ := _) ⟨rfl, rfl, rfl, trivial⟩ ⟨0, rfl, rfl, (UpdL.refl _ _), (by first | omega | rfl | (simp; done) | assumption | (simp_all; done)), (by first | omega | rfl | (simp; done) | assumption | (simp_all; done))⟩ ?_
  rintro _ wl1 _ ⟨k, rfl, rfl, hU0, hk, he⟩
  have hB := hB.loop hU0 trivial
  refine CW.seq ?_
  refine CW.seq ?_
  refine CW.reg ?_
  refine WL.pure rfl rfl rfl (PV.move rfl) ?_
  refine WL.pure rfl rfl rfl (PV.move rfl) ?_
  refine WL.pure rfl rfl rfl ((by first | exact PV.len rfl (by assumption) T.sl32 | exact PV.lenOs rfl (by assumption) T.sl32)) ?_
  refine WL.pure rfl rfl rfl (PV.lss rfl rfl) ?_
  refine WL.nilS ?_
  refine CW.cond rfl (fun hc2 => ?_) (fun hc2 => ?_)
  · skip
    try simp only [decide_eq_true_eq, decide_eq_false_iff_not, Bool.not_eq_true', Bool.not_eq_false', Bool.not_eq_eq_eq_not, Bool.not_true, Bool.not_false, Int.not_lt, Int.not_le, Classical.not_not, beq_iff_eq, beq_eq_false_iff_ne] at hc2
    refine CW.skipS ?_
    refine CW.seq ?_
    refine CW.block ?_
    refine CW.seq ?_
    refine CW.draw T.mixed (by kernel_rfl) (fun _ _ _ _ _ h => h) (fun w8 w9 => Upd none w8 w9) 9 (.take 0 (.take 1 (.take 2 (.take 3 (.take 4 (.take 5 (.take 6 (.take 7 (.take 8 .done))))))))) (by kernel_rfl) (fun w1 hXd => ?_)
    have hB := hB.trans hXd
    have hU0 := hU0.ext hXd
    have hBr := hB
    have hS : Upd none w1 w1 := Ext.toUpd (Ext.refl _)
    refine HP.take rfl rfl rfl rfl hS (fun wS hS1 => PV.move rfl) ?_
    refine HP.take rfl rfl rfl rfl hS (fun wS hS1 => PV.move rfl) ?_
    first
      | refine HP.at (x := .tmp 17) (y := .tmp 18) (E := EB) (false) rfl rfl (by assumption) (by first | omega | (simp; omega) | (simp_all; omega)) (fun p1 csp1 hpp1 hcp1 hq => ?_)
      | refine HP.atZ (x := .tmp 17) (y := .tmp 18) (E := EB) (false) rfl rfl (by assumption) (by first | omega | (simp; omega) | (simp_all; omega)) (fun p1 csp1 hpp1 hzp1 hcp1 hq => ?_)
    cases hq
    refine HP.take rfl rfl rfl rfl hS (fun wS hS1 => (by first | exact PV.indexAddr hpp1 rfl rfl T.sl32 | exact PV.indexAddr hpp1 rfl (by rw [← hzp1]; rfl) T.sl32)) ?_
    refine HP.take rfl rfl rfl rfl hS (fun wS hS1 => (by first | exact PV.load0 T.na4 rfl (by first | exact Cells.up (by assumption) (hBr.trans hS1) | exact Bx.cells (Bx.updD (by assumption) hS1 (Dj.nlR _)) | exact Cells.upd (by assumption) hS1 (by simp)) (Ext.refl _) rfl | exact PV.load1 T.na4 rfl (by first | exact Cells.up (by assumption) (hBr.trans hS1) | exact Bx.cells (Bx.updD (by assumption) hS1 (Dj.nlR _)) | exact Cells.upd (by assumption) hS1 (by simp)) (Ext.refl _) rfl)) ?_
    refine HP.take rfl rfl rfl rfl hS (fun wS hS1 => PV.move rfl) ?_
    refine HP.take rfl rfl rfl rfl hS (fun wS hS1 => PV.move rfl) ?_
    first
      | refine HP.at (x := .tmp 21) (y := .tmp 22) (E := EB) (false) rfl rfl (by assumption) (by first | omega | (simp; omega) | (simp_all; omega)) (fun p2 csp2 hpp2 hcp2 hq => ?_)
      | refine HP.atZ (x := .tmp 21) (y := .tmp 22) (E := EB) (false) rfl rfl (by assumption) (by first | omega | (simp; omega) | (simp_all; omega)) (fun p2 csp2 hpp2 hzp2 hcp2 hq => ?_)
    cases hq
    refine HP.take rfl rfl rfl rfl hS (fun wS hS1 => (by first | exact PV.indexAddr hpp2 rfl rfl T.sl32 | exact PV.indexAddr hpp2 rfl (by rw [← hzp2]; rfl) T.sl32)) ?_
    refine HP.take rfl rfl rfl rfl hS (fun wS hS1 => (by first | exact PV.load0 T.na4 rfl (by first | exact Cells.up (by assumption) (hBr.trans hS1) | exact Bx.cells (Bx.updD (by assumption) hS1 (Dj.nlR _)) | exact Cells.upd (by assumption) hS1 (by simp)) (Ext.refl _) rfl | exact PV.load1 T.na4 rfl (by first | exact Cells.up (by assumption) (hBr.trans hS1) | exact Bx.cells (Bx.updD (by assumption) hS1 (Dj.nlR _)) | exact Cells.upd (by assumption) hS1 (by simp)) (Ext.refl _) rfl)) ?_
    refine HP.take rfl rfl rfl rfl hS (fun wS hS1 => PV.neqB T.bl4 rfl rfl) ?_
    refine HP.doneS ?_
    refine CW.cond rfl (fun hc3 => ?_) (fun hc3 => ?_)
    · skip
      try simp only [decide_eq_true_eq, decide_eq_false_iff_not, Bool.not_eq_true', Bool.not_eq_false', Bool.not_eq_eq_eq_not, Bool.not_true, Bool.not_false, Int.not_lt, Int.not_le, Classical.not_not, beq_iff_eq, beq_eq_false_iff_ne] at hc3
      refine CW.seq ?_
      refine CW.reg ?_
      refine WL.pure rfl rfl rfl (PV.assign rfl) ?_
      refine WL.nilS ?_
      refine CW.ret ?_
      refine RQ.block ?_
      refine RQ.then ?_
      refine RQ.then ?_
      refine RQ.block ?_
      refine RQ.then ?_
      refine RQ.r1 rfl ?_
      refine ⟨?_, hB⟩
      first | exact bT (eq_of_takes (by omega) (by omega) he) | exact bF (by rintro rfl; simp_all)
    try simp only [decide_eq_true_eq, decide_eq_false_iff_not, Bool.not_eq_true', Bool.not_eq_false', Bool.not_eq_eq_eq_not, Bool.not_true, Bool.not_false, Int.not_lt, Int.not_le, Classical.not_not, beq_iff_eq, beq_eq_false_iff_ne] at hc3
    refine CW.skip ?_
    refine NQ.block ?_
    refine NQ.then ?_
    refine CW.reg ?_
    refine WL.pure rfl rfl rfl (PV.move rfl) ?_
    refine WL.pure rfl rfl rfl (PV.add rfl rfl (by constructor <;> omega)) ?_
    refine WL.pure rfl rfl rfl (PV.assign rfl) ?_
    refine WL.nil ?_
    refine NQ.next (ρ := [(5, _)]) ⟨rfl, rfl, rfl, trivial⟩ ?_
    exact ⟨_, ⟨k + 1, rfl, rfl, hU0, (by first | omega | assumption | (simp_all; done) | (simp_all; omega)), (by exact take_eq_succ (by omega) (by omega) he (by assumption))⟩, by omega⟩
  try simp only [decide_eq_true_eq, decide_eq_false_iff_not, Bool.not_eq_true', Bool.not_eq_false', Bool.not_eq_eq_eq_not, Bool.not_true, Bool.not_false, Int.not_lt, Int.not_le, Classical.not_not, beq_iff_eq, beq_eq_false_iff_ne] at hc2
  refine CW.exit ?_
  refine XQ.then ?_
  refine XQ.then ?_
  refine XQ.here ?_
  refine NQ.then ?_
  refine CW.seq ?_
  refine CW.reg ?_
  refine WL.pure rfl rfl rfl (PV.assign rfl) ?_
  refine WL.nilS ?_
  refine CW.ret ?_
  refine RQ.r1 rfl ?_
  refine ⟨?_, hB⟩
  first | exact bT (eq_of_takes (by omega) (by omega) he) | exact bF (by rintro rfl; simp_all)
theorem c_laws_eqTreeMachine {w : World} {a0 : Int} {a1 : Int} {va2 : Value} {xa2 : List Int} {va3 : Value} {xa3 : List Int} {va4 : Value} {xa4 : List Bool} {b0 : Int} {b1 : Int} {vb2 : Value} {xb2 : List Int} {vb3 : Value} {xb3 : List Int} {vb4 : Value} {xb4 : List Bool}  (ha2 : Rd EI w va2 xa2) (ha3 : Rd EI w va3 xa3) (ha4 : Rd EB w va4 xa4) (hb2 : Rd EI w vb2 xb2) (hb3 : Rd EI w vb3 xb3) (hb4 : Rd EB w vb4 xb4) : Calls Try.prog 31 #[.agg #[.int .i64 a0, .int .i64 a1, va2, va3, va4], .agg #[.int .i64 b0, .int .i64 b1, vb2, vb3, vb4]] w (Ret1 (RQt (.bool (decide (a0 = b0 ∧ a1 = b1 ∧ xa2 = xb2 ∧ xa3 = xb3 ∧ xa4 = xb4))) w)) := by
  have hB : Ext w w := Ext.refl w
  have hla2 := ha2.leI; have hla3 := ha3.leI; have hla4 := ha4.leI; have hlb2 := hb2.leI; have hlb3 := hb3.leI; have hlb4 := hb4.leI
  refine callsOf (vs := [_, _]) Try.func31 rfl Try.ntmps31 rfl rfl ?_
  refine CW.seq ?_
  refine CW.reg ?_
  refine WL.op rfl (OpK.box rfl rfl (by first | rfl | exact Rd.cells1 (by assumption) | exact Osl.cells1 (by assumption) | exact Osn.cells1 (by assumption)) (fun b1 w1 hXw1 hb1 hge1 => ?_))
  have hl1 := Lo.new hB hge1
  have hB := hB.trans hXw1
  refine WL.op rfl (OpK.box rfl rfl (by first | rfl | exact Rd.cells1 (by assumption) | exact Osl.cells1 (by assumption) | exact Osn.cells1 (by assumption)) (fun b2 w2 hXw2 hb2 hge2 => ?_))
  have hl2 := Lo.new hB hge2
  have hd1_2 := Dj.new hb1.ltO hge2
  have hB := hB.trans hXw2
  have hb1 := hb1.up hXw2
  refine WL.pure rfl rfl rfl (PV.assign rfl) ?_
  refine WL.nilS ?_
  refine CW.seq ?_
  refine CW.seq ?_
  refine CW.reg ?_
  refine WL.pure rfl rfl rfl ((by first | exact PV.fieldAddr T.fl37_0 rfl (by first | assumption | exact Bx.cells (by assumption)) | exact PV.fieldAddrP T.fl37_0 rfl rfl)) ?_
  refine WL.pure rfl rfl rfl ((by first | exact PV.load0 T.na2 rfl (by first | exact Cells.up (by assumption) hB | exact Bx.cells (by assumption) | assumption) (Ext.refl _) rfl | exact PV.load1 T.na2 rfl (by first | exact Cells.up (by assumption) hB | exact Bx.cells (by assumption) | assumption) (Ext.refl _) rfl)) ?_
  refine WL.pure rfl rfl rfl ((by first | exact PV.fieldAddr T.fl37_0 rfl (by first | assumption | exact Bx.cells (by assumption)) | exact PV.fieldAddrP T.fl37_0 rfl rfl)) ?_
  refine WL.pure rfl rfl rfl ((by first | exact PV.load0 T.na2 rfl (by first | exact Cells.up (by assumption) hB | exact Bx.cells (by assumption) | assumption) (Ext.refl _) rfl | exact PV.load1 T.na2 rfl (by first | exact Cells.up (by assumption) hB | exact Bx.cells (by assumption) | assumption) (Ext.refl _) rfl)) ?_
  refine WL.pure rfl rfl rfl (PV.neq rfl rfl) ?_
  refine WL.nilS ?_
  refine CW.cond rfl (fun hc1 => ?_) (fun hc1 => ?_)
  · skip
    try simp only [decide_eq_true_eq, decide_eq_false_iff_not, Bool.not_eq_true', Bool.not_eq_false', Bool.not_eq_eq_eq_not, Bool.not_true, Bool.not_false, Int.not_lt, Int.not_le, Classical.not_not, beq_iff_eq, beq_eq_false_iff_ne] at hc1
    refine CW.seq ?_
    refine CW.reg ?_
    refine WL.pure rfl rfl rfl (PV.assign rfl) ?_
    refine WL.nilS ?_
    refine CW.ret ?_
    refine RQ.then ?_
    refine RQ.r1 rfl ?_
    refine ⟨?_, hB⟩
    first | rfl | exact bT (by omega) | exact bF (by omega) | exact bD (by omega) | exact iE (by omega) | (simp_all; done) | (simp_all; omega) | (simp_all; intros; omega)
  try simp only [decide_eq_true_eq, decide_eq_false_iff_not, Bool.not_eq_true', Bool.not_eq_false', Bool.not_eq_eq_eq_not, Bool.not_true, Bool.not_false, Int.not_lt, Int.not_le, Classical.not_not, beq_iff_eq, beq_eq_false_iff_ne] at hc1
  refine CW.skipS ?_
  refine CW.seq ?_
  refine CW.seq ?_
  refine CW.reg ?_
  refine WL.pure rfl rfl rfl ((by first | exact PV.fieldAddr T.fl37_1 rfl (by first | assumption | exact Bx.cells (by assumption)) | exact PV.fieldAddrP T.fl37_1 rfl rfl)) ?_
  refine WL.pure rfl rfl rfl ((by first | exact PV.load0 T.na2 rfl (by first | exact Cells.up (by assumption) hB | exact Bx.cells (by assumption) | assumption) (Ext.refl _) rfl | exact PV.load1 T.na2 rfl (by first | exact Cells.up (by assumption) hB | exact Bx.cells (by assumption) | assumption) (Ext.refl _) rfl)) ?_
  refine WL.pure rfl rfl rfl ((by first | exact PV.fieldAddr T.fl37_1 rfl (by first | assumption | exact Bx.cells (by assumption)) | exact PV.fieldAddrP T.fl37_1 rfl rfl)) ?_
  refine WL.pure rfl rfl rfl ((by first | exact PV.load0 T.na2 rfl (by first | exact Cells.up (by assumption) hB | exact Bx.cells (by assumption) | assumption) (Ext.refl _) rfl | exact PV.load1 T.na2 rfl (by first | exact Cells.up (by assumption) hB | exact Bx.cells (by assumption) | assumption) (Ext.refl _) rfl)) ?_
  refine WL.pure rfl rfl rfl (PV.neq rfl rfl) ?_
  refine WL.nilS ?_
  refine CW.cond rfl (fun hc2 => ?_) (fun hc2 => ?_)
  · skip
    try simp only [decide_eq_true_eq, decide_eq_false_iff_not, Bool.not_eq_true', Bool.not_eq_false', Bool.not_eq_eq_eq_not, Bool.not_true, Bool.not_false, Int.not_lt, Int.not_le, Classical.not_not, beq_iff_eq, beq_eq_false_iff_ne] at hc2
    refine CW.seq ?_
    refine CW.reg ?_
    refine WL.pure rfl rfl rfl (PV.assign rfl) ?_
    refine WL.nilS ?_
    refine CW.ret ?_
    refine RQ.then ?_
    refine RQ.r1 rfl ?_
    refine ⟨?_, hB⟩
    first | rfl | exact bT (by omega) | exact bF (by omega) | exact bD (by omega) | exact iE (by omega) | (simp_all; done) | (simp_all; omega) | (simp_all; intros; omega)
  try simp only [decide_eq_true_eq, decide_eq_false_iff_not, Bool.not_eq_true', Bool.not_eq_false', Bool.not_eq_eq_eq_not, Bool.not_true, Bool.not_false, Int.not_lt, Int.not_le, Classical.not_not, beq_iff_eq, beq_eq_false_iff_ne] at hc2
  refine CW.skipS ?_
  refine CW.seq ?_
  refine CW.seq ?_
  refine CW.reg ?_
  refine WL.pure rfl rfl rfl ((by first | exact PV.fieldAddr T.fl37_2 rfl (by first | assumption | exact Bx.cells (by assumption)) | exact PV.fieldAddrP T.fl37_2 rfl rfl)) ?_
  refine WL.pure rfl rfl rfl ((by first | exact PV.load0 T.na22 rfl (by first | exact Cells.up (by assumption) hB | exact Bx.cells (by assumption) | assumption) (Ext.refl _) rfl | exact PV.load1 T.na22 rfl (by first | exact Cells.up (by assumption) hB | exact Bx.cells (by assumption) | assumption) (Ext.refl _) rfl)) ?_
  refine WL.pure rfl rfl rfl ((by first | exact PV.fieldAddr T.fl37_2 rfl (by first | assumption | exact Bx.cells (by assumption)) | exact PV.fieldAddrP T.fl37_2 rfl rfl)) ?_
  refine WL.pure rfl rfl rfl ((by first | exact PV.load0 T.na22 rfl (by first | exact Cells.up (by assumption) hB | exact Bx.cells (by assumption) | assumption) (Ext.refl _) rfl | exact PV.load1 T.na22 rfl (by first | exact Cells.up (by assumption) hB | exact Bx.cells (by assumption) | assumption) (Ext.refl _) rfl)) ?_
  refine WL.op rfl (OpK.callR rfl T.cf18 rfl (c_laws_eqInt64S (by first | assumption | exact Rd.up (by assumption) hB | exact Osl.rd (by assumption) | exact Osn.rdR (by assumption)) (by first | assumption | exact Rd.up (by assumption) hB | exact Osl.rd (by assumption) | exact Osn.rdR (by assumption))) (fun w3 hXw3 => ?_))
  have hB := hB.trans hXw3
  have hb1 := hb1.up hXw3
  have hb2 := hb2.up hXw3
  refine WL.pure rfl rfl rfl (PV.not rfl) ?_
  refine WL.nilS ?_
  refine CW.cond rfl (fun hc3 => ?_) (fun hc3 => ?_)
  · skip
    try simp only [decide_eq_true_eq, decide_eq_false_iff_not, Bool.not_eq_true', Bool.not_eq_false', Bool.not_eq_eq_eq_not, Bool.not_true, Bool.not_false, Int.not_lt, Int.not_le, Classical.not_not, beq_iff_eq, beq_eq_false_iff_ne] at hc3
    refine CW.seq ?_
    refine CW.reg ?_
    refine WL.pure rfl rfl rfl (PV.assign rfl) ?_
    refine WL.nilS ?_
    refine CW.ret ?_
    refine RQ.then ?_
    refine RQ.r1 rfl ?_
    refine ⟨?_, hB⟩
    first | rfl | exact bT (by omega) | exact bF (by omega) | exact bD (by omega) | exact iE (by omega) | (simp_all; done) | (simp_all; omega) | (simp_all; intros; omega)
  try simp only [decide_eq_true_eq, decide_eq_false_iff_not, Bool.not_eq_true', Bool.not_eq_false', Bool.not_eq_eq_eq_not, Bool.not_true, Bool.not_false, Int.not_lt, Int.not_le, Classical.not_not, beq_iff_eq, beq_eq_false_iff_ne] at hc3
  refine CW.skipS ?_
  refine CW.seq ?_
  refine CW.seq ?_
  refine CW.reg ?_
  refine WL.pure rfl rfl rfl ((by first | exact PV.fieldAddr T.fl37_3 rfl (by first | assumption | exact Bx.cells (by assumption)) | exact PV.fieldAddrP T.fl37_3 rfl rfl)) ?_
  refine WL.pure rfl rfl rfl ((by first | exact PV.load0 T.na22 rfl (by first | exact Cells.up (by assumption) hB | exact Bx.cells (by assumption) | assumption) (Ext.refl _) rfl | exact PV.load1 T.na22 rfl (by first | exact Cells.up (by assumption) hB | exact Bx.cells (by assumption) | assumption) (Ext.refl _) rfl)) ?_
  refine WL.pure rfl rfl rfl ((by first | exact PV.fieldAddr T.fl37_3 rfl (by first | assumption | exact Bx.cells (by assumption)) | exact PV.fieldAddrP T.fl37_3 rfl rfl)) ?_
  refine WL.pure rfl rfl rfl ((by first | exact PV.load0 T.na22 rfl (by first | exact Cells.up (by assumption) hB | exact Bx.cells (by assumption) | assumption) (Ext.refl _) rfl | exact PV.load1 T.na22 rfl (by first | exact Cells.up (by assumption) hB | exact Bx.cells (by assumption) | assumption) (Ext.refl _) rfl)) ?_
  refine WL.op rfl (OpK.callR rfl T.cf18 rfl (c_laws_eqInt64S (by first | assumption | exact Rd.up (by assumption) hB | exact Osl.rd (by assumption) | exact Osn.rdR (by assumption)) (by first | assumption | exact Rd.up (by assumption) hB | exact Osl.rd (by assumption) | exact Osn.rdR (by assumption))) (fun w4 hXw4 => ?_))
  have hB := hB.trans hXw4
  have hb1 := hb1.up hXw4
  have hb2 := hb2.up hXw4
  refine WL.pure rfl rfl rfl (PV.not rfl) ?_
  refine WL.nilS ?_
  refine CW.cond rfl (fun hc4 => ?_) (fun hc4 => ?_)
  · skip
    try simp only [decide_eq_true_eq, decide_eq_false_iff_not, Bool.not_eq_true', Bool.not_eq_false', Bool.not_eq_eq_eq_not, Bool.not_true, Bool.not_false, Int.not_lt, Int.not_le, Classical.not_not, beq_iff_eq, beq_eq_false_iff_ne] at hc4
    refine CW.seq ?_
    refine CW.reg ?_
    refine WL.pure rfl rfl rfl (PV.assign rfl) ?_
    refine WL.nilS ?_
    refine CW.ret ?_
    refine RQ.then ?_
    refine RQ.r1 rfl ?_
    refine ⟨?_, hB⟩
    first | rfl | exact bT (by omega) | exact bF (by omega) | exact bD (by omega) | exact iE (by omega) | (simp_all; done) | (simp_all; omega) | (simp_all; intros; omega)
  try simp only [decide_eq_true_eq, decide_eq_false_iff_not, Bool.not_eq_true', Bool.not_eq_false', Bool.not_eq_eq_eq_not, Bool.not_true, Bool.not_false, Int.not_lt, Int.not_le, Classical.not_not, beq_iff_eq, beq_eq_false_iff_ne] at hc4
  refine CW.skipS ?_
  refine CW.seq ?_
  refine CW.seq ?_
  refine CW.reg ?_
  refine WL.pure rfl rfl rfl ((by first | exact PV.fieldAddr T.fl37_4 rfl (by first | assumption | exact Bx.cells (by assumption)) | exact PV.fieldAddrP T.fl37_4 rfl rfl)) ?_
  refine WL.pure rfl rfl rfl ((by first | exact PV.load0 T.na32 rfl (by first | exact Cells.up (by assumption) hB | exact Bx.cells (by assumption) | assumption) (Ext.refl _) rfl | exact PV.load1 T.na32 rfl (by first | exact Cells.up (by assumption) hB | exact Bx.cells (by assumption) | assumption) (Ext.refl _) rfl)) ?_
  refine WL.pure rfl rfl rfl ((by first | exact PV.fieldAddr T.fl37_4 rfl (by first | assumption | exact Bx.cells (by assumption)) | exact PV.fieldAddrP T.fl37_4 rfl rfl)) ?_
  refine WL.pure rfl rfl rfl ((by first | exact PV.load0 T.na32 rfl (by first | exact Cells.up (by assumption) hB | exact Bx.cells (by assumption) | assumption) (Ext.refl _) rfl | exact PV.load1 T.na32 rfl (by first | exact Cells.up (by assumption) hB | exact Bx.cells (by assumption) | assumption) (Ext.refl _) rfl)) ?_
  refine WL.op rfl (OpK.callR rfl T.cf73 rfl (c_laws_eqBoolS (by first | assumption | exact Rd.up (by assumption) hB | exact Osl.rd (by assumption) | exact Osn.rdR (by assumption)) (by first | assumption | exact Rd.up (by assumption) hB | exact Osl.rd (by assumption) | exact Osn.rdR (by assumption))) (fun w5 hXw5 => ?_))
  have hB := hB.trans hXw5
  have hb1 := hb1.up hXw5
  have hb2 := hb2.up hXw5
  refine WL.pure rfl rfl rfl (PV.not rfl) ?_
  refine WL.nilS ?_
  refine CW.cond rfl (fun hc5 => ?_) (fun hc5 => ?_)
  · skip
    try simp only [decide_eq_true_eq, decide_eq_false_iff_not, Bool.not_eq_true', Bool.not_eq_false', Bool.not_eq_eq_eq_not, Bool.not_true, Bool.not_false, Int.not_lt, Int.not_le, Classical.not_not, beq_iff_eq, beq_eq_false_iff_ne] at hc5
    refine CW.seq ?_
    refine CW.reg ?_
    refine WL.pure rfl rfl rfl (PV.assign rfl) ?_
    refine WL.nilS ?_
    refine CW.ret ?_
    refine RQ.then ?_
    refine RQ.r1 rfl ?_
    refine ⟨?_, hB⟩
    first | rfl | exact bT (by omega) | exact bF (by omega) | exact bD (by omega) | exact iE (by omega) | (simp_all; done) | (simp_all; omega) | (simp_all; intros; omega)
  try simp only [decide_eq_true_eq, decide_eq_false_iff_not, Bool.not_eq_true', Bool.not_eq_false', Bool.not_eq_eq_eq_not, Bool.not_true, Bool.not_false, Int.not_lt, Int.not_le, Classical.not_not, beq_iff_eq, beq_eq_false_iff_ne] at hc5
  refine CW.skipS ?_
  refine CW.seq ?_
  refine CW.reg ?_
  refine WL.pure rfl rfl rfl (PV.assign rfl) ?_
  refine WL.nilS ?_
  refine CW.ret ?_
  refine RQ.r1 rfl ?_
  refine ⟨?_, hB⟩
  first | rfl | exact bT (by omega) | exact bF (by omega) | exact bD (by omega) | exact iE (by omega) | (simp_all; done) | (simp_all; omega) | (simp_all; intros; omega)
theorem c_laws_markInt64S {w : World} {va : Value} {og : Option Nat} {xs : List Int} {k : Int} (ho : Osl VI w og va xs) (hk : 0 ≤ k ∧ k + xs.length ≤ 9223372036854775807) : Calls Try.prog 21 #[va, .int .i64 k] w (Ret1 (fun v w' => v = .int .i64 (k + xs.length) ∧ UpdL [og] w w' ∧ Osl VI w' og va (marks k xs.length))) := by
  refine callsOf (vs := [_, _]) Try.func21 rfl Try.ntmps21 rfl rfl ?_
  have hUB : UpdL [og] w w := UpdL.refl _ _
  have ho1 : Osl VI w og va (xs) := by assumption
  have hkB_1 : OkB [og] w og := OkB.mem (by simp)
  have hgB_1 := OgR.refl w og
  refine CW.seq ?_
  refine CW.reg ?_
  refine WL.pure rfl rfl rfl (PV.assign rfl) ?_
  refine WL.nilS ?_
  refine CW.seq ?_
  refine CW.seq ?_
  refine CW.reg ?_
  refine WL.pure rfl rfl rfl (PV.assign rfl) ?_
  refine WL.nilS ?_
  refine CW.block ?_
  have hlt1 := ho1.ltO
  refine CW.loop (σk := [(0, _)]) (fun ρ wz m => ∃ (i : Nat), ρ = [(1, .int .i64 (k + (i : Nat))), (5, .int .i64 (i : Nat))] ∧ m = xs.length - i ∧ UpdL [og] w wz ∧ Osl VI wz og va (marks k i ++ xs.drop i) ∧ (i ≤ xs.length)) (ρ₀ := [(1, _), (5, _)]) (m₀ := _) ⟨rfl, rfl, rfl, trivial⟩ ⟨0, (by simp), rfl, (UpdL.refl _ _), osE ho1 (by exact marks_zero _ _), (by first | omega | rfl | (simp; done) | assumption | (simp_all; done))⟩ ?_
  rintro _ wl1 _ ⟨i, rfl, rfl, hU0, ho1, hi⟩
  have hUB := hUB.trans hU0 ⟨hkB_1, trivial⟩
  have hk0_1 : OkB [og] w og := OkB.mem (by simp)
  have hll : (marks k i ++ xs.drop i).length = xs.length := by rw [List.length_append, marks_len, List.length_drop]; omega
  refine CW.seq ?_
  refine CW.seq ?_
  refine CW.reg ?_
  refine WL.pure rfl rfl rfl (PV.move rfl) ?_
  refine WL.pure rfl rfl rfl (PV.move rfl) ?_
  refine WL.pure rfl rfl rfl ((PV.lenOs rfl ho1 T.sl22)) ?_
  refine WL.pure rfl rfl rfl (PV.lss rfl rfl) ?_
  refine WL.nilS ?_
  refine CW.cond rfl (fun hc1 => ?_) (fun hc1 => ?_)
  · skip
    try simp only [decide_eq_true_eq, decide_eq_false_iff_not, Bool.not_eq_true', Bool.not_eq_false', Bool.not_eq_eq_eq_not, Bool.not_true, Bool.not_false, Int.not_lt, Int.not_le, Classical.not_not, beq_iff_eq, beq_eq_false_iff_ne] at hc1
    refine CW.skipS ?_
    refine CW.seq ?_
    refine CW.block ?_
    refine CW.seq ?_
    refine CW.reg ?_
    refine WL.pure rfl rfl rfl (PV.move rfl) ?_
    refine WL.pure rfl rfl rfl (PV.move rfl) ?_
    refine WL.pure rfl rfl rfl (PV.move rfl) ?_
    first
      | refine WL.atO (x := .tmp 12) (y := .tmp 13) (f := VI) (0) rfl rfl ho1 (by first | omega | (simp; omega) | (simp_all; omega)) (fun p1 hpp1 hcp1 => ?_)
      | refine WL.atOZ (x := .tmp 12) (y := .tmp 13) (f := VI) (0) rfl rfl ho1 (by first | omega | (simp; omega) | (simp_all; omega)) (fun p1 hpp1 hzp1 hcp1 => ?_)
    refine WL.pure rfl rfl rfl ((by first | exact PV.indexAddr hpp1 rfl rfl T.sl22 | exact PV.indexAddr hpp1 rfl (by rw [← hzp1]; rfl) T.sl22)) ?_
    refine WL.op rfl (OpK.storeS VI T.sz2 rfl rfl rfl hpp1 ho1 (fun w1 hXw1 ho1 => ?_))
    have hUB := hUB.step hXw1 hkB_1
    have hU0 := hU0.step hXw1 hk0_1
    refine WL.nilS ?_
    refine CW.reg ?_
    refine WL.pure rfl rfl rfl (PV.move rfl) ?_
    refine WL.pure rfl rfl rfl (PV.add rfl rfl (by constructor <;> omega)) ?_
    refine WL.pure rfl rfl rfl (PV.assign rfl) ?_
    refine WL.nil ?_
    refine NQ.block ?_
    refine NQ.then ?_
    refine CW.reg ?_
    refine WL.pure rfl rfl rfl (PV.move rfl) ?_
    refine WL.pure rfl rfl rfl (PV.add rfl rfl (by constructor <;> omega)) ?_
    refine WL.pure rfl rfl rfl (PV.assign rfl) ?_
    refine WL.nil ?_
    refine NQ.next (ρ := [(1, _), (5, _)]) ⟨rfl, rfl, rfl, trivial⟩ ?_
    exact ⟨_, ⟨i + 1, (by simp; omega), rfl, hU0, osE ho1 (by exact marks_set (by omega)), (by first | omega | assumption | (simp_all; done) | (simp_all; omega))⟩, by omega⟩
  try simp only [decide_eq_true_eq, decide_eq_false_iff_not, Bool.not_eq_true', Bool.not_eq_false', Bool.not_eq_eq_eq_not, Bool.not_true, Bool.not_false, Int.not_lt, Int.not_le, Classical.not_not, beq_iff_eq, beq_eq_false_iff_ne] at hc1
  refine CW.exit ?_
  refine XQ.then ?_
  refine XQ.then ?_
  refine XQ.here ?_
  refine NQ.then ?_
  refine CW.seq ?_
  refine CW.reg ?_
  refine WL.pure rfl rfl rfl (PV.move rfl) ?_
  refine WL.pure rfl rfl rfl (PV.assign rfl) ?_
  refine WL.nilS ?_
  refine CW.ret ?_
  refine RQ.r1 rfl ?_
  refine ⟨?_, hUB, osE ho1 ?_⟩
  · skip
    exact iE (by omega)
  · skip
    exact marks_done (by omega) hi
theorem c_laws_markBoolS {w : World} {va : Value} {og : Option Nat} {xs : List Bool} {k : Int} (ho : Osl VB w og va xs) (hk : 0 ≤ k ∧ k + xs.length ≤ 9223372036854775807) : Calls Try.prog 83 #[va, .int .i64 k] w (Ret1 (fun v w' => v = .int .i64 (k + xs.length) ∧ UpdL [og] w w' ∧ Osl VB w' og va (marksB k xs.length))) := by
  refine callsOf (vs := [_, _]) Try.func83 rfl Try.ntmps83 rfl rfl ?_
  have hUB : UpdL [og] w w := UpdL.refl _ _
  have ho1 : Osl VB w og va (xs) := by assumption
  have hkB_1 : OkB [og] w og := OkB.mem (by simp)
  have hgB_1 := OgR.refl w og
  refine CW.seq ?_
  refine CW.reg ?_
  refine WL.pure rfl rfl rfl (PV.assign rfl) ?_
  refine WL.nilS ?_
  refine CW.seq ?_
  refine CW.seq ?_
  refine CW.reg ?_
  refine WL.pure rfl rfl rfl (PV.assign rfl) ?_
  refine WL.nilS ?_
  refine CW.block ?_
  have hlt1 := ho1.ltO
  refine CW.loop (σk := [(0, _)]) (fun ρ wz m => ∃ (i : Nat), ρ = [(1, .int .i64 (k + (i : Nat))), (5, .int .i64 (i : Nat))] ∧ m = xs.length - i ∧ UpdL [og] w wz ∧ Osl VB wz og va (marksB k i ++ xs.drop i) ∧ (i ≤ xs.length)) (ρ₀ := [(1, _), (5, _)]) (m₀ := _) ⟨rfl, rfl, rfl, trivial⟩ ⟨0, (by simp), rfl, (UpdL.refl _ _), osE ho1 (by exact marksB_zero _ _), (by first | omega | rfl | (simp; done) | assumption | (simp_all; done))⟩ ?_
  rintro _ wl1 _ ⟨i, rfl, rfl, hU0, ho1, hi⟩
  have hUB := hUB.trans hU0 ⟨hkB_1, trivial⟩
  have hk0_1 : OkB [og] w og := OkB.mem (by simp)
  have hll : (marksB k i ++ xs.drop i).length = xs.length := by rw [List.length_append, marksB_len, List.length_drop]; omega
  refine CW.seq ?_
  refine CW.seq ?_
  refine CW.reg ?_
  refine WL.pure rfl rfl rfl (PV.move rfl) ?_
  refine WL.pure rfl rfl rfl (PV.move rfl) ?_
  refine WL.pure rfl rfl rfl ((PV.lenOs rfl ho1 T.sl32)) ?_
  refine WL.pure rfl rfl rfl (PV.lss rfl rfl) ?_
  refine WL.nilS ?_
  refine CW.cond rfl (fun hc1 => ?_) (fun hc1 => ?_)
  · skip
    try simp only [decide_eq_true_eq, decide_eq_false_iff_not, Bool.not_eq_true', Bool.not_eq_false', Bool.not_eq_eq_eq_not, Bool.not_true, Bool.not_false, Int.not_lt, Int.not_le, Classical.not_not, beq_iff_eq, beq_eq_false_iff_ne] at hc1
    refine CW.skipS ?_
    refine CW.seq ?_
    refine CW.block ?_
    refine CW.seq ?_
    refine CW.reg ?_
    refine WL.pure rfl rfl rfl (PV.move rfl) ?_
    refine WL.pure rfl rfl rfl (PV.move rfl) ?_
    refine WL.pure rfl rfl rfl (PV.move rfl) ?_
    refine WL.pure rfl rfl rfl (PV.rem rfl rfl (by omega) rfl) ?_
    refine WL.pure rfl rfl rfl (PV.eql rfl rfl) ?_
    first
      | refine WL.atO (x := .tmp 12) (y := .tmp 13) (f := VB) (false) rfl rfl ho1 (by first | omega | (simp; omega) | (simp_all; omega)) (fun p1 hpp1 hcp1 => ?_)
      | refine WL.atOZ (x := .tmp 12) (y := .tmp 13) (f := VB) (false) rfl rfl ho1 (by first | omega | (simp; omega) | (simp_all; omega)) (fun p1 hpp1 hzp1 hcp1 => ?_)
    refine WL.pure rfl rfl rfl ((by first | exact PV.indexAddr hpp1 rfl rfl T.sl32 | exact PV.indexAddr hpp1 rfl (by rw [← hzp1]; rfl) T.sl32)) ?_
    refine WL.op rfl (OpK.storeS VB T.sz4 rfl rfl rfl hpp1 ho1 (fun w1 hXw1 ho1 => ?_))
    have hUB := hUB.step hXw1 hkB_1
    have hU0 := hU0.step hXw1 hk0_1
    refine WL.nilS ?_
    refine CW.reg ?_
    refine WL.pure rfl rfl rfl (PV.move rfl) ?_
    refine WL.pure rfl rfl rfl (PV.add rfl rfl (by constructor <;> omega)) ?_
    refine WL.pure rfl rfl rfl (PV.assign rfl) ?_
    refine WL.nil ?_
    refine NQ.block ?_
    refine NQ.then ?_
    refine CW.reg ?_
    refine WL.pure rfl rfl rfl (PV.move rfl) ?_
    refine WL.pure rfl rfl rfl (PV.add rfl rfl (by constructor <;> omega)) ?_
    refine WL.pure rfl rfl rfl (PV.assign rfl) ?_
    refine WL.nil ?_
    refine NQ.next (ρ := [(1, _), (5, _)]) ⟨rfl, rfl, rfl, trivial⟩ ?_
    exact ⟨_, ⟨i + 1, (by simp; omega), rfl, hU0, osE ho1 (by exact marksB_set (by omega)), (by first | omega | assumption | (simp_all; done) | (simp_all; omega))⟩, by omega⟩
  try simp only [decide_eq_true_eq, decide_eq_false_iff_not, Bool.not_eq_true', Bool.not_eq_false', Bool.not_eq_eq_eq_not, Bool.not_true, Bool.not_false, Int.not_lt, Int.not_le, Classical.not_not, beq_iff_eq, beq_eq_false_iff_ne] at hc1
  refine CW.exit ?_
  refine XQ.then ?_
  refine XQ.then ?_
  refine XQ.here ?_
  refine NQ.then ?_
  refine CW.seq ?_
  refine CW.reg ?_
  refine WL.pure rfl rfl rfl (PV.move rfl) ?_
  refine WL.pure rfl rfl rfl (PV.assign rfl) ?_
  refine WL.nilS ?_
  refine CW.ret ?_
  refine RQ.r1 rfl ?_
  refine ⟨?_, hUB, osE ho1 ?_⟩
  · skip
    exact iE (by omega)
  · skip
    exact marksB_done (by omega) hi
theorem c_laws_markTreeMachine {w : World} {a0 : Int} {a1 : Int} {va2 : Value} {xa2 : List Int} {va3 : Value} {xa3 : List Int} {va4 : Value} {xa4 : List Bool} {oga2 : Option Nat} {oga3 : Option Nat} {oga4 : Option Nat} {k : Int} (ho2 : Osl VI w oga2 va2 xa2) (ho3 : Osl VI w oga3 va3 xa3) (ho4 : Osl VB w oga4 va4 xa4) (hdd2_3 : Dj oga2 oga3) (hdd2_4 : Dj oga2 oga4) (hdd3_4 : Dj oga3 oga4) (hk : 0 ≤ k ∧ k + xa2.length + xa3.length + xa4.length ≤ 9223372036854775807) : Calls Try.prog 40 #[.agg #[.int .i64 a0, .int .i64 a1, va2, va3, va4], .int .i64 k] w (Ret1 (fun v w' => v = .int .i64 (k + xa2.length + xa3.length + xa4.length) ∧ UpdL [oga2, oga3, oga4] w w' ∧ Osl VI w' oga2 va2 (marks (k) xa2.length) ∧ Osl VI w' oga3 va3 (marks (k + xa2.length) xa3.length) ∧ Osl VB w' oga4 va4 (marksB (k + xa2.length + xa3.length) xa4.length))) := by
  refine callsOf (vs := [_, _]) Try.func40 rfl Try.ntmps40 rfl rfl ?_
  have hUB : UpdL [oga2, oga3, oga4] w w := UpdL.refl _ _
  have ho1 : Osl VI w oga2 va2 (xa2) := by assumption
  have hkB_1 : OkB [oga2, oga3, oga4] w oga2 := OkB.mem (by simp)
  have hgB_1 := OgR.refl w oga2
  have ho2 : Osl VI w oga3 va3 (xa3) := by assumption
  have hkB_2 : OkB [oga2, oga3, oga4] w oga3 := OkB.mem (by simp)
  have hgB_2 := OgR.refl w oga3
  have ho3 : Osl VB w oga4 va4 (xa4) := by assumption
  have hkB_3 : OkB [oga2, oga3, oga4] w oga4 := OkB.mem (by simp)
  have hgB_3 := OgR.refl w oga4
  have hd1_2 : Dj oga2 oga3 := by assumption
  have hd1_3 : Dj oga2 oga4 := by assumption
  have hd2_3 : Dj oga3 oga4 := by assumption
  refine CW.seq ?_
  refine CW.reg ?_
  refine WL.op rfl (OpK.box rfl rfl (by first | rfl | exact Rd.cells1 (by assumption) | exact Osl.cells1 (by assumption) | exact Osn.cells1 (by assumption)) (fun b4 w1 hXw1 hb4 hge4 => ?_))
  have hd1_4 := Dj.new ho1.ltO hge4
  have hd2_4 := Dj.new ho2.ltO hge4
  have hd3_4 := Dj.new ho3.ltO hge4
  have hkB_4 := OkN.new hUB hge4
  have hgB_4 := OgR.new hUB.size hge4
  have ho1 := ho1.up hXw1
  have ho2 := ho2.up hXw1
  have ho3 := ho3.up hXw1
  have hUB := hUB.ext hXw1
  refine WL.pure rfl rfl rfl (PV.assign rfl) ?_
  refine WL.nilS ?_
  refine CW.seq ?_
  refine CW.reg ?_
  refine WL.pure rfl rfl rfl ((by first | exact PV.fieldAddr T.fl37_2 rfl (by first | assumption | exact Bx.cells (by assumption)) | exact PV.fieldAddrP T.fl37_2 rfl rfl)) ?_
  refine WL.pure rfl rfl rfl ((by first | exact PV.load0 T.na22 rfl (by first | exact Cells.up (by assumption) hB | exact Bx.cells (by assumption) | assumption) (Ext.refl _) rfl | exact PV.load1 T.na22 rfl (by first | exact Cells.up (by assumption) hB | exact Bx.cells (by assumption) | assumption) (Ext.refl _) rfl)) ?_
  refine WL.pure rfl rfl rfl (PV.move rfl) ?_
  refine WL.op rfl (OpK.call rfl T.cf21 rfl (c_laws_markInt64S (by first | assumption | exact Dj.symm (by assumption)) (by first | assumption | omega | (simp only [marks_len, marksB_len]; omega))) (fun rv1 w2 hR => ?_))
  obtain ⟨rfl, hUC5, ho1⟩ := hR
  have hUB := hUB.trans hUC5 ⟨hkB_1, trivial⟩
  have ho2 := ho2.loop hUC5 ⟨(Dj.symm hd1_2), trivial⟩
  have ho3 := ho3.loop hUC5 ⟨(Dj.symm hd1_3), trivial⟩
  have hb4 := hb4.loop hUC5 ⟨(Dj.symm hd1_4), trivial⟩
  refine WL.pure rfl rfl rfl (PV.assign rfl) ?_
  refine WL.nilS ?_
  refine CW.seq ?_
  refine CW.reg ?_
  refine WL.pure rfl rfl rfl ((by first | exact PV.fieldAddr T.fl37_3 rfl (by first | assumption | exact Bx.cells (by assumption)) | exact PV.fieldAddrP T.fl37_3 rfl rfl)) ?_
  refine WL.pure rfl rfl rfl ((by first | exact PV.load0 T.na22 rfl (by first | exact Cells.up (by assumption) hB | exact Bx.cells (by assumption) | assumption) (Ext.refl _) rfl | exact PV.load1 T.na22 rfl (by first | exact Cells.up (by assumption) hB | exact Bx.cells (by assumption) | assumption) (Ext.refl _) rfl)) ?_
  refine WL.pure rfl rfl rfl (PV.move rfl) ?_
  refine WL.op rfl (OpK.call rfl T.cf21 rfl (c_laws_markInt64S (by first | assumption | exact Dj.symm (by assumption)) (by first | assumption | omega | (simp only [marks_len, marksB_len]; omega))) (fun rv2 w3 hR => ?_))
  obtain ⟨rfl, hUC6, ho2⟩ := hR
  have hUB := hUB.trans hUC6 ⟨hkB_2, trivial⟩
  have ho1 := ho1.loop hUC6 ⟨hd1_2, trivial⟩
  have ho3 := ho3.loop hUC6 ⟨(Dj.symm hd2_3), trivial⟩
  have hb4 := hb4.loop hUC6 ⟨(Dj.symm hd2_4), trivial⟩
  refine WL.pure rfl rfl rfl (PV.assign rfl) ?_
  refine WL.nilS ?_
  refine CW.seq ?_
  refine CW.reg ?_
  refine WL.pure rfl rfl rfl ((by first | exact PV.fieldAddr T.fl37_4 rfl (by first | assumption | exact Bx.cells (by assumption)) | exact PV.fieldAddrP T.fl37_4 rfl rfl)) ?_
  refine WL.pure rfl rfl rfl ((by first | exact PV.load0 T.na32 rfl (by first | exact Cells.up (by assumption) hB | exact Bx.cells (by assumption) | assumption) (Ext.refl _) rfl | exact PV.load1 T.na32 rfl (by first | exact Cells.up (by assumption) hB | exact Bx.cells (by assumption) | assumption) (Ext.refl _) rfl)) ?_
  refine WL.pure rfl rfl rfl (PV.move rfl) ?_
  refine WL.op rfl (OpK.call rfl T.cf83 rfl (c_laws_markBoolS (by first | assumption | exact Dj.symm (by assumption)) (by first | assumption | omega | (simp only [marks_len, marksB_len]; omega))) (fun rv3 w4 hR => ?_))
  obtain ⟨rfl, hUC7, ho3⟩ := hR
  have hUB := hUB.trans hUC7 ⟨hkB_3, trivial⟩
  have ho1 := ho1.loop hUC7 ⟨hd1_3, trivial⟩
  have ho2 := ho2.loop hUC7 ⟨hd2_3, trivial⟩
  have hb4 := hb4.loop hUC7 ⟨(Dj.symm hd3_4), trivial⟩
  refine WL.pure rfl rfl rfl (PV.assign rfl) ?_
  refine WL.nilS ?_
  refine CW.seq ?_
  refine CW.reg ?_
  refine WL.pure rfl rfl rfl (PV.move rfl) ?_
  refine WL.pure rfl rfl rfl (PV.assign rfl) ?_
  refine WL.nilS ?_
  refine CW.ret ?_
  refine RQ.r1 rfl ?_
  refine ⟨?_, hUB, osE ho1 ?_, osE ho2 ?_, osE ho3 ?_⟩
  · skip
    rfl
  · skip
    rfl
  · skip
    rfl
  · skip
    rfl
theorem c_laws_heldInt64S {w : World} {va : Value} {xs : List Int} {k : Int} (ha : Rd EI w va xs) (hk : 0 ≤ k ∧ k + xs.length ≤ 9223372036854775807) : Calls Try.prog 22 #[va, .int .i64 k] w (Ret1 (RQt (.int .i64 (if xs = marks k xs.length then k + xs.length else -1)) w)) := by
  have hB : Ext w w := Ext.refl w
  have hla := ha.leI
  refine callsOf (vs := [_, _]) Try.func22 rfl Try.ntmps22 rfl rfl ?_
  refine CW.seq ?_
  refine CW.reg ?_
  refine WL.pure rfl rfl rfl (PV.assign rfl) ?_
  refine WL.nilS ?_
  refine CW.seq ?_
  refine CW.seq ?_
  refine CW.reg ?_
  refine WL.pure rfl rfl rfl (PV.assign rfl) ?_
  refine WL.nilS ?_
  refine CW.block ?_
  refine CW.loop (σk := [(0, _)]) (fun ρ wz m => ∃ (i : Nat), ρ = [(1, .int .i64 (k + (i : Nat))), (5, .int .i64 (i : Nat))] ∧ m = xs.length - i ∧ UpdL [] w wz ∧ (i ≤ xs.length) ∧ (xs.take i = marks k i)) (ρ₀ := [(1, _), (5, _)]) (m₀ := _) ⟨rfl, rfl, rfl, trivial⟩ ⟨0, (by simp), rfl, (UpdL.refl _ _), (by first | omega | rfl | (simp; done) | assumption | (simp_all; done)), (by simp [marks])⟩ ?_
  rintro _ wl1 _ ⟨i, rfl, rfl, hU0, hi, he⟩
  have hB := hB.loop hU0 trivial
  refine CW.seq ?_
  refine CW.seq ?_
  refine CW.reg ?_
  refine WL.pure rfl rfl rfl (PV.move rfl) ?_
  refine WL.pure rfl rfl rfl (PV.move rfl) ?_
  refine WL.pure rfl rfl rfl ((by first | exact PV.len rfl (by assumption) T.sl22 | exact PV.lenOs rfl (by assumption) T.sl22)) ?_
  refine WL.pure rfl rfl rfl (PV.lss rfl rfl) ?_
  refine WL.nilS ?_
  refine CW.cond rfl (fun hc1 => ?_) (fun hc1 => ?_)
  · skip
    try simp only [decide_eq_true_eq, decide_eq_false_iff_not, Bool.not_eq_true', Bool.not_eq_false', Bool.not_eq_eq_eq_not, Bool.not_true, Bool.not_false, Int.not_lt, Int.not_le, Classical.not_not, beq_iff_eq, beq_eq_false_iff_ne] at hc1
    refine CW.skipS ?_
    refine CW.seq ?_
    refine CW.block ?_
    refine CW.seq ?_
    refine CW.seq ?_
    refine CW.reg ?_
    refine WL.pure rfl rfl rfl (PV.move rfl) ?_
    refine WL.pure rfl rfl rfl (PV.move rfl) ?_
    first
      | refine WL.at (x := .tmp 12) (y := .tmp 13) (E := EI) (0) rfl rfl (by assumption) (by first | omega | (simp; omega) | (simp_all; omega)) (fun p1 csp1 hpp1 hcp1 hq => ?_)
      | refine WL.atZ (x := .tmp 12) (y := .tmp 13) (E := EI) (0) rfl rfl (by assumption) (by first | omega | (simp; omega) | (simp_all; omega)) (fun p1 csp1 hpp1 hzp1 hcp1 hq => ?_)
    cases hq
    refine WL.pure rfl rfl rfl ((by first | exact PV.indexAddr hpp1 rfl rfl T.sl22 | exact PV.indexAddr hpp1 rfl (by rw [← hzp1]; rfl) T.sl22)) ?_
    refine WL.pure rfl rfl rfl ((by first | exact PV.load0 T.na2 rfl (by first | exact Cells.up (by assumption) hB | exact Bx.cells (by assumption) | assumption) (Ext.refl _) rfl | exact PV.load1 T.na2 rfl (by first | exact Cells.up (by assumption) hB | exact Bx.cells (by assumption) | assumption) (Ext.refl _) rfl)) ?_
    refine WL.pure rfl rfl rfl (PV.move rfl) ?_
    refine WL.pure rfl rfl rfl (PV.neq rfl rfl) ?_
    refine WL.nilS ?_
    refine CW.cond rfl (fun hc2 => ?_) (fun hc2 => ?_)
    · skip
      try simp only [decide_eq_true_eq, decide_eq_false_iff_not, Bool.not_eq_true', Bool.not_eq_false', Bool.not_eq_eq_eq_not, Bool.not_true, Bool.not_false, Int.not_lt, Int.not_le, Classical.not_not, beq_iff_eq, beq_eq_false_iff_ne] at hc2
      refine CW.seq ?_
      refine CW.reg ?_
      refine WL.pure rfl rfl rfl (PV.assign rfl) ?_
      refine WL.nilS ?_
      refine CW.ret ?_
      refine RQ.then ?_
      refine RQ.block ?_
      refine RQ.then ?_
      refine RQ.then ?_
      refine RQ.block ?_
      refine RQ.then ?_
      refine RQ.r1 rfl ?_
      refine ⟨?_, hB⟩
      first | (rw [if_neg (marks_bad (i := i) (by omega) (by assumption))]) | (rw [if_pos (marks_eq (i := i) (by omega) (by omega) he)]; exact iE (by omega))
    try simp only [decide_eq_true_eq, decide_eq_false_iff_not, Bool.not_eq_true', Bool.not_eq_false', Bool.not_eq_eq_eq_not, Bool.not_true, Bool.not_false, Int.not_lt, Int.not_le, Classical.not_not, beq_iff_eq, beq_eq_false_iff_ne] at hc2
    refine CW.skipS ?_
    refine CW.reg ?_
    refine WL.pure rfl rfl rfl (PV.move rfl) ?_
    refine WL.pure rfl rfl rfl (PV.add rfl rfl (by constructor <;> omega)) ?_
    refine WL.pure rfl rfl rfl (PV.assign rfl) ?_
    refine WL.nil ?_
    refine NQ.block ?_
    refine NQ.then ?_
    refine CW.reg ?_
    refine WL.pure rfl rfl rfl (PV.move rfl) ?_
    refine WL.pure rfl rfl rfl (PV.add rfl rfl (by constructor <;> omega)) ?_
    refine WL.pure rfl rfl rfl (PV.assign rfl) ?_
    refine WL.nil ?_
    refine NQ.next (ρ := [(1, _), (5, _)]) ⟨rfl, rfl, rfl, trivial⟩ ?_
    exact ⟨_, ⟨i + 1, (by simp; omega), rfl, hU0, (by first | omega | assumption | (simp_all; done) | (simp_all; omega)), (by exact marks_step (by omega) he (by assumption))⟩, by omega⟩
  try simp only [decide_eq_true_eq, decide_eq_false_iff_not, Bool.not_eq_true', Bool.not_eq_false', Bool.not_eq_eq_eq_not, Bool.not_true, Bool.not_false, Int.not_lt, Int.not_le, Classical.not_not, beq_iff_eq, beq_eq_false_iff_ne] at hc1
  refine CW.exit ?_
  refine XQ.then ?_
  refine XQ.then ?_
  refine XQ.here ?_
  refine NQ.then ?_
  refine CW.seq ?_
  refine CW.reg ?_
  refine WL.pure rfl rfl rfl (PV.move rfl) ?_
  refine WL.pure rfl rfl rfl (PV.assign rfl) ?_
  refine WL.nilS ?_
  refine CW.ret ?_
  refine RQ.r1 rfl ?_
  refine ⟨?_, hB⟩
  first | (rw [if_neg (marks_bad (i := i) (by omega) (by assumption))]) | (rw [if_pos (marks_eq (i := i) (by omega) (by omega) he)]; exact iE (by omega))
theorem c_laws_heldBoolS {w : World} {va : Value} {xs : List Bool} {k : Int} (ha : Rd EB w va xs) (hk : 0 ≤ k ∧ k + xs.length ≤ 9223372036854775807) : Calls Try.prog 84 #[va, .int .i64 k] w (Ret1 (RQt (.int .i64 (if xs = marksB k xs.length then k + xs.length else -1)) w)) := by
  have hB : Ext w w := Ext.refl w
  have hla := ha.leI
  refine callsOf (vs := [_, _]) Try.func84 rfl Try.ntmps84 rfl rfl ?_
  refine CW.seq ?_
  refine CW.reg ?_
  refine WL.pure rfl rfl rfl (PV.assign rfl) ?_
  refine WL.nilS ?_
  refine CW.seq ?_
  refine CW.seq ?_
  refine CW.reg ?_
  refine WL.pure rfl rfl rfl (PV.assign rfl) ?_
  refine WL.nilS ?_
  refine CW.block ?_
  refine CW.loop (σk := [(0, _)]) (fun ρ wz m => ∃ (i : Nat), ρ = [(1, .int .i64 (k + (i : Nat))), (5, .int .i64 (i : Nat))] ∧ m = xs.length - i ∧ UpdL [] w wz ∧ (i ≤ xs.length) ∧ (xs.take i = marksB k i)) (ρ₀ := [(1, _), (5, _)]) (m₀ := _) ⟨rfl, rfl, rfl, trivial⟩ ⟨0, (by simp), rfl, (UpdL.refl _ _), (by first | omega | rfl | (simp; done) | assumption | (simp_all; done)), (by simp [marksB])⟩ ?_
  rintro _ wl1 _ ⟨i, rfl, rfl, hU0, hi, he⟩
  have hB := hB.loop hU0 trivial
  refine CW.seq ?_
  refine CW.seq ?_
  refine CW.reg ?_
  refine WL.pure rfl rfl rfl (PV.move rfl) ?_
  refine WL.pure rfl rfl rfl (PV.move rfl) ?_
  refine WL.pure rfl rfl rfl ((by first | exact PV.len rfl (by assumption) T.sl32 | exact PV.lenOs rfl (by assumption) T.sl32)) ?_
  refine WL.pure rfl rfl rfl (PV.lss rfl rfl) ?_
  refine WL.nilS ?_
  refine CW.cond rfl (fun hc1 => ?_) (fun hc1 => ?_)
  · skip
    try simp only [decide_eq_true_eq, decide_eq_false_iff_not, Bool.not_eq_true', Bool.not_eq_false', Bool.not_eq_eq_eq_not, Bool.not_true, Bool.not_false, Int.not_lt, Int.not_le, Classical.not_not, beq_iff_eq, beq_eq_false_iff_ne] at hc1
    refine CW.skipS ?_
    refine CW.seq ?_
    refine CW.block ?_
    refine CW.seq ?_
    refine CW.seq ?_
    refine CW.reg ?_
    refine WL.pure rfl rfl rfl (PV.move rfl) ?_
    refine WL.pure rfl rfl rfl (PV.move rfl) ?_
    first
      | refine WL.at (x := .tmp 12) (y := .tmp 13) (E := EB) (false) rfl rfl (by assumption) (by first | omega | (simp; omega) | (simp_all; omega)) (fun p1 csp1 hpp1 hcp1 hq => ?_)
      | refine WL.atZ (x := .tmp 12) (y := .tmp 13) (E := EB) (false) rfl rfl (by assumption) (by first | omega | (simp; omega) | (simp_all; omega)) (fun p1 csp1 hpp1 hzp1 hcp1 hq => ?_)
    cases hq
    refine WL.pure rfl rfl rfl ((by first | exact PV.indexAddr hpp1 rfl rfl T.sl32 | exact PV.indexAddr hpp1 rfl (by rw [← hzp1]; rfl) T.sl32)) ?_
    refine WL.pure rfl rfl rfl ((by first | exact PV.load0 T.na4 rfl (by first | exact Cells.up (by assumption) hB | exact Bx.cells (by assumption) | assumption) (Ext.refl _) rfl | exact PV.load1 T.na4 rfl (by first | exact Cells.up (by assumption) hB | exact Bx.cells (by assumption) | assumption) (Ext.refl _) rfl)) ?_
    refine WL.pure rfl rfl rfl (PV.move rfl) ?_
    refine WL.pure rfl rfl rfl (PV.rem rfl rfl (by omega) rfl) ?_
    refine WL.pure rfl rfl rfl (PV.eql rfl rfl) ?_
    refine WL.pure rfl rfl rfl (PV.neqB T.bl4 rfl rfl) ?_
    refine WL.nilS ?_
    refine CW.cond rfl (fun hc2 => ?_) (fun hc2 => ?_)
    · skip
      try simp only [decide_eq_true_eq, decide_eq_false_iff_not, Bool.not_eq_true', Bool.not_eq_false', Bool.not_eq_eq_eq_not, Bool.not_true, Bool.not_false, Int.not_lt, Int.not_le, Classical.not_not, beq_iff_eq, beq_eq_false_iff_ne] at hc2
      refine CW.seq ?_
      refine CW.reg ?_
      refine WL.pure rfl rfl rfl (PV.assign rfl) ?_
      refine WL.nilS ?_
      refine CW.ret ?_
      refine RQ.then ?_
      refine RQ.block ?_
      refine RQ.then ?_
      refine RQ.then ?_
      refine RQ.block ?_
      refine RQ.then ?_
      refine RQ.r1 rfl ?_
      refine ⟨?_, hB⟩
      first | (rw [if_neg (marksB_bad (i := i) (by omega) (by assumption))]) | (rw [if_pos (marksB_eq (i := i) (by omega) (by omega) he)]; exact iE (by omega))
    try simp only [decide_eq_true_eq, decide_eq_false_iff_not, Bool.not_eq_true', Bool.not_eq_false', Bool.not_eq_eq_eq_not, Bool.not_true, Bool.not_false, Int.not_lt, Int.not_le, Classical.not_not, beq_iff_eq, beq_eq_false_iff_ne] at hc2
    refine CW.skipS ?_
    refine CW.reg ?_
    refine WL.pure rfl rfl rfl (PV.move rfl) ?_
    refine WL.pure rfl rfl rfl (PV.add rfl rfl (by constructor <;> omega)) ?_
    refine WL.pure rfl rfl rfl (PV.assign rfl) ?_
    refine WL.nil ?_
    refine NQ.block ?_
    refine NQ.then ?_
    refine CW.reg ?_
    refine WL.pure rfl rfl rfl (PV.move rfl) ?_
    refine WL.pure rfl rfl rfl (PV.add rfl rfl (by constructor <;> omega)) ?_
    refine WL.pure rfl rfl rfl (PV.assign rfl) ?_
    refine WL.nil ?_
    refine NQ.next (ρ := [(1, _), (5, _)]) ⟨rfl, rfl, rfl, trivial⟩ ?_
    exact ⟨_, ⟨i + 1, (by simp; omega), rfl, hU0, (by first | omega | assumption | (simp_all; done) | (simp_all; omega)), (by exact marksB_step (by omega) he (by assumption))⟩, by omega⟩
  try simp only [decide_eq_true_eq, decide_eq_false_iff_not, Bool.not_eq_true', Bool.not_eq_false', Bool.not_eq_eq_eq_not, Bool.not_true, Bool.not_false, Int.not_lt, Int.not_le, Classical.not_not, beq_iff_eq, beq_eq_false_iff_ne] at hc1
  refine CW.exit ?_
  refine XQ.then ?_
  refine XQ.then ?_
  refine XQ.here ?_
  refine NQ.then ?_
  refine CW.seq ?_
  refine CW.reg ?_
  refine WL.pure rfl rfl rfl (PV.move rfl) ?_
  refine WL.pure rfl rfl rfl (PV.assign rfl) ?_
  refine WL.nilS ?_
  refine CW.ret ?_
  refine RQ.r1 rfl ?_
  refine ⟨?_, hB⟩
  first | (rw [if_neg (marksB_bad (i := i) (by omega) (by assumption))]) | (rw [if_pos (marksB_eq (i := i) (by omega) (by omega) he)]; exact iE (by omega))
theorem c_laws_heldTreeMachine {w : World} {a0 : Int} {a1 : Int} {va2 : Value} {xa2 : List Int} {va3 : Value} {xa3 : List Int} {va4 : Value} {xa4 : List Bool} {k : Int} (ha2 : Rd EI w va2 xa2) (ha3 : Rd EI w va3 xa3) (ha4 : Rd EB w va4 xa4) (hk : 0 ≤ k ∧ k + xa2.length + xa3.length + xa4.length ≤ 9223372036854775807) : Calls Try.prog 41 #[.agg #[.int .i64 a0, .int .i64 a1, va2, va3, va4], .int .i64 k] w (Ret1 (RQt (.int .i64 (if xa2 = marks (k) xa2.length ∧ xa3 = marks (k + xa2.length) xa3.length ∧ xa4 = marksB (k + xa2.length + xa3.length) xa4.length then k + xa2.length + xa3.length + xa4.length else -1)) w)) := by
  have hB : Ext w w := Ext.refl w
  have hla2 := ha2.leI; have hla3 := ha3.leI; have hla4 := ha4.leI
  refine callsOf (vs := [_, _]) Try.func41 rfl Try.ntmps41 rfl rfl ?_
  refine CW.seq ?_
  refine CW.reg ?_
  refine WL.op rfl (OpK.box rfl rfl (by first | rfl | exact Rd.cells1 (by assumption) | exact Osl.cells1 (by assumption) | exact Osn.cells1 (by assumption)) (fun b1 w1 hXw1 hb1 hge1 => ?_))
  have hl1 := Lo.new hB hge1
  have hB := hB.trans hXw1
  refine WL.pure rfl rfl rfl (PV.assign rfl) ?_
  refine WL.nilS ?_
  refine CW.seq ?_
  refine CW.reg ?_
  refine WL.pure rfl rfl rfl ((by first | exact PV.fieldAddr T.fl37_2 rfl (by first | assumption | exact Bx.cells (by assumption)) | exact PV.fieldAddrP T.fl37_2 rfl rfl)) ?_
  refine WL.pure rfl rfl rfl ((by first | exact PV.load0 T.na22 rfl (by first | exact Cells.up (by assumption) hB | exact Bx.cells (by assumption) | assumption) (Ext.refl _) rfl | exact PV.load1 T.na22 rfl (by first | exact Cells.up (by assumption) hB | exact Bx.cells (by assumption) | assumption) (Ext.refl _) rfl)) ?_
  refine WL.pure rfl rfl rfl (PV.move rfl) ?_
  refine WL.op rfl (OpK.callR rfl T.cf22 rfl (c_laws_heldInt64S (by first | assumption | exact Rd.up (by assumption) hB | exact Osl.rd (by assumption) | exact Osn.rdR (by assumption)) (by first | assumption | omega | (simp only [marks_len, marksB_len]; omega))) (fun w2 hXw2 => ?_))
  have hB := hB.trans hXw2
  have hb1 := hb1.up hXw2
  refine WL.pure rfl rfl rfl (PV.assign rfl) ?_
  refine WL.nilS ?_
  refine CW.seq ?_
  refine CW.seq ?_
  refine CW.reg ?_
  refine WL.pure rfl rfl rfl (PV.move rfl) ?_
  refine WL.pure rfl rfl rfl (PV.lss rfl rfl) ?_
  refine WL.nilS ?_
  refine CW.cond rfl (fun hc1 => ?_) (fun hc1 => ?_)
  · skip
    try simp only [decide_eq_true_eq, decide_eq_false_iff_not, Bool.not_eq_true', Bool.not_eq_false', Bool.not_eq_eq_eq_not, Bool.not_true, Bool.not_false, Int.not_lt, Int.not_le, Classical.not_not, beq_iff_eq, beq_eq_false_iff_ne] at hc1
    refine CW.seq ?_
    refine CW.reg ?_
    refine WL.pure rfl rfl rfl (PV.assign rfl) ?_
    refine WL.nilS ?_
    refine CW.ret ?_
    refine RQ.then ?_
    refine RQ.r1 rfl ?_
    refine ⟨?_, hB⟩
    first | rfl | (exact iE (by rw [if_neg (by intro h; have hn := held_no (by assumption) (by omega); first | exact hn h | exact hn h.1 | exact hn h.2.1 | exact hn h.2 | exact hn h.2.2)])) | (exact iE (by rw [if_pos (by first | assumption | exact ⟨by assumption, by assumption⟩ | exact ⟨by assumption, by assumption, by assumption⟩ | exact ⟨by assumption, by assumption, by assumption, by assumption⟩)]))
  try simp only [decide_eq_true_eq, decide_eq_false_iff_not, Bool.not_eq_true', Bool.not_eq_false', Bool.not_eq_eq_eq_not, Bool.not_true, Bool.not_false, Int.not_lt, Int.not_le, Classical.not_not, beq_iff_eq, beq_eq_false_iff_ne] at hc1
  obtain ⟨_, he1⟩ := held_ok (by assumption); rw [he1]; clear he1
  refine CW.skipS ?_
  refine CW.seq ?_
  refine CW.reg ?_
  refine WL.pure rfl rfl rfl ((by first | exact PV.fieldAddr T.fl37_3 rfl (by first | assumption | exact Bx.cells (by assumption)) | exact PV.fieldAddrP T.fl37_3 rfl rfl)) ?_
  refine WL.pure rfl rfl rfl ((by first | exact PV.load0 T.na22 rfl (by first | exact Cells.up (by assumption) hB | exact Bx.cells (by assumption) | assumption) (Ext.refl _) rfl | exact PV.load1 T.na22 rfl (by first | exact Cells.up (by assumption) hB | exact Bx.cells (by assumption) | assumption) (Ext.refl _) rfl)) ?_
  refine WL.pure rfl rfl rfl (PV.move rfl) ?_
  refine WL.op rfl (OpK.callR rfl T.cf22 rfl (c_laws_heldInt64S (by first | assumption | exact Rd.up (by assumption) hB | exact Osl.rd (by assumption) | exact Osn.rdR (by assumption)) (by first | assumption | omega | (simp only [marks_len, marksB_len]; omega))) (fun w3 hXw3 => ?_))
  have hB := hB.trans hXw3
  have hb1 := hb1.up hXw3
  refine WL.pure rfl rfl rfl (PV.assign rfl) ?_
  refine WL.nilS ?_
  refine CW.seq ?_
  refine CW.seq ?_
  refine CW.reg ?_
  refine WL.pure rfl rfl rfl (PV.move rfl) ?_
  refine WL.pure rfl rfl rfl (PV.lss rfl rfl) ?_
  refine WL.nilS ?_
  refine CW.cond rfl (fun hc2 => ?_) (fun hc2 => ?_)
  · skip
    try simp only [decide_eq_true_eq, decide_eq_false_iff_not, Bool.not_eq_true', Bool.not_eq_false', Bool.not_eq_eq_eq_not, Bool.not_true, Bool.not_false, Int.not_lt, Int.not_le, Classical.not_not, beq_iff_eq, beq_eq_false_iff_ne] at hc2
    refine CW.seq ?_
    refine CW.reg ?_
    refine WL.pure rfl rfl rfl (PV.assign rfl) ?_
    refine WL.nilS ?_
    refine CW.ret ?_
    refine RQ.then ?_
    refine RQ.r1 rfl ?_
    refine ⟨?_, hB⟩
    first | rfl | (exact iE (by rw [if_neg (by intro h; have hn := held_no (by assumption) (by omega); first | exact hn h | exact hn h.1 | exact hn h.2.1 | exact hn h.2 | exact hn h.2.2)])) | (exact iE (by rw [if_pos (by first | assumption | exact ⟨by assumption, by assumption⟩ | exact ⟨by assumption, by assumption, by assumption⟩ | exact ⟨by assumption, by assumption, by assumption, by assumption⟩)]))
  try simp only [decide_eq_true_eq, decide_eq_false_iff_not, Bool.not_eq_true', Bool.not_eq_false', Bool.not_eq_eq_eq_not, Bool.not_true, Bool.not_false, Int.not_lt, Int.not_le, Classical.not_not, beq_iff_eq, beq_eq_false_iff_ne] at hc2
  obtain ⟨_, he1⟩ := held_ok (by assumption); rw [he1]; clear he1
  refine CW.skipS ?_
  refine CW.seq ?_
  refine CW.reg ?_
  refine WL.pure rfl rfl rfl ((by first | exact PV.fieldAddr T.fl37_4 rfl (by first | assumption | exact Bx.cells (by assumption)) | exact PV.fieldAddrP T.fl37_4 rfl rfl)) ?_
  refine WL.pure rfl rfl rfl ((by first | exact PV.load0 T.na32 rfl (by first | exact Cells.up (by assumption) hB | exact Bx.cells (by assumption) | assumption) (Ext.refl _) rfl | exact PV.load1 T.na32 rfl (by first | exact Cells.up (by assumption) hB | exact Bx.cells (by assumption) | assumption) (Ext.refl _) rfl)) ?_
  refine WL.pure rfl rfl rfl (PV.move rfl) ?_
  refine WL.op rfl (OpK.callR rfl T.cf84 rfl (c_laws_heldBoolS (by first | assumption | exact Rd.up (by assumption) hB | exact Osl.rd (by assumption) | exact Osn.rdR (by assumption)) (by first | assumption | omega | (simp only [marks_len, marksB_len]; omega))) (fun w4 hXw4 => ?_))
  have hB := hB.trans hXw4
  have hb1 := hb1.up hXw4
  refine WL.pure rfl rfl rfl (PV.assign rfl) ?_
  refine WL.nilS ?_
  refine CW.seq ?_
  refine CW.seq ?_
  refine CW.reg ?_
  refine WL.pure rfl rfl rfl (PV.move rfl) ?_
  refine WL.pure rfl rfl rfl (PV.lss rfl rfl) ?_
  refine WL.nilS ?_
  refine CW.cond rfl (fun hc3 => ?_) (fun hc3 => ?_)
  · skip
    try simp only [decide_eq_true_eq, decide_eq_false_iff_not, Bool.not_eq_true', Bool.not_eq_false', Bool.not_eq_eq_eq_not, Bool.not_true, Bool.not_false, Int.not_lt, Int.not_le, Classical.not_not, beq_iff_eq, beq_eq_false_iff_ne] at hc3
    refine CW.seq ?_
    refine CW.reg ?_
    refine WL.pure rfl rfl rfl (PV.assign rfl) ?_
    refine WL.nilS ?_
    refine CW.ret ?_
    refine RQ.then ?_
    refine RQ.r1 rfl ?_
    refine ⟨?_, hB⟩
    first | rfl | (exact iE (by rw [if_neg (by intro h; have hn := held_no (by assumption) (by omega); first | exact hn h | exact hn h.1 | exact hn h.2.1 | exact hn h.2 | exact hn h.2.2)])) | (exact iE (by rw [if_pos (by first | assumption | exact ⟨by assumption, by assumption⟩ | exact ⟨by assumption, by assumption, by assumption⟩ | exact ⟨by assumption, by assumption, by assumption, by assumption⟩)]))
  try simp only [decide_eq_true_eq, decide_eq_false_iff_not, Bool.not_eq_true', Bool.not_eq_false', Bool.not_eq_eq_eq_not, Bool.not_true, Bool.not_false, Int.not_lt, Int.not_le, Classical.not_not, beq_iff_eq, beq_eq_false_iff_ne] at hc3
  obtain ⟨_, he1⟩ := held_ok (by assumption); rw [he1]; clear he1
  refine CW.skipS ?_
  refine CW.seq ?_
  refine CW.reg ?_
  refine WL.pure rfl rfl rfl (PV.move rfl) ?_
  refine WL.pure rfl rfl rfl (PV.assign rfl) ?_
  refine WL.nilS ?_
  refine CW.ret ?_
  refine RQ.r1 rfl ?_
  refine ⟨?_, hB⟩
  first | rfl | (exact iE (by rw [if_neg (by intro h; have hn := held_no (by assumption) (by omega); first | exact hn h | exact hn h.1 | exact hn h.2.1 | exact hn h.2 | exact hn h.2.2)])) | (exact iE (by rw [if_pos (by first | assumption | exact ⟨by assumption, by assumption⟩ | exact ⟨by assumption, by assumption, by assumption⟩ | exact ⟨by assumption, by assumption, by assumption, by assumption⟩)]))

end Go.Proofs.Ytlajceejhnmhkaa
