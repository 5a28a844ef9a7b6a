/- Walks of the functions that the law FnExactMeetTrees reaches: each says what its function computes. No condition. -/
import Derived.Test.YtlajceejhnmhkaaProg
import Derived.Test.YtlajceejhnmhkaaLibL
import Derived.Test.YtlajceejhnmhkaaPlA
import Derived.Test.YtlajceejhnmhkaaPlM
import Derived.Test.YtlajceejhnmhkaaWFnExactMeetTreesb
namespace Go.Proofs.Ytlajceejhnmhkaa
open Go Go.WX Go.Proofs
set_option linter.unusedSimpArgs false
set_option linter.unusedVariables false

set_option maxHeartbeats 8000000 in
theorem c_laws_FnExactMeetTrees {w : World} {a0 : Int} {a1 : Int} {va2 : Value} {xa2 : List Int} {va3 : Value} {xa3 : List Int} {va4 : Value} {xa4 : List Bool} {y0 : Int} {y1 : Int} {vy2 : Value} {xy2 : List Int} {vy3 : Value} {xy3 : List Int} {vy4 : Value} {xy4 : List Bool}  (ha2 : Rd EI w va2 xa2) (ha3 : Rd EI w va3 xa3) (ha4 : Rd EB w va4 xa4) (hy2 : Rd EI w vy2 xy2) (hy3 : Rd EI w vy3 xy3) (hy4 : Rd EB w vy4 xy4) : Calls Try.prog 12 #[.agg #[.int .i64 a0, .int .i64 a1, va2, va3, va4], .agg #[.int .i64 y0, .int .i64 y1, vy2, vy3, vy4]] w (Ret1 (RQt (.bool true) w)) := by
  have hB : Ext w w := Ext.refl w
  have hla2 := ha2.leI; have hla3 := ha3.leI; have hla4 := ha4.leI; have hly2 := hy2.leI; have hly3 := hy3.leI; have hly4 := hy4.leI; have hg2 := onT_le (c := (meetB a0 a1 y0 y1 xa2 xa3 xy2 xy3 xa4 xy4)) (l := mapR (leafM y0 xa2 xy2) a1.toNat) (N := 4) (fun h => by rw [mapR_len]; exact (meet_l h).1); have hg4 := onT_le (c := (meetB a0 a1 y0 y1 xa2 xa3 xy2 xy3 xa4 xy4)) (l := mapR (endM y0 xa4 xy4) (a0 * y0).toNat) (N := 16) (fun h => by rw [mapR_len]; exact (meet_l h).2); have hg3 := onT_le (c := (meetB a0 a1 y0 y1 xa2 xa3 xy2 xy3 xa4 xy4)) (l := rowsM (a0 * y0).toNat (nextM a0 y0 xa3 xy3) (a0 * y0).toNat) (N := 256) (fun h => by have h1 := meet_l h; have h2 := rowsM_len (m := (a0 * y0).toNat) (f := nextM a0 y0 xa3 xy3) h1.2 (a0 * y0).toNat; omega)
  refine callsOf (vs := [_, _]) Try.func12 rfl Try.ntmps12 rfl rfl ?_
  refine CW.seq ?_
  refine CW.reg ?_
  refine WL.op rfl (OpK.box rfl rfl (by first | rfl | exact Rd.cells1 (by assumption) | exact Osl.cells1 (by assumption) | exact Osn.cells1 (by assumption)) (fun b1 w1 hXw1 hb1 hge1 => ?_))
  have hl1 := Lo.new hB hge1
  have hB := hB.trans hXw1
  refine WL.op rfl (OpK.box rfl rfl (by first | rfl | exact Rd.cells1 (by assumption) | exact Osl.cells1 (by assumption) | exact Osn.cells1 (by assumption)) (fun b2 w2 hXw2 hb2 hge2 => ?_))
  have hl2 := Lo.new hB hge2
  have hd1_2 := Dj.new hb1.ltO hge2
  have hB := hB.trans hXw2
  have hb1 := hb1.up hXw2
  refine WL.pure rfl rfl rfl (PV.assign rfl) ?_
  refine WL.nilS ?_
  refine CW.seq ?_
  refine CW.reg ?_
  refine WL.pure rfl rfl rfl (PV.assign rfl) ?_
  refine WL.nilS ?_
  refine CW.seq ?_
  refine CW.reg ?_
  refine WL.pure rfl rfl rfl ((by first | exact PV.loadA T.ag34 rfl (by first | exact Cells.up (by assumption) hB | exact Bx.cells (by assumption) | assumption) (Ext.refl _) rfl | exact PV.loadP (ds := [_, _, _, _, _]) T.ag34 rfl (by first | exact Cells.up (by assumption) hB | exact Bx.cells (by assumption) | assumption) (Ext.refl _) rfl rfl)) ?_
  refine WL.pure rfl rfl rfl (PV.move rfl) ?_
  refine WL.op rfl (OpK.callR rfl T.cf27 rfl (c_laws_szTreeMachine (by first | assumption | exact Rd.up (by assumption) hB | exact Osl.rd (by assumption) | exact Osn.rdR (by assumption)) (by first | assumption | exact Rd.up (by assumption) hB | exact Osl.rd (by assumption) | exact Osn.rdR (by assumption)) (by first | assumption | exact Rd.up (by assumption) hB | exact Osl.rd (by assumption) | exact Osn.rdR (by assumption)) (by first | assumption | omega | (simp only [marks_len, marksB_len]; omega))) (fun w3 hXw3 => ?_))
  have hB := hB.trans hXw3
  have hb1 := hb1.up hXw3
  have hb2 := hb2.up hXw3
  refine WL.pure rfl rfl rfl (PV.assign rfl) ?_
  refine WL.nilS ?_
  refine CW.seq ?_
  refine CW.seq ?_
  refine CW.reg ?_
  refine WL.pure rfl rfl rfl (PV.move rfl) ?_
  refine WL.pure rfl rfl rfl (PV.lss rfl rfl) ?_
  refine WL.nilS ?_
  refine CW.cond rfl (fun hc1 => ?_) (fun hc1 => ?_)
  · skip
    try simp only [decide_eq_true_eq, decide_eq_false_iff_not, Bool.not_eq_true', Bool.not_eq_false', Bool.not_eq_eq_eq_not, Bool.not_true, Bool.not_false, Int.not_lt, Int.not_le, Classical.not_not, beq_iff_eq, beq_eq_false_iff_ne] at hc1
    refine CW.seq ?_
    refine CW.reg ?_
    refine WL.pure rfl rfl rfl (PV.assign rfl) ?_
    refine WL.nilS ?_
    refine CW.ret ?_
    refine RQ.then ?_
    refine RQ.r1 rfl ?_
    refine ⟨?_, hB⟩
    first | rfl | (exfalso; revert hc1; simp; done) | (exfalso; revert hc1; simp; omega) | (exfalso; omega) | first | rfl | exact bT (by omega) | exact bF (by omega) | exact bD (by omega) | exact iE (by omega) | (simp_all; done) | (simp_all; omega) | (simp_all; intros; omega)
  try simp only [decide_eq_true_eq, decide_eq_false_iff_not, Bool.not_eq_true', Bool.not_eq_false', Bool.not_eq_eq_eq_not, Bool.not_true, Bool.not_false, Int.not_lt, Int.not_le, Classical.not_not, beq_iff_eq, beq_eq_false_iff_ne] at hc1
  refine CW.skipS ?_
  refine CW.seq ?_
  refine CW.reg ?_
  refine WL.pure rfl rfl rfl ((by first | exact PV.loadA T.ag34 rfl (by first | exact Cells.up (by assumption) hB | exact Bx.cells (by assumption) | assumption) (Ext.refl _) rfl | exact PV.loadP (ds := [_, _, _, _, _]) T.ag34 rfl (by first | exact Cells.up (by assumption) hB | exact Bx.cells (by assumption) | assumption) (Ext.refl _) rfl rfl)) ?_
  refine WL.pure rfl rfl rfl (PV.move rfl) ?_
  refine WL.op rfl (OpK.callR rfl T.cf27 rfl (c_laws_szTreeMachine (by first | assumption | exact Rd.up (by assumption) hB | exact Osl.rd (by assumption) | exact Osn.rdR (by assumption)) (by first | assumption | exact Rd.up (by assumption) hB | exact Osl.rd (by assumption) | exact Osn.rdR (by assumption)) (by first | assumption | exact Rd.up (by assumption) hB | exact Osl.rd (by assumption) | exact Osn.rdR (by assumption)) (by first | assumption | omega | (simp only [marks_len, marksB_len]; omega))) (fun w4 hXw4 => ?_))
  have hB := hB.trans hXw4
  have hb1 := hb1.up hXw4
  have hb2 := hb2.up hXw4
  refine WL.pure rfl rfl rfl (PV.assign rfl) ?_
  refine WL.nilS ?_
  refine CW.seq ?_
  refine CW.seq ?_
  refine CW.reg ?_
  refine WL.pure rfl rfl rfl (PV.move rfl) ?_
  refine WL.pure rfl rfl rfl (PV.lss rfl rfl) ?_
  refine WL.nilS ?_
  refine CW.cond rfl (fun hc2 => ?_) (fun hc2 => ?_)
  · skip
    try simp only [decide_eq_true_eq, decide_eq_false_iff_not, Bool.not_eq_true', Bool.not_eq_false', Bool.not_eq_eq_eq_not, Bool.not_true, Bool.not_false, Int.not_lt, Int.not_le, Classical.not_not, beq_iff_eq, beq_eq_false_iff_ne] at hc2
    refine CW.seq ?_
    refine CW.reg ?_
    refine WL.pure rfl rfl rfl (PV.assign rfl) ?_
    refine WL.nilS ?_
    refine CW.ret ?_
    refine RQ.then ?_
    refine RQ.r1 rfl ?_
    refine ⟨?_, hB⟩
    first | rfl | (exfalso; revert hc2; simp; done) | (exfalso; revert hc2; simp; omega) | (exfalso; omega) | first | rfl | exact bT (by omega) | exact bF (by omega) | exact bD (by omega) | exact iE (by omega) | (simp_all; done) | (simp_all; omega) | (simp_all; intros; omega)
  try simp only [decide_eq_true_eq, decide_eq_false_iff_not, Bool.not_eq_true', Bool.not_eq_false', Bool.not_eq_eq_eq_not, Bool.not_true, Bool.not_false, Int.not_lt, Int.not_le, Classical.not_not, beq_iff_eq, beq_eq_false_iff_ne] at hc2
  refine CW.skipS ?_
  refine CW.cut (σk := [(2, _), (3, _)]) (fun ρ wz => ∃ (v4 : Value) (og4 : Option Nat) (v5 : Value) (og5 : Option Nat) (v6 : Value) (og6 : Option Nat) (b3 : Addr), ρ = [(6, .pointer (some b3)), (7, .bool (meetB a0 a1 y0 y1 xa2 xa3 xy2 xy3 xa4 xy4))] ∧ Ext w4 wz ∧ Osl VI wz og4 v4 (onT (meetB a0 a1 y0 y1 xa2 xa3 xy2 xy3 xa4 xy4) (mapR (leafM y0 xa2 xy2) a1.toNat)) ∧ Lo w og4 ∧ Osl VI wz og5 v5 (onT (meetB a0 a1 y0 y1 xa2 xa3 xy2 xy3 xa4 xy4) (rowsM (a0 * y0).toNat (nextM a0 y0 xa3 xy3) (a0 * y0).toNat)) ∧ Lo w og5 ∧ Osl VB wz og6 v6 (onT (meetB a0 a1 y0 y1 xa2 xa3 xy2 xy3 xa4 xy4) (mapR (endM y0 xa4 xy4) (a0 * y0).toNat)) ∧ Lo w og6 ∧ Bx wz b3 [.int .i64 (onI (meetB a0 a1 y0 y1 xa2 xa3 xy2 xy3 xa4 xy4) (a0 * y0)), .int .i64 (onI (meetB a0 a1 y0 y1 xa2 xa3 xy2 xy3 xa4 xy4) a1), v4, v5, v6] ∧ Lo w (some b3.block) ∧ Dj (some b1.block) og4 ∧ Dj (some b1.block) og5 ∧ Dj (some b1.block) og6 ∧ Dj (some b1.block) (some b3.block) ∧ Dj (some b2.block) og4 ∧ Dj (some b2.block) og5 ∧ Dj (some b2.block) og6 ∧ Dj (some b2.block) (some b3.block) ∧ Dj og4 og5 ∧ Dj og4 og6 ∧ Dj og4 (some b3.block) ∧ Dj og5 og6 ∧ Dj og5 (some b3.block) ∧ Dj og6 (some b3.block)) ⟨rfl, rfl, trivial⟩ ?_ ?_
  · skip
    have hB0 := Ext.refl w4
    refine CW.draw T.mixed (by kernel_rfl) (fun _ _ _ _ _ h => h) (fun w8 w9 => Upd none w8 w9) 11 (.take 0 (.take 2 (.fork 1 8 (.fork 3 8 (.fork 4 8 (.take 5 (.take 6 (.take 7 (.must 8 (.must 9 (.take 10 .done)))))) (.must 4 (.take 5 (.take 6 (.take 7 (.must 9 (.take 10 .done))))))) (.must 3 (.must 4 (.take 5 (.take 6 (.take 7 (.must 9 (.take 10 .done)))))))) (.must 1 (.must 3 (.must 4 (.take 5 (.take 6 (.take 7 (.must 9 (.take 10 .done))))))))))) (by kernel_rfl) (fun w5 hXd => ?_)
    have hB := hB.trans hXd
    have hBc := (by first | exact hBc.trans hXd | exact hB0.trans hXd)
    have hb1 := hb1.up hXd
    have hb2 := hb2.up hXd
    have hBr := hB
    have hS : Upd none w5 w5 := Ext.toUpd (Ext.refl _)
    refine HP.take rfl rfl rfl rfl hS (fun wS hS1 => (by first | exact PV.loadA T.ag34 rfl (by first | exact Cells.up (by assumption) (hBr.trans hS1) | exact Bx.cells (Bx.updD (by assumption) hS1 (Dj.nlR _)) | exact Cells.upd (by assumption) hS1 (by simp)) (Ext.refl _) rfl | exact PV.loadP (ds := [_, _, _, _, _]) T.ag34 rfl (by first | exact Cells.up (by assumption) (hBr.trans hS1) | exact Bx.cells (Bx.updD (by assumption) hS1 (Dj.nlR _)) | exact Cells.upd (by assumption) hS1 (by simp)) (Ext.refl _) rfl rfl)) ?_
    refine HP.take rfl rfl rfl rfl hS (fun wS hS1 => (by first | exact PV.loadA T.ag34 rfl (by first | exact Cells.up (by assumption) (hBr.trans hS1) | exact Bx.cells (Bx.updD (by assumption) hS1 (Dj.nlR _)) | exact Cells.upd (by assumption) hS1 (by simp)) (Ext.refl _) rfl | exact PV.loadP (ds := [_, _, _, _, _]) T.ag34 rfl (by first | exact Cells.up (by assumption) (hBr.trans hS1) | exact Bx.cells (Bx.updD (by assumption) hS1 (Dj.nlR _)) | exact Cells.upd (by assumption) hS1 (by simp)) (Ext.refl _) rfl rfl)) ?_
    refine HP.fork rfl rfl rfl rfl ?_ ?_
    · skip
      refine (OpK.call rfl T.cf29 rfl (c_laws_toTreeMachine (by first | assumption | exact Rd.up (by assumption) hB | exact Osl.rd (by assumption) | exact Osn.rdR (by assumption)) (by first | assumption | exact Rd.up (by assumption) hB | exact Osl.rd (by assumption) | exact Osn.rdR (by assumption)) (by first | assumption | exact Rd.up (by assumption) hB | exact Osl.rd (by assumption) | exact Osn.rdR (by assumption)) (by first | assumption | omega | (simp only [marks_len, marksB_len]; omega)) (by first | assumption | omega | (simp only [marks_len, marksB_len]; omega)) (by first | assumption | omega | (simp only [marks_len, marksB_len]; omega))) (fun rv1 w6 hR => ?_))
      obtain ⟨hXw6, v7, og7, v8, og8, v9, og9, rfl, ho7, hq7, ho8, hq8, ho9, hq9, hd7_8, hd7_9, hd8_9⟩ := hR
      have hl7 := Lo.up hq7 hB
      have hv7 := Lo.up hq7 hS
      have hd1_7 := Dj.lo hb1.ltO hq7
      have hd2_7 := Dj.lo hb2.ltO hq7
      have hl8 := Lo.up hq8 hB
      have hv8 := Lo.up hq8 hS
      have hd1_8 := Dj.lo hb1.ltO hq8
      have hd2_8 := Dj.lo hb2.ltO hq8
      have hl9 := Lo.up hq9 hB
      have hv9 := Lo.up hq9 hS
      have hd1_9 := Dj.lo hb1.ltO hq9
      have hd2_9 := Dj.lo hb2.ltO hq9
      refine ⟨Upd.trans hS hXw6, ?_⟩
      have hS := Upd.trans hS hXw6
      have hB := hB.trans hXw6
      have hBc := (by first | exact hBc.trans hXw6 | exact hB0.trans hXw6)
      have hb1 := hb1.up hXw6
      have hb2 := hb2.up hXw6
      refine HP.fork rfl rfl rfl rfl ?_ ?_
      · skip
        refine (OpK.call rfl T.cf29 rfl (c_laws_toTreeMachine (by first | assumption | exact Rd.up (by assumption) hB | exact Osl.rd (by assumption) | exact Osn.rdR (by assumption)) (by first | assumption | exact Rd.up (by assumption) hB | exact Osl.rd (by assumption) | exact Osn.rdR (by assumption)) (by first | assumption | exact Rd.up (by assumption) hB | exact Osl.rd (by assumption) | exact Osn.rdR (by assumption)) (by first | assumption | omega | (simp only [marks_len, marksB_len]; omega)) (by first | assumption | omega | (simp only [marks_len, marksB_len]; omega)) (by first | assumption | omega | (simp only [marks_len, marksB_len]; omega))) (fun rv2 w7 hR => ?_))
        obtain ⟨hXw7, v10, og10, v11, og11, v12, og12, rfl, ho10, hq10, ho11, hq11, ho12, hq12, hd10_11, hd10_12, hd11_12⟩ := hR
        have hl10 := Lo.up hq10 hB
        have hv10 := Lo.up hq10 hS
        have hd1_10 := Dj.lo hb1.ltO hq10
        have hd2_10 := Dj.lo hb2.ltO hq10
        have hd7_10 := Dj.lo ho7.ltO hq10
        have hd8_10 := Dj.lo ho8.ltO hq10
        have hd9_10 := Dj.lo ho9.ltO hq10
        have hl11 := Lo.up hq11 hB
        have hv11 := Lo.up hq11 hS
        have hd1_11 := Dj.lo hb1.ltO hq11
        have hd2_11 := Dj.lo hb2.ltO hq11
        have hd7_11 := Dj.lo ho7.ltO hq11
        have hd8_11 := Dj.lo ho8.ltO hq11
        have hd9_11 := Dj.lo ho9.ltO hq11
        have hl12 := Lo.up hq12 hB
        have hv12 := Lo.up hq12 hS
        have hd1_12 := Dj.lo hb1.ltO hq12
        have hd2_12 := Dj.lo hb2.ltO hq12
        have hd7_12 := Dj.lo ho7.ltO hq12
        have hd8_12 := Dj.lo ho8.ltO hq12
        have hd9_12 := Dj.lo ho9.ltO hq12
        refine ⟨Upd.trans hS hXw7, ?_⟩
        have hS := Upd.trans hS hXw7
        have hB := hB.trans hXw7
        have hBc := (by first | exact hBc.trans hXw7 | exact hB0.trans hXw7)
        have hb1 := hb1.up hXw7
        have hb2 := hb2.up hXw7
        have ho7 := ho7.up hXw7
        have ho8 := ho8.up hXw7
        have ho9 := ho9.up hXw7
        refine HP.fork rfl rfl rfl rfl ?_ ?_
        · skip
          refine (OpK.call rfl T.cf42 rfl (c_spec_MeetTrees (by first | assumption | exact Rd.up (by assumption) hB | exact Osl.rd (by assumption) | exact Osn.rdR (by assumption)) (by first | assumption | exact Rd.up (by assumption) hB | exact Osl.rd (by assumption) | exact Osn.rdR (by assumption)) (by first | assumption | exact Rd.up (by assumption) hB | exact Osl.rd (by assumption) | exact Osn.rdR (by assumption)) (by first | assumption | exact Rd.up (by assumption) hB | exact Osl.rd (by assumption) | exact Osn.rdR (by assumption)) (by first | assumption | exact Rd.up (by assumption) hB | exact Osl.rd (by assumption) | exact Osn.rdR (by assumption)) (by first | assumption | exact Rd.up (by assumption) hB | exact Osl.rd (by assumption) | exact Osn.rdR (by assumption))) (fun rv3 w8 hR => ?_))
          obtain ⟨hXw8, v13, og13, v14, og14, v15, og15, rfl, ho13, hq13, ho14, hq14, ho15, hq15, hd13_14, hd13_15, hd14_15⟩ := hR
          have hl13 := Lo.up hq13 hB
          have hv13 := Lo.up hq13 hS
          have hd1_13 := Dj.lo hb1.ltO hq13
          have hd2_13 := Dj.lo hb2.ltO hq13
          have hd7_13 := Dj.lo ho7.ltO hq13
          have hd8_13 := Dj.lo ho8.ltO hq13
          have hd9_13 := Dj.lo ho9.ltO hq13
          have hd10_13 := Dj.lo ho10.ltO hq13
          have hd11_13 := Dj.lo ho11.ltO hq13
          have hd12_13 := Dj.lo ho12.ltO hq13
          have hl14 := Lo.up hq14 hB
          have hv14 := Lo.up hq14 hS
          have hd1_14 := Dj.lo hb1.ltO hq14
          have hd2_14 := Dj.lo hb2.ltO hq14
          have hd7_14 := Dj.lo ho7.ltO hq14
          have hd8_14 := Dj.lo ho8.ltO hq14
          have hd9_14 := Dj.lo ho9.ltO hq14
          have hd10_14 := Dj.lo ho10.ltO hq14
          have hd11_14 := Dj.lo ho11.ltO hq14
          have hd12_14 := Dj.lo ho12.ltO hq14
          have hl15 := Lo.up hq15 hB
          have hv15 := Lo.up hq15 hS
          have hd1_15 := Dj.lo hb1.ltO hq15
          have hd2_15 := Dj.lo hb2.ltO hq15
          have hd7_15 := Dj.lo ho7.ltO hq15
          have hd8_15 := Dj.lo ho8.ltO hq15
          have hd9_15 := Dj.lo ho9.ltO hq15
          have hd10_15 := Dj.lo ho10.ltO hq15
          have hd11_15 := Dj.lo ho11.ltO hq15
          have hd12_15 := Dj.lo ho12.ltO hq15
          refine ⟨Upd.trans hS hXw8, ?_⟩
          have hS := Upd.trans hS hXw8
          have hB := hB.trans hXw8
          have hBc := (by first | exact hBc.trans hXw8 | exact hB0.trans hXw8)
          have hb1 := hb1.up hXw8
          have hb2 := hb2.up hXw8
          have ho7 := ho7.up hXw8
          have ho8 := ho8.up hXw8
          have ho9 := ho9.up hXw8
          have ho10 := ho10.up hXw8
          have ho11 := ho11.up hXw8
          have ho12 := ho12.up hXw8
          refine HP.take rfl rfl rfl rfl hS (fun wS hS1 => PV.move rfl) ?_
          refine HP.take rfl rfl rfl rfl hS (fun wS hS1 => PV.extract rfl rfl) ?_
          refine HP.take rfl rfl rfl rfl hS (fun wS hS1 => PV.extract rfl rfl) ?_
          refine HP.must rfl rfl (OpK.alloc rfl T.zv37 rfl (fun b16 w9 hXw9 hb16 hge16 => ?_))
          have hl16 := Lo.new hB hge16
          have hv16 := Lo.new hS hge16
          have hd1_16 := Dj.new hb1.ltO hge16
          have hd2_16 := Dj.new hb2.ltO hge16
          have hd7_16 := Dj.new ho7.ltO hge16
          have hd8_16 := Dj.new ho8.ltO hge16
          have hd9_16 := Dj.new ho9.ltO hge16
          have hd10_16 := Dj.new ho10.ltO hge16
          have hd11_16 := Dj.new ho11.ltO hge16
          have hd12_16 := Dj.new ho12.ltO hge16
          have hd13_16 := Dj.new ho13.ltO hge16
          have hd14_16 := Dj.new ho14.ltO hge16
          have hd15_16 := Dj.new ho15.ltO hge16
          refine ⟨Upd.trans hS hXw9, ?_⟩
          have hS := Upd.trans hS hXw9
          have hB := hB.trans hXw9
          have hBc := (by first | exact hBc.trans hXw9 | exact hB0.trans hXw9)
          have hb1 := hb1.up hXw9
          have hb2 := hb2.up hXw9
          have ho7 := ho7.up hXw9
          have ho8 := ho8.up hXw9
          have ho9 := ho9.up hXw9
          have ho10 := ho10.up hXw9
          have ho11 := ho11.up hXw9
          have ho12 := ho12.up hXw9
          have ho13 := ho13.up hXw9
          have ho14 := ho14.up hXw9
          have ho15 := ho15.up hXw9
          refine HP.must rfl rfl (OpK.storeA T.sz37 rfl rfl rfl rfl (by simp [Value.oneCell'] <;> first | done | (repeat' apply And.intro) <;> first | rfl | exact Osl.oneCell (by assumption) | exact Osn.oneCell (by assumption) | exact Rd.oneCell (by assumption) | assumption) hb16 (fun w10 hXw10 hb16 => ?_))
          refine ⟨Ext.updL hS hXw10 hv16, ?_⟩
          have hS := Ext.updL hS hXw10 hv16
          have hB := hB.updL hXw10 hl16
          have hBc := hBc.updL hXw10 (Lo.up hv16 hXd)
          have hb1 := hb1.updD hXw10 hd1_16
          have hb2 := hb2.updD hXw10 hd2_16
          have ho7 := ho7.updD hXw10 hd7_16
          have ho8 := ho8.updD hXw10 hd8_16
          have ho9 := ho9.updD hXw10 hd9_16
          have ho10 := ho10.updD hXw10 hd10_16
          have ho11 := ho11.updD hXw10 hd11_16
          have ho12 := ho12.updD hXw10 hd12_16
          have ho13 := ho13.updD hXw10 hd13_16
          have ho14 := ho14.updD hXw10 hd14_16
          have ho15 := ho15.updD hXw10 hd15_16
          refine HP.take rfl rfl rfl rfl hS (fun wS hS1 => PV.assign rfl) ?_
          refine HP.done ?_
          exact NQ.cut (ρ := [(6, _), (7, _)]) ⟨rfl, rfl, rfl, rfl, trivial⟩ ⟨v13, og13, v14, og14, v15, og15, b16, rfl, hBc, ho13, hl13, ho14, hl14, ho15, hl15, hb16, hl16, hd1_13, hd1_14, hd1_15, hd1_16, hd2_13, hd2_14, hd2_15, hd2_16, hd13_14, hd13_15, hd13_16, hd14_15, hd14_16, hd15_16⟩
        · skip
          refine (OpK.alloc rfl T.zv37 rfl (fun b17 w11 hXw11 hb17 hge17 => ?_))
          have hl17 := Lo.new hB hge17
          have hv17 := Lo.new hS hge17
          have hd1_17 := Dj.new hb1.ltO hge17
          have hd2_17 := Dj.new hb2.ltO hge17
          have hd7_17 := Dj.new ho7.ltO hge17
          have hd8_17 := Dj.new ho8.ltO hge17
          have hd9_17 := Dj.new ho9.ltO hge17
          have hd10_17 := Dj.new ho10.ltO hge17
          have hd11_17 := Dj.new ho11.ltO hge17
          have hd12_17 := Dj.new ho12.ltO hge17
          refine ⟨Upd.trans hS hXw11, ?_⟩
          have hS := Upd.trans hS hXw11
          have hB := hB.trans hXw11
          have hBc := (by first | exact hBc.trans hXw11 | exact hB0.trans hXw11)
          have hb1 := hb1.up hXw11
          have hb2 := hb2.up hXw11
          have ho7 := ho7.up hXw11
          have ho8 := ho8.up hXw11
          have ho9 := ho9.up hXw11
          have ho10 := ho10.up hXw11
          have ho11 := ho11.up hXw11
          have ho12 := ho12.up hXw11
          refine HP.must rfl rfl (OpK.call rfl T.cf42 rfl (c_spec_MeetTrees (by first | assumption | exact Rd.up (by assumption) hB | exact Osl.rd (by assumption) | exact Osn.rdR (by assumption)) (by first | assumption | exact Rd.up (by assumption) hB | exact Osl.rd (by assumption) | exact Osn.rdR (by assumption)) (by first | assumption | exact Rd.up (by assumption) hB | exact Osl.rd (by assumption) | exact Osn.rdR (by assumption)) (by first | assumption | exact Rd.up (by assumption) hB | exact Osl.rd (by assumption) | exact Osn.rdR (by assumption)) (by first | assumption | exact Rd.up (by assumption) hB | exact Osl.rd (by assumption) | exact Osn.rdR (by assumption)) (by first | assumption | exact Rd.up (by assumption) hB | exact Osl.rd (by assumption) | exact Osn.rdR (by assumption))) (fun rv4 w12 hR => ?_))
          obtain ⟨hXw12, v18, og18, v19, og19, v20, og20, rfl, ho18, hq18, ho19, hq19, ho20, hq20, hd18_19, hd18_20, hd19_20⟩ := hR
          have hl18 := Lo.up hq18 hB
          have hv18 := Lo.up hq18 hS
          have hd1_18 := Dj.lo hb1.ltO hq18
          have hd2_18 := Dj.lo hb2.ltO hq18
          have hd7_18 := Dj.lo ho7.ltO hq18
          have hd8_18 := Dj.lo ho8.ltO hq18
          have hd9_18 := Dj.lo ho9.ltO hq18
          have hd10_18 := Dj.lo ho10.ltO hq18
          have hd11_18 := Dj.lo ho11.ltO hq18
          have hd12_18 := Dj.lo ho12.ltO hq18
          have hd17_18 := Dj.lo hb17.ltO hq18
          have hl19 := Lo.up hq19 hB
          have hv19 := Lo.up hq19 hS
          have hd1_19 := Dj.lo hb1.ltO hq19
          have hd2_19 := Dj.lo hb2.ltO hq19
          have hd7_19 := Dj.lo ho7.ltO hq19
          have hd8_19 := Dj.lo ho8.ltO hq19
          have hd9_19 := Dj.lo ho9.ltO hq19
          have hd10_19 := Dj.lo ho10.ltO hq19
          have hd11_19 := Dj.lo ho11.ltO hq19
          have hd12_19 := Dj.lo ho12.ltO hq19
          have hd17_19 := Dj.lo hb17.ltO hq19
          have hl20 := Lo.up hq20 hB
          have hv20 := Lo.up hq20 hS
          have hd1_20 := Dj.lo hb1.ltO hq20
          have hd2_20 := Dj.lo hb2.ltO hq20
          have hd7_20 := Dj.lo ho7.ltO hq20
          have hd8_20 := Dj.lo ho8.ltO hq20
          have hd9_20 := Dj.lo ho9.ltO hq20
          have hd10_20 := Dj.lo ho10.ltO hq20
          have hd11_20 := Dj.lo ho11.ltO hq20
          have hd12_20 := Dj.lo ho12.ltO hq20
          have hd17_20 := Dj.lo hb17.ltO hq20
          refine ⟨Upd.trans hS hXw12, ?_⟩
          have hS := Upd.trans hS hXw12
          have hB := hB.trans hXw12
          have hBc := (by first | exact hBc.trans hXw12 | exact hB0.trans hXw12)
          have hb1 := hb1.up hXw12
          have hb2 := hb2.up hXw12
          have ho7 := ho7.up hXw12
          have ho8 := ho8.up hXw12
          have ho9 := ho9.up hXw12
          have ho10 := ho10.up hXw12
          have ho11 := ho11.up hXw12
          have ho12 := ho12.up hXw12
          have hb17 := hb17.up hXw12
          refine HP.take rfl rfl rfl rfl hS (fun wS hS1 => PV.move rfl) ?_
          refine HP.take rfl rfl rfl rfl hS (fun wS hS1 => PV.extract rfl rfl) ?_
          refine HP.take rfl rfl rfl rfl hS (fun wS hS1 => PV.extract rfl rfl) ?_
          refine HP.must rfl rfl (OpK.storeA T.sz37 rfl rfl rfl rfl (by simp [Value.oneCell'] <;> first | done | (repeat' apply And.intro) <;> first | rfl | exact Osl.oneCell (by assumption) | exact Osn.oneCell (by assumption) | exact Rd.oneCell (by assumption) | assumption) hb17 (fun w13 hXw13 hb17 => ?_))
          refine ⟨Ext.updL hS hXw13 hv17, ?_⟩
          have hS := Ext.updL hS hXw13 hv17
          have hB := hB.updL hXw13 hl17
          have hBc := hBc.updL hXw13 (Lo.up hv17 hXd)
          have hb1 := hb1.updD hXw13 hd1_17
          have hb2 := hb2.updD hXw13 hd2_17
          have ho7 := ho7.updD hXw13 hd7_17
          have ho8 := ho8.updD hXw13 hd8_17
          have ho9 := ho9.updD hXw13 hd9_17
          have ho10 := ho10.updD hXw13 hd10_17
          have ho11 := ho11.updD hXw13 hd11_17
          have ho12 := ho12.updD hXw13 hd12_17
          have ho18 := ho18.updD hXw13 (Dj.symm hd17_18)
          have ho19 := ho19.updD hXw13 (Dj.symm hd17_19)
          have ho20 := ho20.updD hXw13 (Dj.symm hd17_20)
          refine HP.take rfl rfl rfl rfl hS (fun wS hS1 => PV.assign rfl) ?_
          refine HP.done ?_
          exact NQ.cut (ρ := [(6, _), (7, _)]) ⟨rfl, rfl, rfl, rfl, trivial⟩ ⟨v18, og18, v19, og19, v20, og20, b17, rfl, hBc, ho18, hl18, ho19, hl19, ho20, hl20, hb17, hl17, hd1_18, hd1_19, hd1_20, hd1_17, hd2_18, hd2_19, hd2_20, hd2_17, hd18_19, hd18_20, (Dj.symm hd17_18), hd19_20, (Dj.symm hd17_19), (Dj.symm hd17_20)⟩
      · skip
        refine (OpK.alloc rfl T.zv37 rfl (fun b21 w14 hXw14 hb21 hge21 => ?_))
        have hl21 := Lo.new hB hge21
        have hv21 := Lo.new hS hge21
        have hd1_21 := Dj.new hb1.ltO hge21
        have hd2_21 := Dj.new hb2.ltO hge21
        have hd7_21 := Dj.new ho7.ltO hge21
        have hd8_21 := Dj.new ho8.ltO hge21
        have hd9_21 := Dj.new ho9.ltO hge21
        refine ⟨Upd.trans hS hXw14, ?_⟩
        have hS := Upd.trans hS hXw14
        have hB := hB.trans hXw14
        have hBc := (by first | exact hBc.trans hXw14 | exact hB0.trans hXw14)
        have hb1 := hb1.up hXw14
        have hb2 := hb2.up hXw14
        have ho7 := ho7.up hXw14
        have ho8 := ho8.up hXw14
        have ho9 := ho9.up hXw14
        refine HP.must rfl rfl (OpK.call rfl T.cf29 rfl (c_laws_toTreeMachine (by first | assumption | exact Rd.up (by assumption) hB | exact Osl.rd (by assumption) | exact Osn.rdR (by assumption)) (by first | assumption | exact Rd.up (by assumption) hB | exact Osl.rd (by assumption) | exact Osn.rdR (by assumption)) (by first | assumption | exact Rd.up (by assumption) hB | exact Osl.rd (by assumption) | exact Osn.rdR (by assumption)) (by first | assumption | omega | (simp only [marks_len, marksB_len]; omega)) (by first | assumption | omega | (simp only [marks_len, marksB_len]; omega)) (by first | assumption | omega | (simp only [marks_len, marksB_len]; omega))) (fun rv5 w15 hR => ?_))
        obtain ⟨hXw15, v22, og22, v23, og23, v24, og24, rfl, ho22, hq22, ho23, hq23, ho24, hq24, hd22_23, hd22_24, hd23_24⟩ := hR
        have hl22 := Lo.up hq22 hB
        have hv22 := Lo.up hq22 hS
        have hd1_22 := Dj.lo hb1.ltO hq22
        have hd2_22 := Dj.lo hb2.ltO hq22
        have hd7_22 := Dj.lo ho7.ltO hq22
        have hd8_22 := Dj.lo ho8.ltO hq22
        have hd9_22 := Dj.lo ho9.ltO hq22
        have hd21_22 := Dj.lo hb21.ltO hq22
        have hl23 := Lo.up hq23 hB
        have hv23 := Lo.up hq23 hS
        have hd1_23 := Dj.lo hb1.ltO hq23
        have hd2_23 := Dj.lo hb2.ltO hq23
        have hd7_23 := Dj.lo ho7.ltO hq23
        have hd8_23 := Dj.lo ho8.ltO hq23
        have hd9_23 := Dj.lo ho9.ltO hq23
        have hd21_23 := Dj.lo hb21.ltO hq23
        have hl24 := Lo.up hq24 hB
        have hv24 := Lo.up hq24 hS
        have hd1_24 := Dj.lo hb1.ltO hq24
        have hd2_24 := Dj.lo hb2.ltO hq24
        have hd7_24 := Dj.lo ho7.ltO hq24
        have hd8_24 := Dj.lo ho8.ltO hq24
        have hd9_24 := Dj.lo ho9.ltO hq24
        have hd21_24 := Dj.lo hb21.ltO hq24
        refine ⟨Upd.trans hS hXw15, ?_⟩
        have hS := Upd.trans hS hXw15
        have hB := hB.trans hXw15
        have hBc := (by first | exact hBc.trans hXw15 | exact hB0.trans hXw15)
        have hb1 := hb1.up hXw15
        have hb2 := hb2.up hXw15
        have ho7 := ho7.up hXw15
        have ho8 := ho8.up hXw15
        have ho9 := ho9.up hXw15
        have hb21 := hb21.up hXw15
        refine HP.must rfl rfl (OpK.call rfl T.cf42 rfl (c_spec_MeetTrees (by first | assumption | exact Rd.up (by assumption) hB | exact Osl.rd (by assumption) | exact Osn.rdR (by assumption)) (by first | assumption | exact Rd.up (by assumption) hB | exact Osl.rd (by assumption) | exact Osn.rdR (by assumption)) (by first | assumption | exact Rd.up (by assumption) hB | exact Osl.rd (by assumption) | exact Osn.rdR (by assumption)) (by first | assumption | exact Rd.up (by assumption) hB | exact Osl.rd (by assumption) | exact Osn.rdR (by assumption)) (by first | assumption | exact Rd.up (by assumption) hB | exact Osl.rd (by assumption) | exact Osn.rdR (by assumption)) (by first | assumption | exact Rd.up (by assumption) hB | exact Osl.rd (by assumption) | exact Osn.rdR (by assumption))) (fun rv6 w16 hR => ?_))
        obtain ⟨hXw16, v25, og25, v26, og26, v27, og27, rfl, ho25, hq25, ho26, hq26, ho27, hq27, hd25_26, hd25_27, hd26_27⟩ := hR
        have hl25 := Lo.up hq25 hB
        have hv25 := Lo.up hq25 hS
        have hd1_25 := Dj.lo hb1.ltO hq25
        have hd2_25 := Dj.lo hb2.ltO hq25
        have hd7_25 := Dj.lo ho7.ltO hq25
        have hd8_25 := Dj.lo ho8.ltO hq25
        have hd9_25 := Dj.lo ho9.ltO hq25
        have hd21_25 := Dj.lo hb21.ltO hq25
        have hd22_25 := Dj.lo ho22.ltO hq25
        have hd23_25 := Dj.lo ho23.ltO hq25
        have hd24_25 := Dj.lo ho24.ltO hq25
        have hl26 := Lo.up hq26 hB
        have hv26 := Lo.up hq26 hS
        have hd1_26 := Dj.lo hb1.ltO hq26
        have hd2_26 := Dj.lo hb2.ltO hq26
        have hd7_26 := Dj.lo ho7.ltO hq26
        have hd8_26 := Dj.lo ho8.ltO hq26
        have hd9_26 := Dj.lo ho9.ltO hq26
        have hd21_26 := Dj.lo hb21.ltO hq26
        have hd22_26 := Dj.lo ho22.ltO hq26
        have hd23_26 := Dj.lo ho23.ltO hq26
        have hd24_26 := Dj.lo ho24.ltO hq26
        have hl27 := Lo.up hq27 hB
        have hv27 := Lo.up hq27 hS
        have hd1_27 := Dj.lo hb1.ltO hq27
        have hd2_27 := Dj.lo hb2.ltO hq27
        have hd7_27 := Dj.lo ho7.ltO hq27
        have hd8_27 := Dj.lo ho8.ltO hq27
        have hd9_27 := Dj.lo ho9.ltO hq27
        have hd21_27 := Dj.lo hb21.ltO hq27
        have hd22_27 := Dj.lo ho22.ltO hq27
        have hd23_27 := Dj.lo ho23.ltO hq27
        have hd24_27 := Dj.lo ho24.ltO hq27
        refine ⟨Upd.trans hS hXw16, ?_⟩
        have hS := Upd.trans hS hXw16
        have hB := hB.trans hXw16
        have hBc := (by first | exact hBc.trans hXw16 | exact hB0.trans hXw16)
        have hb1 := hb1.up hXw16
        have hb2 := hb2.up hXw16
        have ho7 := ho7.up hXw16
        have ho8 := ho8.up hXw16
        have ho9 := ho9.up hXw16
        have hb21 := hb21.up hXw16
        have ho22 := ho22.up hXw16
        have ho23 := ho23.up hXw16
        have ho24 := ho24.up hXw16
        refine HP.take rfl rfl rfl rfl hS (fun wS hS1 => PV.move rfl) ?_
        refine HP.take rfl rfl rfl rfl hS (fun wS hS1 => PV.extract rfl rfl) ?_
        refine HP.take rfl rfl rfl rfl hS (fun wS hS1 => PV.extract rfl rfl) ?_
        refine HP.must rfl rfl (OpK.storeA T.sz37 rfl rfl rfl rfl (by simp [Value.oneCell'] <;> first | done | (repeat' apply And.intro) <;> first | rfl | exact Osl.oneCell (by assumption) | exact Osn.oneCell (by assumption) | exact Rd.oneCell (by assumption) | assumption) hb21 (fun w17 hXw17 hb21 => ?_))
        refine ⟨Ext.updL hS hXw17 hv21, ?_⟩
        have hS := Ext.updL hS hXw17 hv21
        have hB := hB.updL hXw17 hl21
        have hBc := hBc.updL hXw17 (Lo.up hv21 hXd)
        have hb1 := hb1.updD hXw17 hd1_21
        have hb2 := hb2.updD hXw17 hd2_21
        have ho7 := ho7.updD hXw17 hd7_21
        have ho8 := ho8.updD hXw17 hd8_21
        have ho9 := ho9.updD hXw17 hd9_21
        have ho22 := ho22.updD hXw17 (Dj.symm hd21_22)
        have ho23 := ho23.updD hXw17 (Dj.symm hd21_23)
        have ho24 := ho24.updD hXw17 (Dj.symm hd21_24)
        have ho25 := ho25.updD hXw17 (Dj.symm hd21_25)
        have ho26 := ho26.updD hXw17 (Dj.symm hd21_26)
        have ho27 := ho27.updD hXw17 (Dj.symm hd21_27)
        refine HP.take rfl rfl rfl rfl hS (fun wS hS1 => PV.assign rfl) ?_
        refine HP.done ?_
        exact NQ.cut (ρ := [(6, _), (7, _)]) ⟨rfl, rfl, rfl, rfl, trivial⟩ ⟨v25, og25, v26, og26, v27, og27, b21, rfl, hBc, ho25, hl25, ho26, hl26, ho27, hl27, hb21, hl21, hd1_25, hd1_26, hd1_27, hd1_21, hd2_25, hd2_26, hd2_27, hd2_21, hd25_26, hd25_27, (Dj.symm hd21_25), hd26_27, (Dj.symm hd21_26), (Dj.symm hd21_27)⟩
    · skip
      refine (OpK.alloc rfl T.zv37 rfl (fun b28 w18 hXw18 hb28 hge28 => ?_))
      have hl28 := Lo.new hB hge28
      have hv28 := Lo.new hS hge28
      have hd1_28 := Dj.new hb1.ltO hge28
      have hd2_28 := Dj.new hb2.ltO hge28
      refine ⟨Upd.trans hS hXw18, ?_⟩
      have hS := Upd.trans hS hXw18
      have hB := hB.trans hXw18
      have hBc := (by first | exact hBc.trans hXw18 | exact hB0.trans hXw18)
      have hb1 := hb1.up hXw18
      have hb2 := hb2.up hXw18
      refine HP.must rfl rfl (OpK.call rfl T.cf29 rfl (c_laws_toTreeMachine (by first | assumption | exact Rd.up (by assumption) hB | exact Osl.rd (by assumption) | exact Osn.rdR (by assumption)) (by first | assumption | exact Rd.up (by assumption) hB | exact Osl.rd (by assumption) | exact Osn.rdR (by assumption)) (by first | assumption | exact Rd.up (by assumption) hB | exact Osl.rd (by assumption) | exact Osn.rdR (by assumption)) (by first | assumption | omega | (simp only [marks_len, marksB_len]; omega)) (by first | assumption | omega | (simp only [marks_len, marksB_len]; omega)) (by first | assumption | omega | (simp only [marks_len, marksB_len]; omega))) (fun rv7 w19 hR => ?_))
      obtain ⟨hXw19, v29, og29, v30, og30, v31, og31, rfl, ho29, hq29, ho30, hq30, ho31, hq31, hd29_30, hd29_31, hd30_31⟩ := hR
      have hl29 := Lo.up hq29 hB
      have hv29 := Lo.up hq29 hS
      have hd1_29 := Dj.lo hb1.ltO hq29
      have hd2_29 := Dj.lo hb2.ltO hq29
      have hd28_29 := Dj.lo hb28.ltO hq29
      have hl30 := Lo.up hq30 hB
      have hv30 := Lo.up hq30 hS
      have hd1_30 := Dj.lo hb1.ltO hq30
      have hd2_30 := Dj.lo hb2.ltO hq30
      have hd28_30 := Dj.lo hb28.ltO hq30
      have hl31 := Lo.up hq31 hB
      have hv31 := Lo.up hq31 hS
      have hd1_31 := Dj.lo hb1.ltO hq31
      have hd2_31 := Dj.lo hb2.ltO hq31
      have hd28_31 := Dj.lo hb28.ltO hq31
      refine ⟨Upd.trans hS hXw19, ?_⟩
      have hS := Upd.trans hS hXw19
      have hB := hB.trans hXw19
      have hBc := (by first | exact hBc.trans hXw19 | exact hB0.trans hXw19)
      have hb1 := hb1.up hXw19
      have hb2 := hb2.up hXw19
      have hb28 := hb28.up hXw19
      refine HP.must rfl rfl (OpK.call rfl T.cf29 rfl (c_laws_toTreeMachine (by first | assumption | exact Rd.up (by assumption) hB | exact Osl.rd (by assumption) | exact Osn.rdR (by assumption)) (by first | assumption | exact Rd.up (by assumption) hB | exact Osl.rd (by assumption) | exact Osn.rdR (by assumption)) (by first | assumption | exact Rd.up (by assumption) hB | exact Osl.rd (by assumption) | exact Osn.rdR (by assumption)) (by first | assumption | omega | (simp only [marks_len, marksB_len]; omega)) (by first | assumption | omega | (simp only [marks_len, marksB_len]; omega)) (by first | assumption | omega | (simp only [marks_len, marksB_len]; omega))) (fun rv8 w20 hR => ?_))
      obtain ⟨hXw20, v32, og32, v33, og33, v34, og34, rfl, ho32, hq32, ho33, hq33, ho34, hq34, hd32_33, hd32_34, hd33_34⟩ := hR
      have hl32 := Lo.up hq32 hB
      have hv32 := Lo.up hq32 hS
      have hd1_32 := Dj.lo hb1.ltO hq32
      have hd2_32 := Dj.lo hb2.ltO hq32
      have hd28_32 := Dj.lo hb28.ltO hq32
      have hd29_32 := Dj.lo ho29.ltO hq32
      have hd30_32 := Dj.lo ho30.ltO hq32
      have hd31_32 := Dj.lo ho31.ltO hq32
      have hl33 := Lo.up hq33 hB
      have hv33 := Lo.up hq33 hS
      have hd1_33 := Dj.lo hb1.ltO hq33
      have hd2_33 := Dj.lo hb2.ltO hq33
      have hd28_33 := Dj.lo hb28.ltO hq33
      have hd29_33 := Dj.lo ho29.ltO hq33
      have hd30_33 := Dj.lo ho30.ltO hq33
      have hd31_33 := Dj.lo ho31.ltO hq33
      have hl34 := Lo.up hq34 hB
      have hv34 := Lo.up hq34 hS
      have hd1_34 := Dj.lo hb1.ltO hq34
      have hd2_34 := Dj.lo hb2.ltO hq34
      have hd28_34 := Dj.lo hb28.ltO hq34
      have hd29_34 := Dj.lo ho29.ltO hq34
      have hd30_34 := Dj.lo ho30.ltO hq34
      have hd31_34 := Dj.lo ho31.ltO hq34
      refine ⟨Upd.trans hS hXw20, ?_⟩
      have hS := Upd.trans hS hXw20
      have hB := hB.trans hXw20
      have hBc := (by first | exact hBc.trans hXw20 | exact hB0.trans hXw20)
      have hb1 := hb1.up hXw20
      have hb2 := hb2.up hXw20
      have hb28 := hb28.up hXw20
      have ho29 := ho29.up hXw20
      have ho30 := ho30.up hXw20
      have ho31 := ho31.up hXw20
      refine HP.must rfl rfl (OpK.call rfl T.cf42 rfl (c_spec_MeetTrees (by first | assumption | exact Rd.up (by assumption) hB | exact Osl.rd (by assumption) | exact Osn.rdR (by assumption)) (by first | assumption | exact Rd.up (by assumption) hB | exact Osl.rd (by assumption) | exact Osn.rdR (by assumption)) (by first | assumption | exact Rd.up (by assumption) hB | exact Osl.rd (by assumption) | exact Osn.rdR (by assumption)) (by first | assumption | exact Rd.up (by assumption) hB | exact Osl.rd (by assumption) | exact Osn.rdR (by assumption)) (by first | assumption | exact Rd.up (by assumption) hB | exact Osl.rd (by assumption) | exact Osn.rdR (by assumption)) (by first | assumption | exact Rd.up (by assumption) hB | exact Osl.rd (by assumption) | exact Osn.rdR (by assumption))) (fun rv9 w21 hR => ?_))
      obtain ⟨hXw21, v35, og35, v36, og36, v37, og37, rfl, ho35, hq35, ho36, hq36, ho37, hq37, hd35_36, hd35_37, hd36_37⟩ := hR
      have hl35 := Lo.up hq35 hB
      have hv35 := Lo.up hq35 hS
      have hd1_35 := Dj.lo hb1.ltO hq35
      have hd2_35 := Dj.lo hb2.ltO hq35
      have hd28_35 := Dj.lo hb28.ltO hq35
      have hd29_35 := Dj.lo ho29.ltO hq35
      have hd30_35 := Dj.lo ho30.ltO hq35
      have hd31_35 := Dj.lo ho31.ltO hq35
      have hd32_35 := Dj.lo ho32.ltO hq35
      have hd33_35 := Dj.lo ho33.ltO hq35
      have hd34_35 := Dj.lo ho34.ltO hq35
      have hl36 := Lo.up hq36 hB
      have hv36 := Lo.up hq36 hS
      have hd1_36 := Dj.lo hb1.ltO hq36
      have hd2_36 := Dj.lo hb2.ltO hq36
      have hd28_36 := Dj.lo hb28.ltO hq36
      have hd29_36 := Dj.lo ho29.ltO hq36
      have hd30_36 := Dj.lo ho30.ltO hq36
      have hd31_36 := Dj.lo ho31.ltO hq36
      have hd32_36 := Dj.lo ho32.ltO hq36
      have hd33_36 := Dj.lo ho33.ltO hq36
      have hd34_36 := Dj.lo ho34.ltO hq36
      have hl37 := Lo.up hq37 hB
      have hv37 := Lo.up hq37 hS
      have hd1_37 := Dj.lo hb1.ltO hq37
      have hd2_37 := Dj.lo hb2.ltO hq37
      have hd28_37 := Dj.lo hb28.ltO hq37
      have hd29_37 := Dj.lo ho29.ltO hq37
      have hd30_37 := Dj.lo ho30.ltO hq37
      have hd31_37 := Dj.lo ho31.ltO hq37
      have hd32_37 := Dj.lo ho32.ltO hq37
      have hd33_37 := Dj.lo ho33.ltO hq37
      have hd34_37 := Dj.lo ho34.ltO hq37
      refine ⟨Upd.trans hS hXw21, ?_⟩
      have hS := Upd.trans hS hXw21
      have hB := hB.trans hXw21
      have hBc := (by first | exact hBc.trans hXw21 | exact hB0.trans hXw21)
      have hb1 := hb1.up hXw21
      have hb2 := hb2.up hXw21
      have hb28 := hb28.up hXw21
      have ho29 := ho29.up hXw21
      have ho30 := ho30.up hXw21
      have ho31 := ho31.up hXw21
      have ho32 := ho32.up hXw21
      have ho33 := ho33.up hXw21
      have ho34 := ho34.up hXw21
      refine HP.take rfl rfl rfl rfl hS (fun wS hS1 => PV.move rfl) ?_
      refine HP.take rfl rfl rfl rfl hS (fun wS hS1 => PV.extract rfl rfl) ?_
      refine HP.take rfl rfl rfl rfl hS (fun wS hS1 => PV.extract rfl rfl) ?_
      refine HP.must rfl rfl (OpK.storeA T.sz37 rfl rfl rfl rfl (by simp [Value.oneCell'] <;> first | done | (repeat' apply And.intro) <;> first | rfl | exact Osl.oneCell (by assumption) | exact Osn.oneCell (by assumption) | exact Rd.oneCell (by assumption) | assumption) hb28 (fun w22 hXw22 hb28 => ?_))
      refine ⟨Ext.updL hS hXw22 hv28, ?_⟩
      have hS := Ext.updL hS hXw22 hv28
      have hB := hB.updL hXw22 hl28
      have hBc := hBc.updL hXw22 (Lo.up hv28 hXd)
      have hb1 := hb1.updD hXw22 hd1_28
      have hb2 := hb2.updD hXw22 hd2_28
      have ho29 := ho29.updD hXw22 (Dj.symm hd28_29)
      have ho30 := ho30.updD hXw22 (Dj.symm hd28_30)
      have ho31 := ho31.updD hXw22 (Dj.symm hd28_31)
      have ho32 := ho32.updD hXw22 (Dj.symm hd28_32)
      have ho33 := ho33.updD hXw22 (Dj.symm hd28_33)
      have ho34 := ho34.updD hXw22 (Dj.symm hd28_34)
      have ho35 := ho35.updD hXw22 (Dj.symm hd28_35)
      have ho36 := ho36.updD hXw22 (Dj.symm hd28_36)
      have ho37 := ho37.updD hXw22 (Dj.symm hd28_37)
      refine HP.take rfl rfl rfl rfl hS (fun wS hS1 => PV.assign rfl) ?_
      refine HP.done ?_
      exact NQ.cut (ρ := [(6, _), (7, _)]) ⟨rfl, rfl, rfl, rfl, trivial⟩ ⟨v35, og35, v36, og36, v37, og37, b28, rfl, hBc, ho35, hl35, ho36, hl36, ho37, hl37, hb28, hl28, hd1_35, hd1_36, hd1_37, hd1_28, hd2_35, hd2_36, hd2_37, hd2_28, hd35_36, hd35_37, (Dj.symm hd28_35), hd36_37, (Dj.symm hd28_36), (Dj.symm hd28_37)⟩
  rintro _ wc1 ⟨v4, og4, v5, og5, v6, og6, b3, rfl, hXc, ho4, hl4, ho5, hl5, ho6, hl6, hb3, hl3, hd1_4, hd1_5, hd1_6, hd1_3, hd2_4, hd2_5, hd2_6, hd2_3, hd4_5, hd4_6, hd4_3, hd5_6, hd5_3, hd6_3⟩
  have hB := hB.trans hXc
  have hb1 := hb1.up hXc
  have hb2 := hb2.up hXc
  refine CW.seq ?_
  refine CW.reg ?_
  refine WL.pure rfl rfl rfl ((by first | exact PV.loadA T.ag34 rfl (by first | exact Cells.up (by assumption) hB | exact Bx.cells (by assumption) | assumption) (Ext.refl _) rfl | exact PV.loadP (ds := [_, _, _, _, _]) T.ag34 rfl (by first | exact Cells.up (by assumption) hB | exact Bx.cells (by assumption) | assumption) (Ext.refl _) rfl rfl)) ?_
  refine WL.op rfl (OpK.call rfl T.cf29 rfl (c_laws_toTreeMachine (by first | assumption | exact Rd.up (by assumption) hB | exact Osl.rd (by assumption) | exact Osn.rdR (by assumption)) (by first | assumption | exact Rd.up (by assumption) hB | exact Osl.rd (by assumption) | exact Osn.rdR (by assumption)) (by first | assumption | exact Rd.up (by assumption) hB | exact Osl.rd (by assumption) | exact Osn.rdR (by assumption)) (by first | assumption | omega | (simp only [marks_len, marksB_len]; omega)) (by first | assumption | omega | (simp only [marks_len, marksB_len]; omega)) (by first | assumption | omega | (simp only [marks_len, marksB_len]; omega))) (fun rv10 w23 hR => ?_))
  obtain ⟨hXw23, v38, og38, v39, og39, v40, og40, rfl, ho38, hq38, ho39, hq39, ho40, hq40, hd38_39, hd38_40, hd39_40⟩ := hR
  have hl38 := Lo.up hq38 hB
  have hd1_38 := Dj.lo hb1.ltO hq38
  have hd2_38 := Dj.lo hb2.ltO hq38
  have hd4_38 := Dj.lo ho4.ltO hq38
  have hd5_38 := Dj.lo ho5.ltO hq38
  have hd6_38 := Dj.lo ho6.ltO hq38
  have hd3_38 := Dj.lo hb3.ltO hq38
  have hl39 := Lo.up hq39 hB
  have hd1_39 := Dj.lo hb1.ltO hq39
  have hd2_39 := Dj.lo hb2.ltO hq39
  have hd4_39 := Dj.lo ho4.ltO hq39
  have hd5_39 := Dj.lo ho5.ltO hq39
  have hd6_39 := Dj.lo ho6.ltO hq39
  have hd3_39 := Dj.lo hb3.ltO hq39
  have hl40 := Lo.up hq40 hB
  have hd1_40 := Dj.lo hb1.ltO hq40
  have hd2_40 := Dj.lo hb2.ltO hq40
  have hd4_40 := Dj.lo ho4.ltO hq40
  have hd5_40 := Dj.lo ho5.ltO hq40
  have hd6_40 := Dj.lo ho6.ltO hq40
  have hd3_40 := Dj.lo hb3.ltO hq40
  have hB := hB.trans hXw23
  have hb1 := hb1.up hXw23
  have hb2 := hb2.up hXw23
  have ho4 := ho4.up hXw23
  have ho5 := ho5.up hXw23
  have ho6 := ho6.up hXw23
  have hb3 := hb3.up hXw23
  refine WL.op rfl (OpK.alloc rfl T.zv37 rfl (fun b41 w24 hXw24 hb41 hge41 => ?_))
  have hl41 := Lo.new hB hge41
  have hd1_41 := Dj.new hb1.ltO hge41
  have hd2_41 := Dj.new hb2.ltO hge41
  have hd4_41 := Dj.new ho4.ltO hge41
  have hd5_41 := Dj.new ho5.ltO hge41
  have hd6_41 := Dj.new ho6.ltO hge41
  have hd3_41 := Dj.new hb3.ltO hge41
  have hd38_41 := Dj.new ho38.ltO hge41
  have hd39_41 := Dj.new ho39.ltO hge41
  have hd40_41 := Dj.new ho40.ltO hge41
  have hB := hB.trans hXw24
  have hb1 := hb1.up hXw24
  have hb2 := hb2.up hXw24
  have ho4 := ho4.up hXw24
  have ho5 := ho5.up hXw24
  have ho6 := ho6.up hXw24
  have hb3 := hb3.up hXw24
  have ho38 := ho38.up hXw24
  have ho39 := ho39.up hXw24
  have ho40 := ho40.up hXw24
  refine WL.op rfl (OpK.storeA T.sz37 rfl rfl rfl rfl (by simp [Value.oneCell'] <;> first | done | (repeat' apply And.intro) <;> first | rfl | exact Osl.oneCell (by assumption) | exact Osn.oneCell (by assumption) | exact Rd.oneCell (by assumption) | assumption) hb41 (fun w25 hXw25 hb41 => ?_))
  have hB := hB.updL hXw25 hl41
  have hb1 := hb1.updD hXw25 hd1_41
  have hb2 := hb2.updD hXw25 hd2_41
  have ho4 := ho4.updD hXw25 hd4_41
  have ho5 := ho5.updD hXw25 hd5_41
  have ho6 := ho6.updD hXw25 hd6_41
  have hb3 := hb3.updD hXw25 hd3_41
  have ho38 := ho38.updD hXw25 hd38_41
  have ho39 := ho39.updD hXw25 hd39_41
  have ho40 := ho40.updD hXw25 hd40_41
  refine WL.nilS ?_
  refine CW.seq ?_
  refine CW.reg ?_
  refine WL.pure rfl rfl rfl ((by first | exact PV.loadA T.ag34 rfl (by first | exact Cells.up (by assumption) hB | exact Bx.cells (by assumption) | assumption) (Ext.refl _) rfl | exact PV.loadP (ds := [_, _, _, _, _]) T.ag34 rfl (by first | exact Cells.up (by assumption) hB | exact Bx.cells (by assumption) | assumption) (Ext.refl _) rfl rfl)) ?_
  refine WL.op rfl (OpK.call rfl T.cf29 rfl (c_laws_toTreeMachine (by first | assumption | exact Rd.up (by assumption) hB | exact Osl.rd (by assumption) | exact Osn.rdR (by assumption)) (by first | assumption | exact Rd.up (by assumption) hB | exact Osl.rd (by assumption) | exact Osn.rdR (by assumption)) (by first | assumption | exact Rd.up (by assumption) hB | exact Osl.rd (by assumption) | exact Osn.rdR (by assumption)) (by first | assumption | omega | (simp only [marks_len, marksB_len]; omega)) (by first | assumption | omega | (simp only [marks_len, marksB_len]; omega)) (by first | assumption | omega | (simp only [marks_len, marksB_len]; omega))) (fun rv11 w26 hR => ?_))
  obtain ⟨hXw26, v42, og42, v43, og43, v44, og44, rfl, ho42, hq42, ho43, hq43, ho44, hq44, hd42_43, hd42_44, hd43_44⟩ := hR
  have hl42 := Lo.up hq42 hB
  have hd1_42 := Dj.lo hb1.ltO hq42
  have hd2_42 := Dj.lo hb2.ltO hq42
  have hd4_42 := Dj.lo ho4.ltO hq42
  have hd5_42 := Dj.lo ho5.ltO hq42
  have hd6_42 := Dj.lo ho6.ltO hq42
  have hd3_42 := Dj.lo hb3.ltO hq42
  have hd38_42 := Dj.lo ho38.ltO hq42
  have hd39_42 := Dj.lo ho39.ltO hq42
  have hd40_42 := Dj.lo ho40.ltO hq42
  have hd41_42 := Dj.lo hb41.ltO hq42
  have hl43 := Lo.up hq43 hB
  have hd1_43 := Dj.lo hb1.ltO hq43
  have hd2_43 := Dj.lo hb2.ltO hq43
  have hd4_43 := Dj.lo ho4.ltO hq43
  have hd5_43 := Dj.lo ho5.ltO hq43
  have hd6_43 := Dj.lo ho6.ltO hq43
  have hd3_43 := Dj.lo hb3.ltO hq43
  have hd38_43 := Dj.lo ho38.ltO hq43
  have hd39_43 := Dj.lo ho39.ltO hq43
  have hd40_43 := Dj.lo ho40.ltO hq43
  have hd41_43 := Dj.lo hb41.ltO hq43
  have hl44 := Lo.up hq44 hB
  have hd1_44 := Dj.lo hb1.ltO hq44
  have hd2_44 := Dj.lo hb2.ltO hq44
  have hd4_44 := Dj.lo ho4.ltO hq44
  have hd5_44 := Dj.lo ho5.ltO hq44
  have hd6_44 := Dj.lo ho6.ltO hq44
  have hd3_44 := Dj.lo hb3.ltO hq44
  have hd38_44 := Dj.lo ho38.ltO hq44
  have hd39_44 := Dj.lo ho39.ltO hq44
  have hd40_44 := Dj.lo ho40.ltO hq44
  have hd41_44 := Dj.lo hb41.ltO hq44
  have hB := hB.trans hXw26
  have hb1 := hb1.up hXw26
  have hb2 := hb2.up hXw26
  have ho4 := ho4.up hXw26
  have ho5 := ho5.up hXw26
  have ho6 := ho6.up hXw26
  have hb3 := hb3.up hXw26
  have ho38 := ho38.up hXw26
  have ho39 := ho39.up hXw26
  have ho40 := ho40.up hXw26
  have hb41 := hb41.up hXw26
  refine WL.op rfl (OpK.alloc rfl T.zv37 rfl (fun b45 w27 hXw27 hb45 hge45 => ?_))
  have hl45 := Lo.new hB hge45
  have hd1_45 := Dj.new hb1.ltO hge45
  have hd2_45 := Dj.new hb2.ltO hge45
  have hd4_45 := Dj.new ho4.ltO hge45
  have hd5_45 := Dj.new ho5.ltO hge45
  have hd6_45 := Dj.new ho6.ltO hge45
  have hd3_45 := Dj.new hb3.ltO hge45
  have hd38_45 := Dj.new ho38.ltO hge45
  have hd39_45 := Dj.new ho39.ltO hge45
  have hd40_45 := Dj.new ho40.ltO hge45
  have hd41_45 := Dj.new hb41.ltO hge45
  have hd42_45 := Dj.new ho42.ltO hge45
  have hd43_45 := Dj.new ho43.ltO hge45
  have hd44_45 := Dj.new ho44.ltO hge45
  have hB := hB.trans hXw27
  have hb1 := hb1.up hXw27
  have hb2 := hb2.up hXw27
  have ho4 := ho4.up hXw27
  have ho5 := ho5.up hXw27
  have ho6 := ho6.up hXw27
  have hb3 := hb3.up hXw27
  have ho38 := ho38.up hXw27
  have ho39 := ho39.up hXw27
  have ho40 := ho40.up hXw27
  have hb41 := hb41.up hXw27
  have ho42 := ho42.up hXw27
  have ho43 := ho43.up hXw27
  have ho44 := ho44.up hXw27
  refine WL.op rfl (OpK.storeA T.sz37 rfl rfl rfl rfl (by simp [Value.oneCell'] <;> first | done | (repeat' apply And.intro) <;> first | rfl | exact Osl.oneCell (by assumption) | exact Osn.oneCell (by assumption) | exact Rd.oneCell (by assumption) | assumption) hb45 (fun w28 hXw28 hb45 => ?_))
  have hB := hB.updL hXw28 hl45
  have hb1 := hb1.updD hXw28 hd1_45
  have hb2 := hb2.updD hXw28 hd2_45
  have ho4 := ho4.updD hXw28 hd4_45
  have ho5 := ho5.updD hXw28 hd5_45
  have ho6 := ho6.updD hXw28 hd6_45
  have hb3 := hb3.updD hXw28 hd3_45
  have ho38 := ho38.updD hXw28 hd38_45
  have ho39 := ho39.updD hXw28 hd39_45
  have ho40 := ho40.updD hXw28 hd40_45
  have hb41 := hb41.updD hXw28 hd41_45
  have ho42 := ho42.updD hXw28 hd42_45
  have ho43 := ho43.updD hXw28 hd43_45
  have ho44 := ho44.updD hXw28 hd44_45
  refine WL.nilS ?_
  refine CW.seq ?_
  refine CW.reg ?_
  refine WL.pure rfl rfl rfl ((by first | exact PV.loadA T.ag37 rfl (by first | exact Cells.up (by assumption) hB | exact Bx.cells (by assumption) | assumption) (Ext.refl _) rfl | exact PV.loadP (ds := [_, _, _, _, _]) T.ag37 rfl (by first | exact Cells.up (by assumption) hB | exact Bx.cells (by assumption) | assumption) (Ext.refl _) rfl rfl)) ?_
  refine WL.pure rfl rfl rfl ((by first | exact PV.loadA T.ag37 rfl (by first | exact Cells.up (by assumption) hB | exact Bx.cells (by assumption) | assumption) (Ext.refl _) rfl | exact PV.loadP (ds := [_, _, _, _, _]) T.ag37 rfl (by first | exact Cells.up (by assumption) hB | exact Bx.cells (by assumption) | assumption) (Ext.refl _) rfl rfl)) ?_
  refine WL.op rfl (OpK.call rfl T.cf43 rfl (c_impl_MeetTrees (by first | assumption | exact Rd.up (by assumption) hB | exact Osl.rd (by assumption) | exact Osn.rdR (by assumption)) (by first | assumption | exact Rd.up (by assumption) hB | exact Osl.rd (by assumption) | exact Osn.rdR (by assumption)) (by first | assumption | exact Rd.up (by assumption) hB | exact Osl.rd (by assumption) | exact Osn.rdR (by assumption)) (by first | assumption | exact Rd.up (by assumption) hB | exact Osl.rd (by assumption) | exact Osn.rdR (by assumption)) (by first | assumption | exact Rd.up (by assumption) hB | exact Osl.rd (by assumption) | exact Osn.rdR (by assumption)) (by first | assumption | exact Rd.up (by assumption) hB | exact Osl.rd (by assumption) | exact Osn.rdR (by assumption))) (fun rv12 w29 hR => ?_))
  obtain ⟨hXw29, v46, og46, v47, og47, v48, og48, rfl, ho46, hq46, ho47, hq47, ho48, hq48, hd46_47, hd46_48, hd47_48⟩ := hR
  have hl46 := Lo.up hq46 hB
  have hd1_46 := Dj.lo hb1.ltO hq46
  have hd2_46 := Dj.lo hb2.ltO hq46
  have hd4_46 := Dj.lo ho4.ltO hq46
  have hd5_46 := Dj.lo ho5.ltO hq46
  have hd6_46 := Dj.lo ho6.ltO hq46
  have hd3_46 := Dj.lo hb3.ltO hq46
  have hd38_46 := Dj.lo ho38.ltO hq46
  have hd39_46 := Dj.lo ho39.ltO hq46
  have hd40_46 := Dj.lo ho40.ltO hq46
  have hd41_46 := Dj.lo hb41.ltO hq46
  have hd42_46 := Dj.lo ho42.ltO hq46
  have hd43_46 := Dj.lo ho43.ltO hq46
  have hd44_46 := Dj.lo ho44.ltO hq46
  have hd45_46 := Dj.lo hb45.ltO hq46
  have hl47 := Lo.up hq47 hB
  have hd1_47 := Dj.lo hb1.ltO hq47
  have hd2_47 := Dj.lo hb2.ltO hq47
  have hd4_47 := Dj.lo ho4.ltO hq47
  have hd5_47 := Dj.lo ho5.ltO hq47
  have hd6_47 := Dj.lo ho6.ltO hq47
  have hd3_47 := Dj.lo hb3.ltO hq47
  have hd38_47 := Dj.lo ho38.ltO hq47
  have hd39_47 := Dj.lo ho39.ltO hq47
  have hd40_47 := Dj.lo ho40.ltO hq47
  have hd41_47 := Dj.lo hb41.ltO hq47
  have hd42_47 := Dj.lo ho42.ltO hq47
  have hd43_47 := Dj.lo ho43.ltO hq47
  have hd44_47 := Dj.lo ho44.ltO hq47
  have hd45_47 := Dj.lo hb45.ltO hq47
  have hl48 := Lo.up hq48 hB
  have hd1_48 := Dj.lo hb1.ltO hq48
  have hd2_48 := Dj.lo hb2.ltO hq48
  have hd4_48 := Dj.lo ho4.ltO hq48
  have hd5_48 := Dj.lo ho5.ltO hq48
  have hd6_48 := Dj.lo ho6.ltO hq48
  have hd3_48 := Dj.lo hb3.ltO hq48
  have hd38_48 := Dj.lo ho38.ltO hq48
  have hd39_48 := Dj.lo ho39.ltO hq48
  have hd40_48 := Dj.lo ho40.ltO hq48
  have hd41_48 := Dj.lo hb41.ltO hq48
  have hd42_48 := Dj.lo ho42.ltO hq48
  have hd43_48 := Dj.lo ho43.ltO hq48
  have hd44_48 := Dj.lo ho44.ltO hq48
  have hd45_48 := Dj.lo hb45.ltO hq48
  have hB := hB.trans hXw29
  have hb1 := hb1.up hXw29
  have hb2 := hb2.up hXw29
  have ho4 := ho4.up hXw29
  have ho5 := ho5.up hXw29
  have ho6 := ho6.up hXw29
  have hb3 := hb3.up hXw29
  have ho38 := ho38.up hXw29
  have ho39 := ho39.up hXw29
  have ho40 := ho40.up hXw29
  have hb41 := hb41.up hXw29
  have ho42 := ho42.up hXw29
  have ho43 := ho43.up hXw29
  have ho44 := ho44.up hXw29
  have hb45 := hb45.up hXw29
  refine WL.pure rfl rfl rfl (PV.move rfl) ?_
  refine WL.pure rfl rfl rfl (PV.extract rfl rfl) ?_
  refine WL.pure rfl rfl rfl (PV.extract rfl rfl) ?_
  refine WL.op rfl (OpK.alloc rfl T.zv37 rfl (fun b49 w30 hXw30 hb49 hge49 => ?_))
  have hl49 := Lo.new hB hge49
  have hd1_49 := Dj.new hb1.ltO hge49
  have hd2_49 := Dj.new hb2.ltO hge49
  have hd4_49 := Dj.new ho4.ltO hge49
  have hd5_49 := Dj.new ho5.ltO hge49
  have hd6_49 := Dj.new ho6.ltO hge49
  have hd3_49 := Dj.new hb3.ltO hge49
  have hd38_49 := Dj.new ho38.ltO hge49
  have hd39_49 := Dj.new ho39.ltO hge49
  have hd40_49 := Dj.new ho40.ltO hge49
  have hd41_49 := Dj.new hb41.ltO hge49
  have hd42_49 := Dj.new ho42.ltO hge49
  have hd43_49 := Dj.new ho43.ltO hge49
  have hd44_49 := Dj.new ho44.ltO hge49
  have hd45_49 := Dj.new hb45.ltO hge49
  have hd46_49 := Dj.new ho46.ltO hge49
  have hd47_49 := Dj.new ho47.ltO hge49
  have hd48_49 := Dj.new ho48.ltO hge49
  have hB := hB.trans hXw30
  have hb1 := hb1.up hXw30
  have hb2 := hb2.up hXw30
  have ho4 := ho4.up hXw30
  have ho5 := ho5.up hXw30
  have ho6 := ho6.up hXw30
  have hb3 := hb3.up hXw30
  have ho38 := ho38.up hXw30
  have ho39 := ho39.up hXw30
  have ho40 := ho40.up hXw30
  have hb41 := hb41.up hXw30
  have ho42 := ho42.up hXw30
  have ho43 := ho43.up hXw30
  have ho44 := ho44.up hXw30
  have hb45 := hb45.up hXw30
  have ho46 := ho46.up hXw30
  have ho47 := ho47.up hXw30
  have ho48 := ho48.up hXw30
  refine WL.op rfl (OpK.storeA T.sz37 rfl rfl rfl rfl (by simp [Value.oneCell'] <;> first | done | (repeat' apply And.intro) <;> first | rfl | exact Osl.oneCell (by assumption) | exact Osn.oneCell (by assumption) | exact Rd.oneCell (by assumption) | assumption) hb49 (fun w31 hXw31 hb49 => ?_))
  have hB := hB.updL hXw31 hl49
  have hb1 := hb1.updD hXw31 hd1_49
  have hb2 := hb2.updD hXw31 hd2_49
  have ho4 := ho4.updD hXw31 hd4_49
  have ho5 := ho5.updD hXw31 hd5_49
  have ho6 := ho6.updD hXw31 hd6_49
  have hb3 := hb3.updD hXw31 hd3_49
  have ho38 := ho38.updD hXw31 hd38_49
  have ho39 := ho39.updD hXw31 hd39_49
  have ho40 := ho40.updD hXw31 hd40_49
  have hb41 := hb41.updD hXw31 hd41_49
  have ho42 := ho42.updD hXw31 hd42_49
  have ho43 := ho43.updD hXw31 hd43_49
  have ho44 := ho44.updD hXw31 hd44_49
  have hb45 := hb45.updD hXw31 hd45_49
  have ho46 := ho46.updD hXw31 hd46_49
  have ho47 := ho47.updD hXw31 hd47_49
  have ho48 := ho48.updD hXw31 hd48_49
  refine WL.pure rfl rfl rfl (PV.assign rfl) ?_
  refine WL.nilS ?_
  refine CW.seq ?_
  refine CW.seq ?_
  refine CW.reg ?_
  refine WL.pure rfl rfl rfl ((by first | exact PV.loadA T.ag37 rfl (by first | exact Cells.up (by assumption) hB | exact Bx.cells (by assumption) | assumption) (Ext.refl _) rfl | exact PV.loadP (ds := [_, _, _, _, _]) T.ag37 rfl (by first | exact Cells.up (by assumption) hB | exact Bx.cells (by assumption) | assumption) (Ext.refl _) rfl rfl)) ?_
  refine WL.pure rfl rfl rfl ((by first | exact PV.loadA T.ag37 rfl (by first | exact Cells.up (by assumption) hB | exact Bx.cells (by assumption) | assumption) (Ext.refl _) rfl | exact PV.loadP (ds := [_, _, _, _, _]) T.ag37 rfl (by first | exact Cells.up (by assumption) hB | exact Bx.cells (by assumption) | assumption) (Ext.refl _) rfl rfl)) ?_
  refine WL.op rfl (OpK.callR rfl T.cf31 rfl (c_laws_eqTreeMachine (by first | assumption | exact Rd.up (by assumption) hB | exact Osl.rd (by assumption) | exact Osn.rdR (by assumption)) (by first | assumption | exact Rd.up (by assumption) hB | exact Osl.rd (by assumption) | exact Osn.rdR (by assumption)) (by first | assumption | exact Rd.up (by assumption) hB | exact Osl.rd (by assumption) | exact Osn.rdR (by assumption)) (by first | assumption | exact Rd.up (by assumption) hB | exact Osl.rd (by assumption) | exact Osn.rdR (by assumption)) (by first | assumption | exact Rd.up (by assumption) hB | exact Osl.rd (by assumption) | exact Osn.rdR (by assumption)) (by first | assumption | exact Rd.up (by assumption) hB | exact Osl.rd (by assumption) | exact Osn.rdR (by assumption))) (fun w32 hXw32 => ?_))
  have hB := hB.trans hXw32
  have hb1 := hb1.up hXw32
  have hb2 := hb2.up hXw32
  have ho4 := ho4.up hXw32
  have ho5 := ho5.up hXw32
  have ho6 := ho6.up hXw32
  have hb3 := hb3.up hXw32
  have ho38 := ho38.up hXw32
  have ho39 := ho39.up hXw32
  have ho40 := ho40.up hXw32
  have hb41 := hb41.up hXw32
  have ho42 := ho42.up hXw32
  have ho43 := ho43.up hXw32
  have ho44 := ho44.up hXw32
  have hb45 := hb45.up hXw32
  have ho46 := ho46.up hXw32
  have ho47 := ho47.up hXw32
  have ho48 := ho48.up hXw32
  have hb49 := hb49.up hXw32
  refine WL.pure rfl rfl rfl (PV.not rfl) ?_
  refine WL.pure rfl rfl rfl (PV.move rfl) ?_
  refine WL.split (t := 49) rfl (fun hc3 => ?_) (fun hc3 => ?_)
  · skip
    try simp only [decide_eq_true_eq, decide_eq_false_iff_not, Bool.not_eq_true', Bool.not_eq_false', Bool.not_eq_eq_eq_not, Bool.not_true, Bool.not_false, Int.not_lt, Int.not_le, Classical.not_not, beq_iff_eq, beq_eq_false_iff_ne] at hc3
    refine WL.skip rfl rfl rfl rfl rfl ?_
    refine WL.skip rfl rfl rfl rfl rfl ?_
    refine WL.skip rfl rfl rfl rfl rfl ?_
    refine WL.pure rfl rfl rfl (PV.pickT rfl rfl) ?_
    refine WL.nilS ?_
    refine CW.condT rfl ?_
    refine CW.seq ?_
    refine CW.reg ?_
    refine WL.pure rfl rfl rfl (PV.assign rfl) ?_
    refine WL.nilS ?_
    refine CW.ret ?_
    refine RQ.then ?_
    refine RQ.r1 rfl ?_
    refine ⟨?_, hB⟩
    first | rfl | (exfalso; revert hc3; simp; done) | (exfalso; revert hc3; simp; omega) | (exfalso; omega) | first | rfl | exact bT (by omega) | exact bF (by omega) | exact bD (by omega) | exact iE (by omega) | (simp_all; done) | (simp_all; omega) | (simp_all; intros; omega)
  try simp only [decide_eq_true_eq, decide_eq_false_iff_not, Bool.not_eq_true', Bool.not_eq_false', Bool.not_eq_eq_eq_not, Bool.not_true, Bool.not_false, Int.not_lt, Int.not_le, Classical.not_not, beq_iff_eq, beq_eq_false_iff_ne] at hc3
  refine WL.pureG rfl rfl rfl rfl rfl (PV.move rfl) ?_
  refine WL.pureG rfl rfl rfl rfl rfl (PV.move rfl) ?_
  refine WL.pureG rfl rfl rfl rfl rfl (PV.neqB T.bl4 rfl rfl) ?_
  refine WL.pure rfl rfl rfl (PV.pickF rfl rfl) ?_
  refine WL.nilS ?_
  refine CW.cond rfl (fun hc4 => ?_) (fun hc4 => ?_)
  · skip
    try simp only [decide_eq_true_eq, decide_eq_false_iff_not, Bool.not_eq_true', Bool.not_eq_false', Bool.not_eq_eq_eq_not, Bool.not_true, Bool.not_false, Int.not_lt, Int.not_le, Classical.not_not, beq_iff_eq, beq_eq_false_iff_ne] at hc4
    refine CW.seq ?_
    refine CW.reg ?_
    refine WL.pure rfl rfl rfl (PV.assign rfl) ?_
    refine WL.nilS ?_
    refine CW.ret ?_
    refine RQ.then ?_
    refine RQ.r1 rfl ?_
    refine ⟨?_, hB⟩
    first | rfl | (exfalso; revert hc4; simp; done) | (exfalso; revert hc4; simp; omega) | (exfalso; omega) | first | rfl | exact bT (by omega) | exact bF (by omega) | exact bD (by omega) | exact iE (by omega) | (simp_all; done) | (simp_all; omega) | (simp_all; intros; omega)
  try simp only [decide_eq_true_eq, decide_eq_false_iff_not, Bool.not_eq_true', Bool.not_eq_false', Bool.not_eq_eq_eq_not, Bool.not_true, Bool.not_false, Int.not_lt, Int.not_le, Classical.not_not, beq_iff_eq, beq_eq_false_iff_ne] at hc4
  refine CW.skipS ?_
  refine CW.seq ?_
  refine CW.seq ?_
  refine CW.draw T.mixed (by kernel_rfl) (fun _ _ _ _ _ h => h) (fun w8 w9 => Upd none w8 w9) 5 (.take 0 (.take 1 (.must 2 (.must 3 (.take 4 .done))))) (by kernel_rfl) (fun w33 hXd => ?_)
  have hB := hB.trans hXd
  have hb1 := hb1.up hXd
  have hb2 := hb2.up hXd
  have ho4 := ho4.up hXd
  have ho5 := ho5.up hXd
  have ho6 := ho6.up hXd
  have hb3 := hb3.up hXd
  have ho38 := ho38.up hXd
  have ho39 := ho39.up hXd
  have ho40 := ho40.up hXd
  have hb41 := hb41.up hXd
  have ho42 := ho42.up hXd
  have ho43 := ho43.up hXd
  have ho44 := ho44.up hXd
  have hb45 := hb45.up hXd
  have ho46 := ho46.up hXd
  have ho47 := ho47.up hXd
  have ho48 := ho48.up hXd
  have hb49 := hb49.up hXd
  have hBr := hB
  have hS : Upd none w33 w33 := Ext.toUpd (Ext.refl _)
  refine HP.take rfl rfl rfl rfl hS (fun wS hS1 => (by first | exact PV.loadA T.ag37 rfl (by first | exact Cells.up (by assumption) (hBr.trans hS1) | exact Bx.cells (Bx.updD (by assumption) hS1 (Dj.nlR _)) | exact Cells.upd (by assumption) hS1 (by simp)) (Ext.refl _) rfl | exact PV.loadP (ds := [_, _, _, _, _]) T.ag37 rfl (by first | exact Cells.up (by assumption) (hBr.trans hS1) | exact Bx.cells (Bx.updD (by assumption) hS1 (Dj.nlR _)) | exact Cells.upd (by assumption) hS1 (by simp)) (Ext.refl _) rfl rfl)) ?_
  refine HP.take rfl rfl rfl rfl hS (fun wS hS1 => (by first | exact PV.loadA T.ag34 rfl (by first | exact Cells.up (by assumption) (hBr.trans hS1) | exact Bx.cells (Bx.updD (by assumption) hS1 (Dj.nlR _)) | exact Cells.upd (by assumption) hS1 (by simp)) (Ext.refl _) rfl | exact PV.loadP (ds := [_, _, _, _, _]) T.ag34 rfl (by first | exact Cells.up (by assumption) (hBr.trans hS1) | exact Bx.cells (Bx.updD (by assumption) hS1 (Dj.nlR _)) | exact Cells.upd (by assumption) hS1 (by simp)) (Ext.refl _) rfl rfl)) ?_
  refine HP.must rfl rfl (OpK.call rfl T.cf29 rfl (c_laws_toTreeMachine (by first | assumption | exact Rd.up (by assumption) hB | exact Osl.rd (by assumption) | exact Osn.rdR (by assumption)) (by first | assumption | exact Rd.up (by assumption) hB | exact Osl.rd (by assumption) | exact Osn.rdR (by assumption)) (by first | assumption | exact Rd.up (by assumption) hB | exact Osl.rd (by assumption) | exact Osn.rdR (by assumption)) (by first | assumption | omega | (simp only [marks_len, marksB_len]; omega)) (by first | assumption | omega | (simp only [marks_len, marksB_len]; omega)) (by first | assumption | omega | (simp only [marks_len, marksB_len]; omega))) (fun rv13 w34 hR => ?_))
  obtain ⟨hXw34, v50, og50, v51, og51, v52, og52, rfl, ho50, hq50, ho51, hq51, ho52, hq52, hd50_51, hd50_52, hd51_52⟩ := hR
  have hl50 := Lo.up hq50 hB
  have hv50 := Lo.up hq50 hS
  have hd1_50 := Dj.lo hb1.ltO hq50
  have hd2_50 := Dj.lo hb2.ltO hq50
  have hd4_50 := Dj.lo ho4.ltO hq50
  have hd5_50 := Dj.lo ho5.ltO hq50
  have hd6_50 := Dj.lo ho6.ltO hq50
  have hd3_50 := Dj.lo hb3.ltO hq50
  have hd38_50 := Dj.lo ho38.ltO hq50
  have hd39_50 := Dj.lo ho39.ltO hq50
  have hd40_50 := Dj.lo ho40.ltO hq50
  have hd41_50 := Dj.lo hb41.ltO hq50
  have hd42_50 := Dj.lo ho42.ltO hq50
  have hd43_50 := Dj.lo ho43.ltO hq50
  have hd44_50 := Dj.lo ho44.ltO hq50
  have hd45_50 := Dj.lo hb45.ltO hq50
  have hd46_50 := Dj.lo ho46.ltO hq50
  have hd47_50 := Dj.lo ho47.ltO hq50
  have hd48_50 := Dj.lo ho48.ltO hq50
  have hd49_50 := Dj.lo hb49.ltO hq50
  have hl51 := Lo.up hq51 hB
  have hv51 := Lo.up hq51 hS
  have hd1_51 := Dj.lo hb1.ltO hq51
  have hd2_51 := Dj.lo hb2.ltO hq51
  have hd4_51 := Dj.lo ho4.ltO hq51
  have hd5_51 := Dj.lo ho5.ltO hq51
  have hd6_51 := Dj.lo ho6.ltO hq51
  have hd3_51 := Dj.lo hb3.ltO hq51
  have hd38_51 := Dj.lo ho38.ltO hq51
  have hd39_51 := Dj.lo ho39.ltO hq51
  have hd40_51 := Dj.lo ho40.ltO hq51
  have hd41_51 := Dj.lo hb41.ltO hq51
  have hd42_51 := Dj.lo ho42.ltO hq51
  have hd43_51 := Dj.lo ho43.ltO hq51
  have hd44_51 := Dj.lo ho44.ltO hq51
  have hd45_51 := Dj.lo hb45.ltO hq51
  have hd46_51 := Dj.lo ho46.ltO hq51
  have hd47_51 := Dj.lo ho47.ltO hq51
  have hd48_51 := Dj.lo ho48.ltO hq51
  have hd49_51 := Dj.lo hb49.ltO hq51
  have hl52 := Lo.up hq52 hB
  have hv52 := Lo.up hq52 hS
  have hd1_52 := Dj.lo hb1.ltO hq52
  have hd2_52 := Dj.lo hb2.ltO hq52
  have hd4_52 := Dj.lo ho4.ltO hq52
  have hd5_52 := Dj.lo ho5.ltO hq52
  have hd6_52 := Dj.lo ho6.ltO hq52
  have hd3_52 := Dj.lo hb3.ltO hq52
  have hd38_52 := Dj.lo ho38.ltO hq52
  have hd39_52 := Dj.lo ho39.ltO hq52
  have hd40_52 := Dj.lo ho40.ltO hq52
  have hd41_52 := Dj.lo hb41.ltO hq52
  have hd42_52 := Dj.lo ho42.ltO hq52
  have hd43_52 := Dj.lo ho43.ltO hq52
  have hd44_52 := Dj.lo ho44.ltO hq52
  have hd45_52 := Dj.lo hb45.ltO hq52
  have hd46_52 := Dj.lo ho46.ltO hq52
  have hd47_52 := Dj.lo ho47.ltO hq52
  have hd48_52 := Dj.lo ho48.ltO hq52
  have hd49_52 := Dj.lo hb49.ltO hq52
  refine ⟨Upd.trans hS hXw34, ?_⟩
  have hS := Upd.trans hS hXw34
  have hB := hB.trans hXw34
  have hb1 := hb1.up hXw34
  have hb2 := hb2.up hXw34
  have ho4 := ho4.up hXw34
  have ho5 := ho5.up hXw34
  have ho6 := ho6.up hXw34
  have hb3 := hb3.up hXw34
  have ho38 := ho38.up hXw34
  have ho39 := ho39.up hXw34
  have ho40 := ho40.up hXw34
  have hb41 := hb41.up hXw34
  have ho42 := ho42.up hXw34
  have ho43 := ho43.up hXw34
  have ho44 := ho44.up hXw34
  have hb45 := hb45.up hXw34
  have ho46 := ho46.up hXw34
  have ho47 := ho47.up hXw34
  have ho48 := ho48.up hXw34
  have hb49 := hb49.up hXw34
  refine HP.must rfl rfl (OpK.callR rfl T.cf31 rfl (c_laws_eqTreeMachine (by first | assumption | exact Rd.up (by assumption) hB | exact Osl.rd (by assumption) | exact Osn.rdR (by assumption)) (by first | assumption | exact Rd.up (by assumption) hB | exact Osl.rd (by assumption) | exact Osn.rdR (by assumption)) (by first | assumption | exact Rd.up (by assumption) hB | exact Osl.rd (by assumption) | exact Osn.rdR (by assumption)) (by first | assumption | exact Rd.up (by assumption) hB | exact Osl.rd (by assumption) | exact Osn.rdR (by assumption)) (by first | assumption | exact Rd.up (by assumption) hB | exact Osl.rd (by assumption) | exact Osn.rdR (by assumption)) (by first | assumption | exact Rd.up (by assumption) hB | exact Osl.rd (by assumption) | exact Osn.rdR (by assumption))) (fun w35 hXw35 => ?_))
  refine ⟨Upd.trans hS hXw35, ?_⟩
  have hS := Upd.trans hS hXw35
  have hB := hB.trans hXw35
  have hb1 := hb1.up hXw35
  have hb2 := hb2.up hXw35
  have ho4 := ho4.up hXw35
  have ho5 := ho5.up hXw35
  have ho6 := ho6.up hXw35
  have hb3 := hb3.up hXw35
  have ho38 := ho38.up hXw35
  have ho39 := ho39.up hXw35
  have ho40 := ho40.up hXw35
  have hb41 := hb41.up hXw35
  have ho42 := ho42.up hXw35
  have ho43 := ho43.up hXw35
  have ho44 := ho44.up hXw35
  have hb45 := hb45.up hXw35
  have ho46 := ho46.up hXw35
  have ho47 := ho47.up hXw35
  have ho48 := ho48.up hXw35
  have hb49 := hb49.up hXw35
  have ho50 := ho50.up hXw35
  have ho51 := ho51.up hXw35
  have ho52 := ho52.up hXw35
  refine HP.take rfl rfl rfl rfl hS (fun wS hS1 => PV.not rfl) ?_
  refine HP.doneS ?_
  refine CW.cond rfl (fun hc5 => ?_) (fun hc5 => ?_)
  · skip
    try simp only [decide_eq_true_eq, decide_eq_false_iff_not, Bool.not_eq_true', Bool.not_eq_false', Bool.not_eq_eq_eq_not, Bool.not_true, Bool.not_false, Int.not_lt, Int.not_le, Classical.not_not, beq_iff_eq, beq_eq_false_iff_ne] at hc5
    refine CW.seq ?_
    refine CW.reg ?_
    refine WL.pure rfl rfl rfl (PV.assign rfl) ?_
    refine WL.nilS ?_
    refine CW.ret ?_
    refine RQ.then ?_
    refine RQ.r1 rfl ?_
    refine ⟨?_, hB⟩
    first | rfl | (exfalso; revert hc5; simp; done) | (exfalso; revert hc5; simp; omega) | (exfalso; omega) | first | rfl | exact bT (by omega) | exact bF (by omega) | exact bD (by omega) | exact iE (by omega) | (simp_all; done) | (simp_all; omega) | (simp_all; intros; omega)
  try simp only [decide_eq_true_eq, decide_eq_false_iff_not, Bool.not_eq_true', Bool.not_eq_false', Bool.not_eq_eq_eq_not, Bool.not_true, Bool.not_false, Int.not_lt, Int.not_le, Classical.not_not, beq_iff_eq, beq_eq_false_iff_ne] at hc5
  refine CW.skipS ?_
  refine CW.seq ?_
  refine CW.seq ?_
  refine CW.draw T.mixed (by kernel_rfl) (fun _ _ _ _ _ h => h) (fun w8 w9 => Upd none w8 w9) 5 (.take 0 (.take 1 (.must 2 (.must 3 (.take 4 .done))))) (by kernel_rfl) (fun w36 hXd => ?_)
  have hB := hB.trans hXd
  have hb1 := hb1.up hXd
  have hb2 := hb2.up hXd
  have ho4 := ho4.up hXd
  have ho5 := ho5.up hXd
  have ho6 := ho6.up hXd
  have hb3 := hb3.up hXd
  have ho38 := ho38.up hXd
  have ho39 := ho39.up hXd
  have ho40 := ho40.up hXd
  have hb41 := hb41.up hXd
  have ho42 := ho42.up hXd
  have ho43 := ho43.up hXd
  have ho44 := ho44.up hXd
  have hb45 := hb45.up hXd
  have ho46 := ho46.up hXd
  have ho47 := ho47.up hXd
  have ho48 := ho48.up hXd
  have hb49 := hb49.up hXd
  have ho50 := ho50.up hXd
  have ho51 := ho51.up hXd
  have ho52 := ho52.up hXd
  have hBr := hB
  have hS : Upd none w36 w36 := Ext.toUpd (Ext.refl _)
  refine HP.take rfl rfl rfl rfl hS (fun wS hS1 => (by first | exact PV.loadA T.ag37 rfl (by first | exact Cells.up (by assumption) (hBr.trans hS1) | exact Bx.cells (Bx.updD (by assumption) hS1 (Dj.nlR _)) | exact Cells.upd (by assumption) hS1 (by simp)) (Ext.refl _) rfl | exact PV.loadP (ds := [_, _, _, _, _]) T.ag37 rfl (by first | exact Cells.up (by assumption) (hBr.trans hS1) | exact Bx.cells (Bx.updD (by assumption) hS1 (Dj.nlR _)) | exact Cells.upd (by assumption) hS1 (by simp)) (Ext.refl _) rfl rfl)) ?_
  refine HP.take rfl rfl rfl rfl hS (fun wS hS1 => (by first | exact PV.loadA T.ag34 rfl (by first | exact Cells.up (by assumption) (hBr.trans hS1) | exact Bx.cells (Bx.updD (by assumption) hS1 (Dj.nlR _)) | exact Cells.upd (by assumption) hS1 (by simp)) (Ext.refl _) rfl | exact PV.loadP (ds := [_, _, _, _, _]) T.ag34 rfl (by first | exact Cells.up (by assumption) (hBr.trans hS1) | exact Bx.cells (Bx.updD (by assumption) hS1 (Dj.nlR _)) | exact Cells.upd (by assumption) hS1 (by simp)) (Ext.refl _) rfl rfl)) ?_
  refine HP.must rfl rfl (OpK.call rfl T.cf29 rfl (c_laws_toTreeMachine (by first | assumption | exact Rd.up (by assumption) hB | exact Osl.rd (by assumption) | exact Osn.rdR (by assumption)) (by first | assumption | exact Rd.up (by assumption) hB | exact Osl.rd (by assumption) | exact Osn.rdR (by assumption)) (by first | assumption | exact Rd.up (by assumption) hB | exact Osl.rd (by assumption) | exact Osn.rdR (by assumption)) (by first | assumption | omega | (simp only [marks_len, marksB_len]; omega)) (by first | assumption | omega | (simp only [marks_len, marksB_len]; omega)) (by first | assumption | omega | (simp only [marks_len, marksB_len]; omega))) (fun rv14 w37 hR => ?_))
  obtain ⟨hXw37, v53, og53, v54, og54, v55, og55, rfl, ho53, hq53, ho54, hq54, ho55, hq55, hd53_54, hd53_55, hd54_55⟩ := hR
  have hl53 := Lo.up hq53 hB
  have hv53 := Lo.up hq53 hS
  have hd1_53 := Dj.lo hb1.ltO hq53
  have hd2_53 := Dj.lo hb2.ltO hq53
  have hd4_53 := Dj.lo ho4.ltO hq53
  have hd5_53 := Dj.lo ho5.ltO hq53
  have hd6_53 := Dj.lo ho6.ltO hq53
  have hd3_53 := Dj.lo hb3.ltO hq53
  have hd38_53 := Dj.lo ho38.ltO hq53
  have hd39_53 := Dj.lo ho39.ltO hq53
  have hd40_53 := Dj.lo ho40.ltO hq53
  have hd41_53 := Dj.lo hb41.ltO hq53
  have hd42_53 := Dj.lo ho42.ltO hq53
  have hd43_53 := Dj.lo ho43.ltO hq53
  have hd44_53 := Dj.lo ho44.ltO hq53
  have hd45_53 := Dj.lo hb45.ltO hq53
  have hd46_53 := Dj.lo ho46.ltO hq53
  have hd47_53 := Dj.lo ho47.ltO hq53
  have hd48_53 := Dj.lo ho48.ltO hq53
  have hd49_53 := Dj.lo hb49.ltO hq53
  have hd50_53 := Dj.lo ho50.ltO hq53
  have hd51_53 := Dj.lo ho51.ltO hq53
  have hd52_53 := Dj.lo ho52.ltO hq53
  have hl54 := Lo.up hq54 hB
  have hv54 := Lo.up hq54 hS
  have hd1_54 := Dj.lo hb1.ltO hq54
  have hd2_54 := Dj.lo hb2.ltO hq54
  have hd4_54 := Dj.lo ho4.ltO hq54
  have hd5_54 := Dj.lo ho5.ltO hq54
  have hd6_54 := Dj.lo ho6.ltO hq54
  have hd3_54 := Dj.lo hb3.ltO hq54
  have hd38_54 := Dj.lo ho38.ltO hq54
  have hd39_54 := Dj.lo ho39.ltO hq54
  have hd40_54 := Dj.lo ho40.ltO hq54
  have hd41_54 := Dj.lo hb41.ltO hq54
  have hd42_54 := Dj.lo ho42.ltO hq54
  have hd43_54 := Dj.lo ho43.ltO hq54
  have hd44_54 := Dj.lo ho44.ltO hq54
  have hd45_54 := Dj.lo hb45.ltO hq54
  have hd46_54 := Dj.lo ho46.ltO hq54
  have hd47_54 := Dj.lo ho47.ltO hq54
  have hd48_54 := Dj.lo ho48.ltO hq54
  have hd49_54 := Dj.lo hb49.ltO hq54
  have hd50_54 := Dj.lo ho50.ltO hq54
  have hd51_54 := Dj.lo ho51.ltO hq54
  have hd52_54 := Dj.lo ho52.ltO hq54
  have hl55 := Lo.up hq55 hB
  have hv55 := Lo.up hq55 hS
  have hd1_55 := Dj.lo hb1.ltO hq55
  have hd2_55 := Dj.lo hb2.ltO hq55
  have hd4_55 := Dj.lo ho4.ltO hq55
  have hd5_55 := Dj.lo ho5.ltO hq55
  have hd6_55 := Dj.lo ho6.ltO hq55
  have hd3_55 := Dj.lo hb3.ltO hq55
  have hd38_55 := Dj.lo ho38.ltO hq55
  have hd39_55 := Dj.lo ho39.ltO hq55
  have hd40_55 := Dj.lo ho40.ltO hq55
  have hd41_55 := Dj.lo hb41.ltO hq55
  have hd42_55 := Dj.lo ho42.ltO hq55
  have hd43_55 := Dj.lo ho43.ltO hq55
  have hd44_55 := Dj.lo ho44.ltO hq55
  have hd45_55 := Dj.lo hb45.ltO hq55
  have hd46_55 := Dj.lo ho46.ltO hq55
  have hd47_55 := Dj.lo ho47.ltO hq55
  have hd48_55 := Dj.lo ho48.ltO hq55
  have hd49_55 := Dj.lo hb49.ltO hq55
  have hd50_55 := Dj.lo ho50.ltO hq55
  have hd51_55 := Dj.lo ho51.ltO hq55
  have hd52_55 := Dj.lo ho52.ltO hq55
  refine ⟨Upd.trans hS hXw37, ?_⟩
  have hS := Upd.trans hS hXw37
  have hB := hB.trans hXw37
  have hb1 := hb1.up hXw37
  have hb2 := hb2.up hXw37
  have ho4 := ho4.up hXw37
  have ho5 := ho5.up hXw37
  have ho6 := ho6.up hXw37
  have hb3 := hb3.up hXw37
  have ho38 := ho38.up hXw37
  have ho39 := ho39.up hXw37
  have ho40 := ho40.up hXw37
  have hb41 := hb41.up hXw37
  have ho42 := ho42.up hXw37
  have ho43 := ho43.up hXw37
  have ho44 := ho44.up hXw37
  have hb45 := hb45.up hXw37
  have ho46 := ho46.up hXw37
  have ho47 := ho47.up hXw37
  have ho48 := ho48.up hXw37
  have hb49 := hb49.up hXw37
  have ho50 := ho50.up hXw37
  have ho51 := ho51.up hXw37
  have ho52 := ho52.up hXw37
  refine HP.must rfl rfl (OpK.callR rfl T.cf31 rfl (c_laws_eqTreeMachine (by first | assumption | exact Rd.up (by assumption) hB | exact Osl.rd (by assumption) | exact Osn.rdR (by assumption)) (by first | assumption | exact Rd.up (by assumption) hB | exact Osl.rd (by assumption) | exact Osn.rdR (by assumption)) (by first | assumption | exact Rd.up (by assumption) hB | exact Osl.rd (by assumption) | exact Osn.rdR (by assumption)) (by first | assumption | exact Rd.up (by assumption) hB | exact Osl.rd (by assumption) | exact Osn.rdR (by assumption)) (by first | assumption | exact Rd.up (by assumption) hB | exact Osl.rd (by assumption) | exact Osn.rdR (by assumption)) (by first | assumption | exact Rd.up (by assumption) hB | exact Osl.rd (by assumption) | exact Osn.rdR (by assumption))) (fun w38 hXw38 => ?_))
  refine ⟨Upd.trans hS hXw38, ?_⟩
  have hS := Upd.trans hS hXw38
  have hB := hB.trans hXw38
  have hb1 := hb1.up hXw38
  have hb2 := hb2.up hXw38
  have ho4 := ho4.up hXw38
  have ho5 := ho5.up hXw38
  have ho6 := ho6.up hXw38
  have hb3 := hb3.up hXw38
  have ho38 := ho38.up hXw38
  have ho39 := ho39.up hXw38
  have ho40 := ho40.up hXw38
  have hb41 := hb41.up hXw38
  have ho42 := ho42.up hXw38
  have ho43 := ho43.up hXw38
  have ho44 := ho44.up hXw38
  have hb45 := hb45.up hXw38
  have ho46 := ho46.up hXw38
  have ho47 := ho47.up hXw38
  have ho48 := ho48.up hXw38
  have hb49 := hb49.up hXw38
  have ho50 := ho50.up hXw38
  have ho51 := ho51.up hXw38
  have ho52 := ho52.up hXw38
  have ho53 := ho53.up hXw38
  have ho54 := ho54.up hXw38
  have ho55 := ho55.up hXw38
  refine HP.take rfl rfl rfl rfl hS (fun wS hS1 => PV.not rfl) ?_
  refine HP.doneS ?_
  refine CW.cond rfl (fun hc6 => ?_) (fun hc6 => ?_)
  · skip
    try simp only [decide_eq_true_eq, decide_eq_false_iff_not, Bool.not_eq_true', Bool.not_eq_false', Bool.not_eq_eq_eq_not, Bool.not_true, Bool.not_false, Int.not_lt, Int.not_le, Classical.not_not, beq_iff_eq, beq_eq_false_iff_ne] at hc6
    refine CW.seq ?_
    refine CW.reg ?_
    refine WL.pure rfl rfl rfl (PV.assign rfl) ?_
    refine WL.nilS ?_
    refine CW.ret ?_
    refine RQ.then ?_
    refine RQ.r1 rfl ?_
    refine ⟨?_, hB⟩
    first | rfl | (exfalso; revert hc6; simp; done) | (exfalso; revert hc6; simp; omega) | (exfalso; omega) | first | rfl | exact bT (by omega) | exact bF (by omega) | exact bD (by omega) | exact iE (by omega) | (simp_all; done) | (simp_all; omega) | (simp_all; intros; omega)
  try simp only [decide_eq_true_eq, decide_eq_false_iff_not, Bool.not_eq_true', Bool.not_eq_false', Bool.not_eq_eq_eq_not, Bool.not_true, Bool.not_false, Int.not_lt, Int.not_le, Classical.not_not, beq_iff_eq, beq_eq_false_iff_ne] at hc6
  refine CW.skipS ?_
  refine CW.seq ?_
  refine CW.reg ?_
  refine WL.pure rfl rfl rfl (PV.assign rfl) ?_
  refine WL.nilS ?_
  refine CW.seq ?_
  refine CW.reg ?_
  refine WL.pure rfl rfl rfl ((by first | exact PV.loadA T.ag37 rfl (by first | exact Cells.up (by assumption) hB | exact Bx.cells (by assumption) | assumption) (Ext.refl _) rfl | exact PV.loadP (ds := [_, _, _, _, _]) T.ag37 rfl (by first | exact Cells.up (by assumption) hB | exact Bx.cells (by assumption) | assumption) (Ext.refl _) rfl rfl)) ?_
  refine WL.pure rfl rfl rfl (PV.move rfl) ?_
  refine WL.op rfl (OpK.call rfl T.cf40 rfl (c_laws_markTreeMachine (by first | assumption | exact Dj.symm (by assumption)) (by first | assumption | exact Dj.symm (by assumption)) (by first | assumption | exact Dj.symm (by assumption)) (by first | assumption | exact Dj.symm (by assumption)) (by first | assumption | exact Dj.symm (by assumption)) (by first | assumption | exact Dj.symm (by assumption)) (by first | assumption | omega | (simp only [marks_len, marksB_len]; omega))) (fun rv15 w39 hR => ?_))
  obtain ⟨rfl, hUC56, ho38, ho39, ho40⟩ := hR
  have hb1 := hb1.loop hUC56 ⟨hd1_38, hd1_39, hd1_40, trivial⟩
  have hb2 := hb2.loop hUC56 ⟨hd2_38, hd2_39, hd2_40, trivial⟩
  have ho4 := ho4.loop hUC56 ⟨hd4_38, hd4_39, hd4_40, trivial⟩
  have ho5 := ho5.loop hUC56 ⟨hd5_38, hd5_39, hd5_40, trivial⟩
  have ho6 := ho6.loop hUC56 ⟨hd6_38, hd6_39, hd6_40, trivial⟩
  have hb3 := hb3.loop hUC56 ⟨hd3_38, hd3_39, hd3_40, trivial⟩
  have hb41 := hb41.loop hUC56 ⟨(Dj.symm hd38_41), (Dj.symm hd39_41), (Dj.symm hd40_41), trivial⟩
  have ho42 := ho42.loop hUC56 ⟨(Dj.symm hd38_42), (Dj.symm hd39_42), (Dj.symm hd40_42), trivial⟩
  have ho43 := ho43.loop hUC56 ⟨(Dj.symm hd38_43), (Dj.symm hd39_43), (Dj.symm hd40_43), trivial⟩
  have ho44 := ho44.loop hUC56 ⟨(Dj.symm hd38_44), (Dj.symm hd39_44), (Dj.symm hd40_44), trivial⟩
  have hb45 := hb45.loop hUC56 ⟨(Dj.symm hd38_45), (Dj.symm hd39_45), (Dj.symm hd40_45), trivial⟩
  have ho46 := ho46.loop hUC56 ⟨(Dj.symm hd38_46), (Dj.symm hd39_46), (Dj.symm hd40_46), trivial⟩
  have ho47 := ho47.loop hUC56 ⟨(Dj.symm hd38_47), (Dj.symm hd39_47), (Dj.symm hd40_47), trivial⟩
  have ho48 := ho48.loop hUC56 ⟨(Dj.symm hd38_48), (Dj.symm hd39_48), (Dj.symm hd40_48), trivial⟩
  have hb49 := hb49.loop hUC56 ⟨(Dj.symm hd38_49), (Dj.symm hd39_49), (Dj.symm hd40_49), trivial⟩
  have ho50 := ho50.loop hUC56 ⟨(Dj.symm hd38_50), (Dj.symm hd39_50), (Dj.symm hd40_50), trivial⟩
  have ho51 := ho51.loop hUC56 ⟨(Dj.symm hd38_51), (Dj.symm hd39_51), (Dj.symm hd40_51), trivial⟩
  have ho52 := ho52.loop hUC56 ⟨(Dj.symm hd38_52), (Dj.symm hd39_52), (Dj.symm hd40_52), trivial⟩
  have ho53 := ho53.loop hUC56 ⟨(Dj.symm hd38_53), (Dj.symm hd39_53), (Dj.symm hd40_53), trivial⟩
  have ho54 := ho54.loop hUC56 ⟨(Dj.symm hd38_54), (Dj.symm hd39_54), (Dj.symm hd40_54), trivial⟩
  have ho55 := ho55.loop hUC56 ⟨(Dj.symm hd38_55), (Dj.symm hd39_55), (Dj.symm hd40_55), trivial⟩
  have hB := hB.loop hUC56 ⟨hl38, hl39, hl40, trivial⟩
  refine WL.pure rfl rfl rfl (PV.assign rfl) ?_
  refine WL.nilS ?_
  refine CW.seq ?_
  refine CW.reg ?_
  refine WL.pure rfl rfl rfl ((by first | exact PV.loadA T.ag37 rfl (by first | exact Cells.up (by assumption) hB | exact Bx.cells (by assumption) | assumption) (Ext.refl _) rfl | exact PV.loadP (ds := [_, _, _, _, _]) T.ag37 rfl (by first | exact Cells.up (by assumption) hB | exact Bx.cells (by assumption) | assumption) (Ext.refl _) rfl rfl)) ?_
  refine WL.pure rfl rfl rfl (PV.move rfl) ?_
  refine WL.op rfl (OpK.call rfl T.cf40 rfl (c_laws_markTreeMachine (by first | assumption | exact Dj.symm (by assumption)) (by first | assumption | exact Dj.symm (by assumption)) (by first | assumption | exact Dj.symm (by assumption)) (by first | assumption | exact Dj.symm (by assumption)) (by first | assumption | exact Dj.symm (by assumption)) (by first | assumption | exact Dj.symm (by assumption)) (by first | assumption | omega | (simp only [marks_len, marksB_len]; omega))) (fun rv16 w40 hR => ?_))
  obtain ⟨rfl, hUC57, ho42, ho43, ho44⟩ := hR
  have hb1 := hb1.loop hUC57 ⟨hd1_42, hd1_43, hd1_44, trivial⟩
  have hb2 := hb2.loop hUC57 ⟨hd2_42, hd2_43, hd2_44, trivial⟩
  have ho4 := ho4.loop hUC57 ⟨hd4_42, hd4_43, hd4_44, trivial⟩
  have ho5 := ho5.loop hUC57 ⟨hd5_42, hd5_43, hd5_44, trivial⟩
  have ho6 := ho6.loop hUC57 ⟨hd6_42, hd6_43, hd6_44, trivial⟩
  have hb3 := hb3.loop hUC57 ⟨hd3_42, hd3_43, hd3_44, trivial⟩
  have ho38 := ho38.loop hUC57 ⟨hd38_42, hd38_43, hd38_44, trivial⟩
  have ho39 := ho39.loop hUC57 ⟨hd39_42, hd39_43, hd39_44, trivial⟩
  have ho40 := ho40.loop hUC57 ⟨hd40_42, hd40_43, hd40_44, trivial⟩
  have hb41 := hb41.loop hUC57 ⟨hd41_42, hd41_43, hd41_44, trivial⟩
  have hb45 := hb45.loop hUC57 ⟨(Dj.symm hd42_45), (Dj.symm hd43_45), (Dj.symm hd44_45), trivial⟩
  have ho46 := ho46.loop hUC57 ⟨(Dj.symm hd42_46), (Dj.symm hd43_46), (Dj.symm hd44_46), trivial⟩
  have ho47 := ho47.loop hUC57 ⟨(Dj.symm hd42_47), (Dj.symm hd43_47), (Dj.symm hd44_47), trivial⟩
  have ho48 := ho48.loop hUC57 ⟨(Dj.symm hd42_48), (Dj.symm hd43_48), (Dj.symm hd44_48), trivial⟩
  have hb49 := hb49.loop hUC57 ⟨(Dj.symm hd42_49), (Dj.symm hd43_49), (Dj.symm hd44_49), trivial⟩
  have ho50 := ho50.loop hUC57 ⟨(Dj.symm hd42_50), (Dj.symm hd43_50), (Dj.symm hd44_50), trivial⟩
  have ho51 := ho51.loop hUC57 ⟨(Dj.symm hd42_51), (Dj.symm hd43_51), (Dj.symm hd44_51), trivial⟩
  have ho52 := ho52.loop hUC57 ⟨(Dj.symm hd42_52), (Dj.symm hd43_52), (Dj.symm hd44_52), trivial⟩
  have ho53 := ho53.loop hUC57 ⟨(Dj.symm hd42_53), (Dj.symm hd43_53), (Dj.symm hd44_53), trivial⟩
  have ho54 := ho54.loop hUC57 ⟨(Dj.symm hd42_54), (Dj.symm hd43_54), (Dj.symm hd44_54), trivial⟩
  have ho55 := ho55.loop hUC57 ⟨(Dj.symm hd42_55), (Dj.symm hd43_55), (Dj.symm hd44_55), trivial⟩
  have hB := hB.loop hUC57 ⟨hl42, hl43, hl44, trivial⟩
  refine WL.pure rfl rfl rfl (PV.assign rfl) ?_
  refine WL.nilS ?_
  refine CW.seq ?_
  refine CW.seq ?_
  refine CW.reg ?_
  refine WL.pure rfl rfl rfl (PV.move rfl) ?_
  refine WL.pure rfl rfl rfl (PV.lss rfl rfl) ?_
  refine WL.pure rfl rfl rfl (PV.move rfl) ?_
  refine WL.split (t := 72) rfl (fun hc7 => ?_) (fun hc7 => ?_)
  · skip
    try simp only [decide_eq_true_eq, decide_eq_false_iff_not, Bool.not_eq_true', Bool.not_eq_false', Bool.not_eq_eq_eq_not, Bool.not_true, Bool.not_false, Int.not_lt, Int.not_le, Classical.not_not, beq_iff_eq, beq_eq_false_iff_ne] at hc7
    refine WL.skip rfl rfl rfl rfl rfl ?_
    refine WL.skip rfl rfl rfl rfl rfl ?_
    refine WL.skip rfl rfl rfl rfl rfl ?_
    refine WL.skip rfl rfl rfl rfl rfl ?_
    refine WL.pure rfl rfl rfl (PV.pickT rfl rfl) ?_
    refine WL.pure rfl rfl rfl (PV.move rfl) ?_
    refine WL.skip rfl rfl rfl rfl rfl ?_
    refine WL.skip rfl rfl rfl rfl rfl ?_
    refine WL.skip rfl rfl rfl rfl rfl ?_
    refine WL.pure rfl rfl rfl (PV.pickT rfl rfl) ?_
    refine WL.nilS ?_
    refine CW.condT rfl ?_
    refine CW.seq ?_
    refine CW.reg ?_
    refine WL.pure rfl rfl rfl (PV.assign rfl) ?_
    refine WL.nilS ?_
    refine CW.ret ?_
    refine RQ.then ?_
    refine RQ.r1 rfl ?_
    refine ⟨?_, hB⟩
    first | rfl | (exfalso; revert hc7; simp; done) | (exfalso; revert hc7; simp; omega) | (exfalso; omega) | first | rfl | exact bT (by omega) | exact bF (by omega) | exact bD (by omega) | exact iE (by omega) | (simp_all; done) | (simp_all; omega) | (simp_all; intros; omega)
  try simp only [decide_eq_true_eq, decide_eq_false_iff_not, Bool.not_eq_true', Bool.not_eq_false', Bool.not_eq_eq_eq_not, Bool.not_true, Bool.not_false, Int.not_lt, Int.not_le, Classical.not_not, beq_iff_eq, beq_eq_false_iff_ne] at hc7
  refine WL.pureG rfl rfl rfl rfl rfl ((by first | exact PV.loadA T.ag37 rfl (by first | exact Cells.up (by assumption) hB | exact Bx.cells (by assumption) | assumption) (Ext.refl _) rfl | exact PV.loadP (ds := [_, _, _, _, _]) T.ag37 rfl (by first | exact Cells.up (by assumption) hB | exact Bx.cells (by assumption) | assumption) (Ext.refl _) rfl rfl)) ?_
  refine WL.pureG rfl rfl rfl rfl rfl ((by first | exact PV.loadA T.ag37 rfl (by first | exact Cells.up (by assumption) hB | exact Bx.cells (by assumption) | assumption) (Ext.refl _) rfl | exact PV.loadP (ds := [_, _, _, _, _]) T.ag37 rfl (by first | exact Cells.up (by assumption) hB | exact Bx.cells (by assumption) | assumption) (Ext.refl _) rfl rfl)) ?_
  refine WL.opG rfl rfl rfl (OpK.callR rfl T.cf31 rfl (c_laws_eqTreeMachine (by first | assumption | exact Rd.up (by assumption) hB | exact Osl.rd (by assumption) | exact Osn.rdR (by assumption)) (by first | assumption | exact Rd.up (by assumption) hB | exact Osl.rd (by assumption) | exact Osn.rdR (by assumption)) (by first | assumption | exact Rd.up (by assumption) hB | exact Osl.rd (by assumption) | exact Osn.rdR (by assumption)) (by first | assumption | exact Rd.up (by assumption) hB | exact Osl.rd (by assumption) | exact Osn.rdR (by assumption)) (by first | assumption | exact Rd.up (by assumption) hB | exact Osl.rd (by assumption) | exact Osn.rdR (by assumption)) (by first | assumption | exact Rd.up (by assumption) hB | exact Osl.rd (by assumption) | exact Osn.rdR (by assumption))) (fun w41 hXw41 => ?_))
  have hB := hB.trans hXw41
  have hb1 := hb1.up hXw41
  have hb2 := hb2.up hXw41
  have ho4 := ho4.up hXw41
  have ho5 := ho5.up hXw41
  have ho6 := ho6.up hXw41
  have hb3 := hb3.up hXw41
  have ho38 := ho38.up hXw41
  have ho39 := ho39.up hXw41
  have ho40 := ho40.up hXw41
  have hb41 := hb41.up hXw41
  have ho42 := ho42.up hXw41
  have ho43 := ho43.up hXw41
  have ho44 := ho44.up hXw41
  have hb45 := hb45.up hXw41
  have ho46 := ho46.up hXw41
  have ho47 := ho47.up hXw41
  have ho48 := ho48.up hXw41
  have hb49 := hb49.up hXw41
  have ho50 := ho50.up hXw41
  have ho51 := ho51.up hXw41
  have ho52 := ho52.up hXw41
  have ho53 := ho53.up hXw41
  have ho54 := ho54.up hXw41
  have ho55 := ho55.up hXw41
  refine WL.pureG rfl rfl rfl rfl rfl (PV.not rfl) ?_
  refine WL.pure rfl rfl rfl (PV.pickF rfl rfl) ?_
  refine WL.pure rfl rfl rfl (PV.move rfl) ?_
  refine WL.split (t := 78) rfl (fun hc8 => ?_) (fun hc8 => ?_)
  · skip
    try simp only [decide_eq_true_eq, decide_eq_false_iff_not, Bool.not_eq_true', Bool.not_eq_false', Bool.not_eq_eq_eq_not, Bool.not_true, Bool.not_false, Int.not_lt, Int.not_le, Classical.not_not, beq_iff_eq, beq_eq_false_iff_ne] at hc8
    refine WL.skip rfl rfl rfl rfl rfl ?_
    refine WL.skip rfl rfl rfl rfl rfl ?_
    refine WL.skip rfl rfl rfl rfl rfl ?_
    refine WL.pure rfl rfl rfl (PV.pickT rfl rfl) ?_
    refine WL.nilS ?_
    refine CW.condT rfl ?_
    refine CW.seq ?_
    refine CW.reg ?_
    refine WL.pure rfl rfl rfl (PV.assign rfl) ?_
    refine WL.nilS ?_
    refine CW.ret ?_
    refine RQ.then ?_
    refine RQ.r1 rfl ?_
    refine ⟨?_, hB⟩
    first | rfl | (exfalso; revert hc8; simp; done) | (exfalso; revert hc8; simp; omega) | (exfalso; omega) | first | rfl | exact bT (by omega) | exact bF (by omega) | exact bD (by omega) | exact iE (by omega) | (simp_all; done) | (simp_all; omega) | (simp_all; intros; omega)
  try simp only [decide_eq_true_eq, decide_eq_false_iff_not, Bool.not_eq_true', Bool.not_eq_false', Bool.not_eq_eq_eq_not, Bool.not_true, Bool.not_false, Int.not_lt, Int.not_le, Classical.not_not, beq_iff_eq, beq_eq_false_iff_ne] at hc8
  refine WL.pureG rfl rfl rfl rfl rfl (PV.move rfl) ?_
  refine WL.pureG rfl rfl rfl rfl rfl (PV.move rfl) ?_
  refine WL.pureG rfl rfl rfl rfl rfl (PV.neqB T.bl4 rfl rfl) ?_
  refine WL.pure rfl rfl rfl (PV.pickF rfl rfl) ?_
  refine WL.nilS ?_
  refine CW.cond rfl (fun hc9 => ?_) (fun hc9 => ?_)
  · skip
    try simp only [decide_eq_true_eq, decide_eq_false_iff_not, Bool.not_eq_true', Bool.not_eq_false', Bool.not_eq_eq_eq_not, Bool.not_true, Bool.not_false, Int.not_lt, Int.not_le, Classical.not_not, beq_iff_eq, beq_eq_false_iff_ne] at hc9
    refine CW.seq ?_
    refine CW.reg ?_
    refine WL.pure rfl rfl rfl (PV.assign rfl) ?_
    refine WL.nilS ?_
    refine CW.ret ?_
    refine RQ.then ?_
    refine RQ.r1 rfl ?_
    refine ⟨?_, hB⟩
    first | rfl | (exfalso; revert hc9; simp; done) | (exfalso; revert hc9; simp; omega) | (exfalso; omega) | first | rfl | exact bT (by omega) | exact bF (by omega) | exact bD (by omega) | exact iE (by omega) | (simp_all; done) | (simp_all; omega) | (simp_all; intros; omega)
  try simp only [decide_eq_true_eq, decide_eq_false_iff_not, Bool.not_eq_true', Bool.not_eq_false', Bool.not_eq_eq_eq_not, Bool.not_true, Bool.not_false, Int.not_lt, Int.not_le, Classical.not_not, beq_iff_eq, beq_eq_false_iff_ne] at hc9
  refine CW.skipS ?_
  refine CW.seq ?_
  refine CW.reg ?_
  refine WL.pure rfl rfl rfl (PV.assign rfl) ?_
  refine WL.nilS ?_
  refine CW.seq ?_
  refine CW.reg ?_
  refine WL.pure rfl rfl rfl ((by first | exact PV.loadA T.ag37 rfl (by first | exact Cells.up (by assumption) hB | exact Bx.cells (by assumption) | assumption) (Ext.refl _) rfl | exact PV.loadP (ds := [_, _, _, _, _]) T.ag37 rfl (by first | exact Cells.up (by assumption) hB | exact Bx.cells (by assumption) | assumption) (Ext.refl _) rfl rfl)) ?_
  refine WL.pure rfl rfl rfl (PV.move rfl) ?_
  refine WL.op rfl (OpK.call rfl T.cf40 rfl (c_laws_markTreeMachine (by first | assumption | exact Dj.symm (by assumption)) (by first | assumption | exact Dj.symm (by assumption)) (by first | assumption | exact Dj.symm (by assumption)) (by first | assumption | exact Dj.symm (by assumption)) (by first | assumption | exact Dj.symm (by assumption)) (by first | assumption | exact Dj.symm (by assumption)) (by first | assumption | omega | (simp only [marks_len, marksB_len]; omega))) (fun rv17 w42 hR => ?_))
  obtain ⟨rfl, hUC58, ho46, ho47, ho48⟩ := hR
  have hb1 := hb1.loop hUC58 ⟨hd1_46, hd1_47, hd1_48, trivial⟩
  have hb2 := hb2.loop hUC58 ⟨hd2_46, hd2_47, hd2_48, trivial⟩
  have ho4 := ho4.loop hUC58 ⟨hd4_46, hd4_47, hd4_48, trivial⟩
  have ho5 := ho5.loop hUC58 ⟨hd5_46, hd5_47, hd5_48, trivial⟩
  have ho6 := ho6.loop hUC58 ⟨hd6_46, hd6_47, hd6_48, trivial⟩
  have hb3 := hb3.loop hUC58 ⟨hd3_46, hd3_47, hd3_48, trivial⟩
  have ho38 := ho38.loop hUC58 ⟨hd38_46, hd38_47, hd38_48, trivial⟩
  have ho39 := ho39.loop hUC58 ⟨hd39_46, hd39_47, hd39_48, trivial⟩
  have ho40 := ho40.loop hUC58 ⟨hd40_46, hd40_47, hd40_48, trivial⟩
  have hb41 := hb41.loop hUC58 ⟨hd41_46, hd41_47, hd41_48, trivial⟩
  have ho42 := ho42.loop hUC58 ⟨hd42_46, hd42_47, hd42_48, trivial⟩
  have ho43 := ho43.loop hUC58 ⟨hd43_46, hd43_47, hd43_48, trivial⟩
  have ho44 := ho44.loop hUC58 ⟨hd44_46, hd44_47, hd44_48, trivial⟩
  have hb45 := hb45.loop hUC58 ⟨hd45_46, hd45_47, hd45_48, trivial⟩
  have hb49 := hb49.loop hUC58 ⟨(Dj.symm hd46_49), (Dj.symm hd47_49), (Dj.symm hd48_49), trivial⟩
  have ho50 := ho50.loop hUC58 ⟨(Dj.symm hd46_50), (Dj.symm hd47_50), (Dj.symm hd48_50), trivial⟩
  have ho51 := ho51.loop hUC58 ⟨(Dj.symm hd46_51), (Dj.symm hd47_51), (Dj.symm hd48_51), trivial⟩
  have ho52 := ho52.loop hUC58 ⟨(Dj.symm hd46_52), (Dj.symm hd47_52), (Dj.symm hd48_52), trivial⟩
  have ho53 := ho53.loop hUC58 ⟨(Dj.symm hd46_53), (Dj.symm hd47_53), (Dj.symm hd48_53), trivial⟩
  have ho54 := ho54.loop hUC58 ⟨(Dj.symm hd46_54), (Dj.symm hd47_54), (Dj.symm hd48_54), trivial⟩
  have ho55 := ho55.loop hUC58 ⟨(Dj.symm hd46_55), (Dj.symm hd47_55), (Dj.symm hd48_55), trivial⟩
  have hB := hB.loop hUC58 ⟨hl46, hl47, hl48, trivial⟩
  refine WL.pure rfl rfl rfl (PV.assign rfl) ?_
  refine WL.nilS ?_
  refine CW.seq ?_
  refine CW.reg ?_
  refine WL.pure rfl rfl rfl (PV.assign rfl) ?_
  refine WL.nilS ?_
  refine CW.seq ?_
  refine CW.reg ?_
  refine WL.pure rfl rfl rfl ((by first | exact PV.loadA T.ag37 rfl (by first | exact Cells.up (by assumption) hB | exact Bx.cells (by assumption) | assumption) (Ext.refl _) rfl | exact PV.loadP (ds := [_, _, _, _, _]) T.ag37 rfl (by first | exact Cells.up (by assumption) hB | exact Bx.cells (by assumption) | assumption) (Ext.refl _) rfl rfl)) ?_
  refine WL.pure rfl rfl rfl (PV.move rfl) ?_
  refine WL.op rfl (OpK.callR rfl T.cf41 rfl (c_laws_heldTreeMachine (by first | assumption | exact Rd.up (by assumption) hB | exact Osl.rd (by assumption) | exact Osn.rdR (by assumption)) (by first | assumption | exact Rd.up (by assumption) hB | exact Osl.rd (by assumption) | exact Osn.rdR (by assumption)) (by first | assumption | exact Rd.up (by assumption) hB | exact Osl.rd (by assumption) | exact Osn.rdR (by assumption)) (by first | assumption | omega | (simp only [marks_len, marksB_len]; omega))) (fun w43 hXw43 => ?_))
  have hB := hB.trans hXw43
  have hb1 := hb1.up hXw43
  have hb2 := hb2.up hXw43
  have ho4 := ho4.up hXw43
  have ho5 := ho5.up hXw43
  have ho6 := ho6.up hXw43
  have hb3 := hb3.up hXw43
  have ho38 := ho38.up hXw43
  have ho39 := ho39.up hXw43
  have ho40 := ho40.up hXw43
  have hb41 := hb41.up hXw43
  have ho42 := ho42.up hXw43
  have ho43 := ho43.up hXw43
  have ho44 := ho44.up hXw43
  have hb45 := hb45.up hXw43
  have ho46 := ho46.up hXw43
  have ho47 := ho47.up hXw43
  have ho48 := ho48.up hXw43
  have hb49 := hb49.up hXw43
  have ho50 := ho50.up hXw43
  have ho51 := ho51.up hXw43
  have ho52 := ho52.up hXw43
  have ho53 := ho53.up hXw43
  have ho54 := ho54.up hXw43
  have ho55 := ho55.up hXw43
  refine WL.pure rfl rfl rfl (PV.assign rfl) ?_
  refine WL.nilS ?_
  refine CW.seq ?_
  refine CW.seq ?_
  refine CW.reg ?_
  refine WL.pure rfl rfl rfl (PV.move rfl) ?_
  refine WL.pure rfl rfl rfl (PV.lss rfl rfl) ?_
  refine WL.nilS ?_
  refine CW.cond rfl (fun hc10 => ?_) (fun hc10 => ?_)
  · skip
    try simp only [decide_eq_true_eq, decide_eq_false_iff_not, Bool.not_eq_true', Bool.not_eq_false', Bool.not_eq_eq_eq_not, Bool.not_true, Bool.not_false, Int.not_lt, Int.not_le, Classical.not_not, beq_iff_eq, beq_eq_false_iff_ne] at hc10
    refine CW.seq ?_
    refine CW.reg ?_
    refine WL.pure rfl rfl rfl (PV.assign rfl) ?_
    refine WL.nilS ?_
    refine CW.ret ?_
    refine RQ.then ?_
    refine RQ.r1 rfl ?_
    refine ⟨?_, hB⟩
    first | rfl | (exfalso; revert hc10; simp; done) | (exfalso; revert hc10; simp; omega) | (exfalso; omega) | first | rfl | exact bT (by omega) | exact bF (by omega) | exact bD (by omega) | exact iE (by omega) | (simp_all; done) | (simp_all; omega) | (simp_all; intros; omega)
  try simp only [decide_eq_true_eq, decide_eq_false_iff_not, Bool.not_eq_true', Bool.not_eq_false', Bool.not_eq_eq_eq_not, Bool.not_true, Bool.not_false, Int.not_lt, Int.not_le, Classical.not_not, beq_iff_eq, beq_eq_false_iff_ne] at hc10
  refine CW.skipS ?_
  refine CW.seq ?_
  refine CW.seq ?_
  refine CW.reg ?_
  refine WL.pure rfl rfl rfl (PV.move rfl) ?_
  refine WL.pure rfl rfl rfl (PV.move rfl) ?_
  refine WL.pure rfl rfl rfl (PV.neq rfl rfl) ?_
  refine WL.nilS ?_
  refine CW.cond rfl (fun hc11 => ?_) (fun hc11 => ?_)
  · skip
    try simp only [decide_eq_true_eq, decide_eq_false_iff_not, Bool.not_eq_true', Bool.not_eq_false', Bool.not_eq_eq_eq_not, Bool.not_true, Bool.not_false, Int.not_lt, Int.not_le, Classical.not_not, beq_iff_eq, beq_eq_false_iff_ne] at hc11
    refine CW.seq ?_
    refine CW.reg ?_
    refine WL.pure rfl rfl rfl (PV.assign rfl) ?_
    refine WL.nilS ?_
    refine CW.ret ?_
    refine RQ.then ?_
    refine RQ.r1 rfl ?_
    refine ⟨?_, hB⟩
    first | rfl | (exfalso; revert hc11; simp; done) | (exfalso; revert hc11; simp; omega) | (exfalso; omega) | first | rfl | exact bT (by omega) | exact bF (by omega) | exact bD (by omega) | exact iE (by omega) | (simp_all; done) | (simp_all; omega) | (simp_all; intros; omega)
  try simp only [decide_eq_true_eq, decide_eq_false_iff_not, Bool.not_eq_true', Bool.not_eq_false', Bool.not_eq_eq_eq_not, Bool.not_true, Bool.not_false, Int.not_lt, Int.not_le, Classical.not_not, beq_iff_eq, beq_eq_false_iff_ne] at hc11
  refine CW.skipS ?_
  refine CW.cut (σk := [(6, _), (7, _), (10, _), (13, _)]) (fun ρ wz => ∃ (v60 : Value) (og60 : Option Nat) (v61 : Value) (og61 : Option Nat) (v62 : Value) (og62 : Option Nat) (b59 : Addr), ρ = [(15, .pointer (some b59)), (16, .bool (meetB a0 a1 y0 y1 xa2 xa3 xy2 xy3 xa4 xy4))] ∧ Ext w43 wz ∧ Osl VI wz og60 v60 (onT (meetB a0 a1 y0 y1 xa2 xa3 xy2 xy3 xa4 xy4) (mapR (leafM y0 xa2 xy2) a1.toNat)) ∧ Lo w og60 ∧ Osl VI wz og61 v61 (onT (meetB a0 a1 y0 y1 xa2 xa3 xy2 xy3 xa4 xy4) (rowsM (a0 * y0).toNat (nextM a0 y0 xa3 xy3) (a0 * y0).toNat)) ∧ Lo w og61 ∧ Osl VB wz og62 v62 (onT (meetB a0 a1 y0 y1 xa2 xa3 xy2 xy3 xa4 xy4) (mapR (endM y0 xa4 xy4) (a0 * y0).toNat)) ∧ Lo w og62 ∧ Bx wz b59 [.int .i64 (onI (meetB a0 a1 y0 y1 xa2 xa3 xy2 xy3 xa4 xy4) (a0 * y0)), .int .i64 (onI (meetB a0 a1 y0 y1 xa2 xa3 xy2 xy3 xa4 xy4) a1), v60, v61, v62] ∧ Lo w (some b59.block) ∧ Dj (some b1.block) og60 ∧ Dj (some b1.block) og61 ∧ Dj (some b1.block) og62 ∧ Dj (some b1.block) (some b59.block) ∧ Dj (some b2.block) og60 ∧ Dj (some b2.block) og61 ∧ Dj (some b2.block) og62 ∧ Dj (some b2.block) (some b59.block) ∧ Dj og4 og60 ∧ Dj og4 og61 ∧ Dj og4 og62 ∧ Dj og4 (some b59.block) ∧ Dj og5 og60 ∧ Dj og5 og61 ∧ Dj og5 og62 ∧ Dj og5 (some b59.block) ∧ Dj og6 og60 ∧ Dj og6 og61 ∧ Dj og6 og62 ∧ Dj og6 (some b59.block) ∧ Dj (some b3.block) og60 ∧ Dj (some b3.block) og61 ∧ Dj (some b3.block) og62 ∧ Dj (some b3.block) (some b59.block) ∧ Dj og38 og60 ∧ Dj og38 og61 ∧ Dj og38 og62 ∧ Dj og38 (some b59.block) ∧ Dj og39 og60 ∧ Dj og39 og61 ∧ Dj og39 og62 ∧ Dj og39 (some b59.block) ∧ Dj og40 og60 ∧ Dj og40 og61 ∧ Dj og40 og62 ∧ Dj og40 (some b59.block) ∧ Dj (some b41.block) og60 ∧ Dj (some b41.block) og61 ∧ Dj (some b41.block) og62 ∧ Dj (some b41.block) (some b59.block) ∧ Dj og42 og60 ∧ Dj og42 og61 ∧ Dj og42 og62 ∧ Dj og42 (some b59.block) ∧ Dj og43 og60 ∧ Dj og43 og61 ∧ Dj og43 og62 ∧ Dj og43 (some b59.block) ∧ Dj og44 og60 ∧ Dj og44 og61 ∧ Dj og44 og62 ∧ Dj og44 (some b59.block) ∧ Dj (some b45.block) og60 ∧ Dj (some b45.block) og61 ∧ Dj (some b45.block) og62 ∧ Dj (some b45.block) (some b59.block) ∧ Dj og46 og60 ∧ Dj og46 og61 ∧ Dj og46 og62 ∧ Dj og46 (some b59.block) ∧ Dj og47 og60 ∧ Dj og47 og61 ∧ Dj og47 og62 ∧ Dj og47 (some b59.block) ∧ Dj og48 og60 ∧ Dj og48 og61 ∧ Dj og48 og62 ∧ Dj og48 (some b59.block) ∧ Dj (some b49.block) og60 ∧ Dj (some b49.block) og61 ∧ Dj (some b49.block) og62 ∧ Dj (some b49.block) (some b59.block) ∧ Dj og50 og60 ∧ Dj og50 og61 ∧ Dj og50 og62 ∧ Dj og50 (some b59.block) ∧ Dj og51 og60 ∧ Dj og51 og61 ∧ Dj og51 og62 ∧ Dj og51 (some b59.block) ∧ Dj og52 og60 ∧ Dj og52 og61 ∧ Dj og52 og62 ∧ Dj og52 (some b59.block) ∧ Dj og53 og60 ∧ Dj og53 og61 ∧ Dj og53 og62 ∧ Dj og53 (some b59.block) ∧ Dj og54 og60 ∧ Dj og54 og61 ∧ Dj og54 og62 ∧ Dj og54 (some b59.block) ∧ Dj og55 og60 ∧ Dj og55 og61 ∧ Dj og55 og62 ∧ Dj og55 (some b59.block) ∧ Dj og60 og61 ∧ Dj og60 og62 ∧ Dj og60 (some b59.block) ∧ Dj og61 og62 ∧ Dj og61 (some b59.block) ∧ Dj og62 (some b59.block)) ⟨rfl, rfl, rfl, rfl, trivial⟩ ?_ ?_
  · skip
    have hB0 := Ext.refl w43
    refine CW.draw T.mixed (by kernel_rfl) (fun _ _ _ _ _ h => h) (fun w8 w9 => Upd none w8 w9) 11 (.take 0 (.take 2 (.fork 1 8 (.fork 3 8 (.fork 4 8 (.take 5 (.take 6 (.take 7 (.must 8 (.must 9 (.take 10 .done)))))) (.must 4 (.take 5 (.take 6 (.take 7 (.must 9 (.take 10 .done))))))) (.must 3 (.must 4 (.take 5 (.take 6 (.take 7 (.must 9 (.take 10 .done)))))))) (.must 1 (.must 3 (.must 4 (.take 5 (.take 6 (.take 7 (.must 9 (.take 10 .done))))))))))) (by kernel_rfl) (fun w44 hXd => ?_)
    have hB := hB.trans hXd
    have hBc := (by first | exact hBc.trans hXd | exact hB0.trans hXd)
    have hb1 := hb1.up hXd
    have hb2 := hb2.up hXd
    have ho4 := ho4.up hXd
    have ho5 := ho5.up hXd
    have ho6 := ho6.up hXd
    have hb3 := hb3.up hXd
    have ho38 := ho38.up hXd
    have ho39 := ho39.up hXd
    have ho40 := ho40.up hXd
    have hb41 := hb41.up hXd
    have ho42 := ho42.up hXd
    have ho43 := ho43.up hXd
    have ho44 := ho44.up hXd
    have hb45 := hb45.up hXd
    have ho46 := ho46.up hXd
    have ho47 := ho47.up hXd
    have ho48 := ho48.up hXd
    have hb49 := hb49.up hXd
    have ho50 := ho50.up hXd
    have ho51 := ho51.up hXd
    have ho52 := ho52.up hXd
    have ho53 := ho53.up hXd
    have ho54 := ho54.up hXd
    have ho55 := ho55.up hXd
    have hBr := hB
    have hS : Upd none w44 w44 := Ext.toUpd (Ext.refl _)
    refine HP.take rfl rfl rfl rfl hS (fun wS hS1 => (by first | exact PV.loadA T.ag34 rfl (by first | exact Cells.up (by assumption) (hBr.trans hS1) | exact Bx.cells (Bx.updD (by assumption) hS1 (Dj.nlR _)) | exact Cells.upd (by assumption) hS1 (by simp)) (Ext.refl _) rfl | exact PV.loadP (ds := [_, _, _, _, _]) T.ag34 rfl (by first | exact Cells.up (by assumption) (hBr.trans hS1) | exact Bx.cells (Bx.updD (by assumption) hS1 (Dj.nlR _)) | exact Cells.upd (by assumption) hS1 (by simp)) (Ext.refl _) rfl rfl)) ?_
    refine HP.take rfl rfl rfl rfl hS (fun wS hS1 => (by first | exact PV.loadA T.ag34 rfl (by first | exact Cells.up (by assumption) (hBr.trans hS1) | exact Bx.cells (Bx.updD (by assumption) hS1 (Dj.nlR _)) | exact Cells.upd (by assumption) hS1 (by simp)) (Ext.refl _) rfl | exact PV.loadP (ds := [_, _, _, _, _]) T.ag34 rfl (by first | exact Cells.up (by assumption) (hBr.trans hS1) | exact Bx.cells (Bx.updD (by assumption) hS1 (Dj.nlR _)) | exact Cells.upd (by assumption) hS1 (by simp)) (Ext.refl _) rfl rfl)) ?_
    refine HP.fork rfl rfl rfl rfl ?_ ?_
    · skip
      refine (OpK.call rfl T.cf29 rfl (c_laws_toTreeMachine (by first | assumption | exact Rd.up (by assumption) hB | exact Osl.rd (by assumption) | exact Osn.rdR (by assumption)) (by first | assumption | exact Rd.up (by assumption) hB | exact Osl.rd (by assumption) | exact Osn.rdR (by assumption)) (by first | assumption | exact Rd.up (by assumption) hB | exact Osl.rd (by assumption) | exact Osn.rdR (by assumption)) (by first | assumption | omega | (simp only [marks_len, marksB_len]; omega)) (by first | assumption | omega | (simp only [marks_len, marksB_len]; omega)) (by first | assumption | omega | (simp only [marks_len, marksB_len]; omega))) (fun rv18 w45 hR => ?_))
      obtain ⟨hXw45, v63, og63, v64, og64, v65, og65, rfl, ho63, hq63, ho64, hq64, ho65, hq65, hd63_64, hd63_65, hd64_65⟩ := hR
      have hl63 := Lo.up hq63 hB
      have hv63 := Lo.up hq63 hS
      have hd1_63 := Dj.lo hb1.ltO hq63
      have hd2_63 := Dj.lo hb2.ltO hq63
      have hd4_63 := Dj.lo ho4.ltO hq63
      have hd5_63 := Dj.lo ho5.ltO hq63
      have hd6_63 := Dj.lo ho6.ltO hq63
      have hd3_63 := Dj.lo hb3.ltO hq63
      have hd38_63 := Dj.lo ho38.ltO hq63
      have hd39_63 := Dj.lo ho39.ltO hq63
      have hd40_63 := Dj.lo ho40.ltO hq63
      have hd41_63 := Dj.lo hb41.ltO hq63
      have hd42_63 := Dj.lo ho42.ltO hq63
      have hd43_63 := Dj.lo ho43.ltO hq63
      have hd44_63 := Dj.lo ho44.ltO hq63
      have hd45_63 := Dj.lo hb45.ltO hq63
      have hd46_63 := Dj.lo ho46.ltO hq63
      have hd47_63 := Dj.lo ho47.ltO hq63
      have hd48_63 := Dj.lo ho48.ltO hq63
      have hd49_63 := Dj.lo hb49.ltO hq63
      have hd50_63 := Dj.lo ho50.ltO hq63
      have hd51_63 := Dj.lo ho51.ltO hq63
      have hd52_63 := Dj.lo ho52.ltO hq63
      have hd53_63 := Dj.lo ho53.ltO hq63
      have hd54_63 := Dj.lo ho54.ltO hq63
      have hd55_63 := Dj.lo ho55.ltO hq63
      have hl64 := Lo.up hq64 hB
      have hv64 := Lo.up hq64 hS
      have hd1_64 := Dj.lo hb1.ltO hq64
      have hd2_64 := Dj.lo hb2.ltO hq64
      have hd4_64 := Dj.lo ho4.ltO hq64
      have hd5_64 := Dj.lo ho5.ltO hq64
      have hd6_64 := Dj.lo ho6.ltO hq64
      have hd3_64 := Dj.lo hb3.ltO hq64
      have hd38_64 := Dj.lo ho38.ltO hq64
      have hd39_64 := Dj.lo ho39.ltO hq64
      have hd40_64 := Dj.lo ho40.ltO hq64
      have hd41_64 := Dj.lo hb41.ltO hq64
      have hd42_64 := Dj.lo ho42.ltO hq64
      have hd43_64 := Dj.lo ho43.ltO hq64
      have hd44_64 := Dj.lo ho44.ltO hq64
      have hd45_64 := Dj.lo hb45.ltO hq64
      have hd46_64 := Dj.lo ho46.ltO hq64
      have hd47_64 := Dj.lo ho47.ltO hq64
      have hd48_64 := Dj.lo ho48.ltO hq64
      have hd49_64 := Dj.lo hb49.ltO hq64
      have hd50_64 := Dj.lo ho50.ltO hq64
      have hd51_64 := Dj.lo ho51.ltO hq64
      have hd52_64 := Dj.lo ho52.ltO hq64
      have hd53_64 := Dj.lo ho53.ltO hq64
      have hd54_64 := Dj.lo ho54.ltO hq64
      have hd55_64 := Dj.lo ho55.ltO hq64
      have hl65 := Lo.up hq65 hB
      have hv65 := Lo.up hq65 hS
      have hd1_65 := Dj.lo hb1.ltO hq65
      have hd2_65 := Dj.lo hb2.ltO hq65
      have hd4_65 := Dj.lo ho4.ltO hq65
      have hd5_65 := Dj.lo ho5.ltO hq65
      have hd6_65 := Dj.lo ho6.ltO hq65
      have hd3_65 := Dj.lo hb3.ltO hq65
      have hd38_65 := Dj.lo ho38.ltO hq65
      have hd39_65 := Dj.lo ho39.ltO hq65
      have hd40_65 := Dj.lo ho40.ltO hq65
      have hd41_65 := Dj.lo hb41.ltO hq65
      have hd42_65 := Dj.lo ho42.ltO hq65
      have hd43_65 := Dj.lo ho43.ltO hq65
      have hd44_65 := Dj.lo ho44.ltO hq65
      have hd45_65 := Dj.lo hb45.ltO hq65
      have hd46_65 := Dj.lo ho46.ltO hq65
      have hd47_65 := Dj.lo ho47.ltO hq65
      have hd48_65 := Dj.lo ho48.ltO hq65
      have hd49_65 := Dj.lo hb49.ltO hq65
      have hd50_65 := Dj.lo ho50.ltO hq65
      have hd51_65 := Dj.lo ho51.ltO hq65
      have hd52_65 := Dj.lo ho52.ltO hq65
      have hd53_65 := Dj.lo ho53.ltO hq65
      have hd54_65 := Dj.lo ho54.ltO hq65
      have hd55_65 := Dj.lo ho55.ltO hq65
      refine ⟨Upd.trans hS hXw45, ?_⟩
      have hS := Upd.trans hS hXw45
      have hB := hB.trans hXw45
      have hBc := (by first | exact hBc.trans hXw45 | exact hB0.trans hXw45)
      have hb1 := hb1.up hXw45
      have hb2 := hb2.up hXw45
      have ho4 := ho4.up hXw45
      have ho5 := ho5.up hXw45
      have ho6 := ho6.up hXw45
      have hb3 := hb3.up hXw45
      have ho38 := ho38.up hXw45
      have ho39 := ho39.up hXw45
      have ho40 := ho40.up hXw45
      have hb41 := hb41.up hXw45
      have ho42 := ho42.up hXw45
      have ho43 := ho43.up hXw45
      have ho44 := ho44.up hXw45
      have hb45 := hb45.up hXw45
      have ho46 := ho46.up hXw45
      have ho47 := ho47.up hXw45
      have ho48 := ho48.up hXw45
      have hb49 := hb49.up hXw45
      have ho50 := ho50.up hXw45
      have ho51 := ho51.up hXw45
      have ho52 := ho52.up hXw45
      have ho53 := ho53.up hXw45
      have ho54 := ho54.up hXw45
      have ho55 := ho55.up hXw45
      refine HP.fork rfl rfl rfl rfl ?_ ?_
      · skip
        refine (OpK.call rfl T.cf29 rfl (c_laws_toTreeMachine (by first | assumption | exact Rd.up (by assumption) hB | exact Osl.rd (by assumption) | exact Osn.rdR (by assumption)) (by first | assumption | exact Rd.up (by assumption) hB | exact Osl.rd (by assumption) | exact Osn.rdR (by assumption)) (by first | assumption | exact Rd.up (by assumption) hB | exact Osl.rd (by assumption) | exact Osn.rdR (by assumption)) (by first | assumption | omega | (simp only [marks_len, marksB_len]; omega)) (by first | assumption | omega | (simp only [marks_len, marksB_len]; omega)) (by first | assumption | omega | (simp only [marks_len, marksB_len]; omega))) (fun rv19 w46 hR => ?_))
        obtain ⟨hXw46, v66, og66, v67, og67, v68, og68, rfl, ho66, hq66, ho67, hq67, ho68, hq68, hd66_67, hd66_68, hd67_68⟩ := hR
        have hl66 := Lo.up hq66 hB
        have hv66 := Lo.up hq66 hS
        have hd1_66 := Dj.lo hb1.ltO hq66
        have hd2_66 := Dj.lo hb2.ltO hq66
        have hd4_66 := Dj.lo ho4.ltO hq66
        have hd5_66 := Dj.lo ho5.ltO hq66
        have hd6_66 := Dj.lo ho6.ltO hq66
        have hd3_66 := Dj.lo hb3.ltO hq66
        have hd38_66 := Dj.lo ho38.ltO hq66
        have hd39_66 := Dj.lo ho39.ltO hq66
        have hd40_66 := Dj.lo ho40.ltO hq66
        have hd41_66 := Dj.lo hb41.ltO hq66
        have hd42_66 := Dj.lo ho42.ltO hq66
        have hd43_66 := Dj.lo ho43.ltO hq66
        have hd44_66 := Dj.lo ho44.ltO hq66
        have hd45_66 := Dj.lo hb45.ltO hq66
        have hd46_66 := Dj.lo ho46.ltO hq66
        have hd47_66 := Dj.lo ho47.ltO hq66
        have hd48_66 := Dj.lo ho48.ltO hq66
        have hd49_66 := Dj.lo hb49.ltO hq66
        have hd50_66 := Dj.lo ho50.ltO hq66
        have hd51_66 := Dj.lo ho51.ltO hq66
        have hd52_66 := Dj.lo ho52.ltO hq66
        have hd53_66 := Dj.lo ho53.ltO hq66
        have hd54_66 := Dj.lo ho54.ltO hq66
        have hd55_66 := Dj.lo ho55.ltO hq66
        have hd63_66 := Dj.lo ho63.ltO hq66
        have hd64_66 := Dj.lo ho64.ltO hq66
        have hd65_66 := Dj.lo ho65.ltO hq66
        have hl67 := Lo.up hq67 hB
        have hv67 := Lo.up hq67 hS
        have hd1_67 := Dj.lo hb1.ltO hq67
        have hd2_67 := Dj.lo hb2.ltO hq67
        have hd4_67 := Dj.lo ho4.ltO hq67
        have hd5_67 := Dj.lo ho5.ltO hq67
        have hd6_67 := Dj.lo ho6.ltO hq67
        have hd3_67 := Dj.lo hb3.ltO hq67
        have hd38_67 := Dj.lo ho38.ltO hq67
        have hd39_67 := Dj.lo ho39.ltO hq67
        have hd40_67 := Dj.lo ho40.ltO hq67
        have hd41_67 := Dj.lo hb41.ltO hq67
        have hd42_67 := Dj.lo ho42.ltO hq67
        have hd43_67 := Dj.lo ho43.ltO hq67
        have hd44_67 := Dj.lo ho44.ltO hq67
        have hd45_67 := Dj.lo hb45.ltO hq67
        have hd46_67 := Dj.lo ho46.ltO hq67
        have hd47_67 := Dj.lo ho47.ltO hq67
        have hd48_67 := Dj.lo ho48.ltO hq67
        have hd49_67 := Dj.lo hb49.ltO hq67
        have hd50_67 := Dj.lo ho50.ltO hq67
        have hd51_67 := Dj.lo ho51.ltO hq67
        have hd52_67 := Dj.lo ho52.ltO hq67
        have hd53_67 := Dj.lo ho53.ltO hq67
        have hd54_67 := Dj.lo ho54.ltO hq67
        have hd55_67 := Dj.lo ho55.ltO hq67
        have hd63_67 := Dj.lo ho63.ltO hq67
        have hd64_67 := Dj.lo ho64.ltO hq67
        have hd65_67 := Dj.lo ho65.ltO hq67
        have hl68 := Lo.up hq68 hB
        have hv68 := Lo.up hq68 hS
        have hd1_68 := Dj.lo hb1.ltO hq68
        have hd2_68 := Dj.lo hb2.ltO hq68
        have hd4_68 := Dj.lo ho4.ltO hq68
        have hd5_68 := Dj.lo ho5.ltO hq68
        have hd6_68 := Dj.lo ho6.ltO hq68
        have hd3_68 := Dj.lo hb3.ltO hq68
        have hd38_68 := Dj.lo ho38.ltO hq68
        have hd39_68 := Dj.lo ho39.ltO hq68
        have hd40_68 := Dj.lo ho40.ltO hq68
        have hd41_68 := Dj.lo hb41.ltO hq68
        have hd42_68 := Dj.lo ho42.ltO hq68
        have hd43_68 := Dj.lo ho43.ltO hq68
        have hd44_68 := Dj.lo ho44.ltO hq68
        have hd45_68 := Dj.lo hb45.ltO hq68
        have hd46_68 := Dj.lo ho46.ltO hq68
        have hd47_68 := Dj.lo ho47.ltO hq68
        have hd48_68 := Dj.lo ho48.ltO hq68
        have hd49_68 := Dj.lo hb49.ltO hq68
        have hd50_68 := Dj.lo ho50.ltO hq68
        have hd51_68 := Dj.lo ho51.ltO hq68
        have hd52_68 := Dj.lo ho52.ltO hq68
        have hd53_68 := Dj.lo ho53.ltO hq68
        have hd54_68 := Dj.lo ho54.ltO hq68
        have hd55_68 := Dj.lo ho55.ltO hq68
        have hd63_68 := Dj.lo ho63.ltO hq68
        have hd64_68 := Dj.lo ho64.ltO hq68
        have hd65_68 := Dj.lo ho65.ltO hq68
        refine ⟨Upd.trans hS hXw46, ?_⟩
        have hS := Upd.trans hS hXw46
        have hB := hB.trans hXw46
        have hBc := (by first | exact hBc.trans hXw46 | exact hB0.trans hXw46)
        have hb1 := hb1.up hXw46
        have hb2 := hb2.up hXw46
        have ho4 := ho4.up hXw46
        have ho5 := ho5.up hXw46
        have ho6 := ho6.up hXw46
        have hb3 := hb3.up hXw46
        have ho38 := ho38.up hXw46
        have ho39 := ho39.up hXw46
        have ho40 := ho40.up hXw46
        have hb41 := hb41.up hXw46
        have ho42 := ho42.up hXw46
        have ho43 := ho43.up hXw46
        have ho44 := ho44.up hXw46
        have hb45 := hb45.up hXw46
        have ho46 := ho46.up hXw46
        have ho47 := ho47.up hXw46
        have ho48 := ho48.up hXw46
        have hb49 := hb49.up hXw46
        have ho50 := ho50.up hXw46
        have ho51 := ho51.up hXw46
        have ho52 := ho52.up hXw46
        have ho53 := ho53.up hXw46
        have ho54 := ho54.up hXw46
        have ho55 := ho55.up hXw46
        have ho63 := ho63.up hXw46
        have ho64 := ho64.up hXw46
        have ho65 := ho65.up hXw46
        refine HP.fork rfl rfl rfl rfl ?_ ?_
        · skip
          refine (OpK.call rfl T.cf43 rfl (c_impl_MeetTrees (by first | assumption | exact Rd.up (by assumption) hB | exact Osl.rd (by assumption) | exact Osn.rdR (by assumption)) (by first | assumption | exact Rd.up (by assumption) hB | exact Osl.rd (by assumption) | exact Osn.rdR (by assumption)) (by first | assumption | exact Rd.up (by assumption) hB | exact Osl.rd (by assumption) | exact Osn.rdR (by assumption)) (by first | assumption | exact Rd.up (by assumption) hB | exact Osl.rd (by assumption) | exact Osn.rdR (by assumption)) (by first | assumption | exact Rd.up (by assumption) hB | exact Osl.rd (by assumption) | exact Osn.rdR (by assumption)) (by first | assumption | exact Rd.up (by assumption) hB | exact Osl.rd (by assumption) | exact Osn.rdR (by assumption))) (fun rv20 w47 hR => ?_))
          obtain ⟨hXw47, v69, og69, v70, og70, v71, og71, rfl, ho69, hq69, ho70, hq70, ho71, hq71, hd69_70, hd69_71, hd70_71⟩ := hR
          have hl69 := Lo.up hq69 hB
          have hv69 := Lo.up hq69 hS
          have hd1_69 := Dj.lo hb1.ltO hq69
          have hd2_69 := Dj.lo hb2.ltO hq69
          have hd4_69 := Dj.lo ho4.ltO hq69
          have hd5_69 := Dj.lo ho5.ltO hq69
          have hd6_69 := Dj.lo ho6.ltO hq69
          have hd3_69 := Dj.lo hb3.ltO hq69
          have hd38_69 := Dj.lo ho38.ltO hq69
          have hd39_69 := Dj.lo ho39.ltO hq69
          have hd40_69 := Dj.lo ho40.ltO hq69
          have hd41_69 := Dj.lo hb41.ltO hq69
          have hd42_69 := Dj.lo ho42.ltO hq69
          have hd43_69 := Dj.lo ho43.ltO hq69
          have hd44_69 := Dj.lo ho44.ltO hq69
          have hd45_69 := Dj.lo hb45.ltO hq69
          have hd46_69 := Dj.lo ho46.ltO hq69
          have hd47_69 := Dj.lo ho47.ltO hq69
          have hd48_69 := Dj.lo ho48.ltO hq69
          have hd49_69 := Dj.lo hb49.ltO hq69
          have hd50_69 := Dj.lo ho50.ltO hq69
          have hd51_69 := Dj.lo ho51.ltO hq69
          have hd52_69 := Dj.lo ho52.ltO hq69
          have hd53_69 := Dj.lo ho53.ltO hq69
          have hd54_69 := Dj.lo ho54.ltO hq69
          have hd55_69 := Dj.lo ho55.ltO hq69
          have hd63_69 := Dj.lo ho63.ltO hq69
          have hd64_69 := Dj.lo ho64.ltO hq69
          have hd65_69 := Dj.lo ho65.ltO hq69
          have hd66_69 := Dj.lo ho66.ltO hq69
          have hd67_69 := Dj.lo ho67.ltO hq69
          have hd68_69 := Dj.lo ho68.ltO hq69
          have hl70 := Lo.up hq70 hB
          have hv70 := Lo.up hq70 hS
          have hd1_70 := Dj.lo hb1.ltO hq70
          have hd2_70 := Dj.lo hb2.ltO hq70
          have hd4_70 := Dj.lo ho4.ltO hq70
          have hd5_70 := Dj.lo ho5.ltO hq70
          have hd6_70 := Dj.lo ho6.ltO hq70
          have hd3_70 := Dj.lo hb3.ltO hq70
          have hd38_70 := Dj.lo ho38.ltO hq70
          have hd39_70 := Dj.lo ho39.ltO hq70
          have hd40_70 := Dj.lo ho40.ltO hq70
          have hd41_70 := Dj.lo hb41.ltO hq70
          have hd42_70 := Dj.lo ho42.ltO hq70
          have hd43_70 := Dj.lo ho43.ltO hq70
          have hd44_70 := Dj.lo ho44.ltO hq70
          have hd45_70 := Dj.lo hb45.ltO hq70
          have hd46_70 := Dj.lo ho46.ltO hq70
          have hd47_70 := Dj.lo ho47.ltO hq70
          have hd48_70 := Dj.lo ho48.ltO hq70
          have hd49_70 := Dj.lo hb49.ltO hq70
          have hd50_70 := Dj.lo ho50.ltO hq70
          have hd51_70 := Dj.lo ho51.ltO hq70
          have hd52_70 := Dj.lo ho52.ltO hq70
          have hd53_70 := Dj.lo ho53.ltO hq70
          have hd54_70 := Dj.lo ho54.ltO hq70
          have hd55_70 := Dj.lo ho55.ltO hq70
          have hd63_70 := Dj.lo ho63.ltO hq70
          have hd64_70 := Dj.lo ho64.ltO hq70
          have hd65_70 := Dj.lo ho65.ltO hq70
          have hd66_70 := Dj.lo ho66.ltO hq70
          have hd67_70 := Dj.lo ho67.ltO hq70
          have hd68_70 := Dj.lo ho68.ltO hq70
          have hl71 := Lo.up hq71 hB
          have hv71 := Lo.up hq71 hS
          have hd1_71 := Dj.lo hb1.ltO hq71
          have hd2_71 := Dj.lo hb2.ltO hq71
          have hd4_71 := Dj.lo ho4.ltO hq71
          have hd5_71 := Dj.lo ho5.ltO hq71
          have hd6_71 := Dj.lo ho6.ltO hq71
          have hd3_71 := Dj.lo hb3.ltO hq71
          have hd38_71 := Dj.lo ho38.ltO hq71
          have hd39_71 := Dj.lo ho39.ltO hq71
          have hd40_71 := Dj.lo ho40.ltO hq71
          have hd41_71 := Dj.lo hb41.ltO hq71
          have hd42_71 := Dj.lo ho42.ltO hq71
          have hd43_71 := Dj.lo ho43.ltO hq71
          have hd44_71 := Dj.lo ho44.ltO hq71
          have hd45_71 := Dj.lo hb45.ltO hq71
          have hd46_71 := Dj.lo ho46.ltO hq71
          have hd47_71 := Dj.lo ho47.ltO hq71
          have hd48_71 := Dj.lo ho48.ltO hq71
          have hd49_71 := Dj.lo hb49.ltO hq71
          have hd50_71 := Dj.lo ho50.ltO hq71
          have hd51_71 := Dj.lo ho51.ltO hq71
          have hd52_71 := Dj.lo ho52.ltO hq71
          have hd53_71 := Dj.lo ho53.ltO hq71
          have hd54_71 := Dj.lo ho54.ltO hq71
          have hd55_71 := Dj.lo ho55.ltO hq71
          have hd63_71 := Dj.lo ho63.ltO hq71
          have hd64_71 := Dj.lo ho64.ltO hq71
          have hd65_71 := Dj.lo ho65.ltO hq71
          have hd66_71 := Dj.lo ho66.ltO hq71
          have hd67_71 := Dj.lo ho67.ltO hq71
          have hd68_71 := Dj.lo ho68.ltO hq71
          refine ⟨Upd.trans hS hXw47, ?_⟩
          have hS := Upd.trans hS hXw47
          have hB := hB.trans hXw47
          have hBc := (by first | exact hBc.trans hXw47 | exact hB0.trans hXw47)
          have hb1 := hb1.up hXw47
          have hb2 := hb2.up hXw47
          have ho4 := ho4.up hXw47
          have ho5 := ho5.up hXw47
          have ho6 := ho6.up hXw47
          have hb3 := hb3.up hXw47
          have ho38 := ho38.up hXw47
          have ho39 := ho39.up hXw47
          have ho40 := ho40.up hXw47
          have hb41 := hb41.up hXw47
          have ho42 := ho42.up hXw47
          have ho43 := ho43.up hXw47
          have ho44 := ho44.up hXw47
          have hb45 := hb45.up hXw47
          have ho46 := ho46.up hXw47
          have ho47 := ho47.up hXw47
          have ho48 := ho48.up hXw47
          have hb49 := hb49.up hXw47
          have ho50 := ho50.up hXw47
          have ho51 := ho51.up hXw47
          have ho52 := ho52.up hXw47
          have ho53 := ho53.up hXw47
          have ho54 := ho54.up hXw47
          have ho55 := ho55.up hXw47
          have ho63 := ho63.up hXw47
          have ho64 := ho64.up hXw47
          have ho65 := ho65.up hXw47
          have ho66 := ho66.up hXw47
          have ho67 := ho67.up hXw47
          have ho68 := ho68.up hXw47
          refine HP.take rfl rfl rfl rfl hS (fun wS hS1 => PV.move rfl) ?_
          refine HP.take rfl rfl rfl rfl hS (fun wS hS1 => PV.extract rfl rfl) ?_
          refine HP.take rfl rfl rfl rfl hS (fun wS hS1 => PV.extract rfl rfl) ?_
          refine HP.must rfl rfl (OpK.alloc rfl T.zv37 rfl (fun b72 w48 hXw48 hb72 hge72 => ?_))
          have hl72 := Lo.new hB hge72
          have hv72 := Lo.new hS hge72
          have hd1_72 := Dj.new hb1.ltO hge72
          have hd2_72 := Dj.new hb2.ltO hge72
          have hd4_72 := Dj.new ho4.ltO hge72
          have hd5_72 := Dj.new ho5.ltO hge72
          have hd6_72 := Dj.new ho6.ltO hge72
          have hd3_72 := Dj.new hb3.ltO hge72
          have hd38_72 := Dj.new ho38.ltO hge72
          have hd39_72 := Dj.new ho39.ltO hge72
          have hd40_72 := Dj.new ho40.ltO hge72
          have hd41_72 := Dj.new hb41.ltO hge72
          have hd42_72 := Dj.new ho42.ltO hge72
          have hd43_72 := Dj.new ho43.ltO hge72
          have hd44_72 := Dj.new ho44.ltO hge72
          have hd45_72 := Dj.new hb45.ltO hge72
          have hd46_72 := Dj.new ho46.ltO hge72
          have hd47_72 := Dj.new ho47.ltO hge72
          have hd48_72 := Dj.new ho48.ltO hge72
          have hd49_72 := Dj.new hb49.ltO hge72
          have hd50_72 := Dj.new ho50.ltO hge72
          have hd51_72 := Dj.new ho51.ltO hge72
          have hd52_72 := Dj.new ho52.ltO hge72
          have hd53_72 := Dj.new ho53.ltO hge72
          have hd54_72 := Dj.new ho54.ltO hge72
          have hd55_72 := Dj.new ho55.ltO hge72
          have hd63_72 := Dj.new ho63.ltO hge72
          have hd64_72 := Dj.new ho64.ltO hge72
          have hd65_72 := Dj.new ho65.ltO hge72
          have hd66_72 := Dj.new ho66.ltO hge72
          have hd67_72 := Dj.new ho67.ltO hge72
          have hd68_72 := Dj.new ho68.ltO hge72
          have hd69_72 := Dj.new ho69.ltO hge72
          have hd70_72 := Dj.new ho70.ltO hge72
          have hd71_72 := Dj.new ho71.ltO hge72
          refine ⟨Upd.trans hS hXw48, ?_⟩
          have hS := Upd.trans hS hXw48
          have hB := hB.trans hXw48
          have hBc := (by first | exact hBc.trans hXw48 | exact hB0.trans hXw48)
          have hb1 := hb1.up hXw48
          have hb2 := hb2.up hXw48
          have ho4 := ho4.up hXw48
          have ho5 := ho5.up hXw48
          have ho6 := ho6.up hXw48
          have hb3 := hb3.up hXw48
          have ho38 := ho38.up hXw48
          have ho39 := ho39.up hXw48
          have ho40 := ho40.up hXw48
          have hb41 := hb41.up hXw48
          have ho42 := ho42.up hXw48
          have ho43 := ho43.up hXw48
          have ho44 := ho44.up hXw48
          have hb45 := hb45.up hXw48
          have ho46 := ho46.up hXw48
          have ho47 := ho47.up hXw48
          have ho48 := ho48.up hXw48
          have hb49 := hb49.up hXw48
          have ho50 := ho50.up hXw48
          have ho51 := ho51.up hXw48
          have ho52 := ho52.up hXw48
          have ho53 := ho53.up hXw48
          have ho54 := ho54.up hXw48
          have ho55 := ho55.up hXw48
          have ho63 := ho63.up hXw48
          have ho64 := ho64.up hXw48
          have ho65 := ho65.up hXw48
          have ho66 := ho66.up hXw48
          have ho67 := ho67.up hXw48
          have ho68 := ho68.up hXw48
          have ho69 := ho69.up hXw48
          have ho70 := ho70.up hXw48
          have ho71 := ho71.up hXw48
          refine HP.must rfl rfl (OpK.storeA T.sz37 rfl rfl rfl rfl (by simp [Value.oneCell'] <;> first | done | (repeat' apply And.intro) <;> first | rfl | exact Osl.oneCell (by assumption) | exact Osn.oneCell (by assumption) | exact Rd.oneCell (by assumption) | assumption) hb72 (fun w49 hXw49 hb72 => ?_))
          refine ⟨Ext.updL hS hXw49 hv72, ?_⟩
          have hS := Ext.updL hS hXw49 hv72
          have hB := hB.updL hXw49 hl72
          have hBc := hBc.updL hXw49 (Lo.up hv72 hXd)
          have hb1 := hb1.updD hXw49 hd1_72
          have hb2 := hb2.updD hXw49 hd2_72
          have ho4 := ho4.updD hXw49 hd4_72
          have ho5 := ho5.updD hXw49 hd5_72
          have ho6 := ho6.updD hXw49 hd6_72
          have hb3 := hb3.updD hXw49 hd3_72
          have ho38 := ho38.updD hXw49 hd38_72
          have ho39 := ho39.updD hXw49 hd39_72
          have ho40 := ho40.updD hXw49 hd40_72
          have hb41 := hb41.updD hXw49 hd41_72
          have ho42 := ho42.updD hXw49 hd42_72
          have ho43 := ho43.updD hXw49 hd43_72
          have ho44 := ho44.updD hXw49 hd44_72
          have hb45 := hb45.updD hXw49 hd45_72
          have ho46 := ho46.updD hXw49 hd46_72
          have ho47 := ho47.updD hXw49 hd47_72
          have ho48 := ho48.updD hXw49 hd48_72
          have hb49 := hb49.updD hXw49 hd49_72
          have ho50 := ho50.updD hXw49 hd50_72
          have ho51 := ho51.updD hXw49 hd51_72
          have ho52 := ho52.updD hXw49 hd52_72
          have ho53 := ho53.updD hXw49 hd53_72
          have ho54 := ho54.updD hXw49 hd54_72
          have ho55 := ho55.updD hXw49 hd55_72
          have ho63 := ho63.updD hXw49 hd63_72
          have ho64 := ho64.updD hXw49 hd64_72
          have ho65 := ho65.updD hXw49 hd65_72
          have ho66 := ho66.updD hXw49 hd66_72
          have ho67 := ho67.updD hXw49 hd67_72
          have ho68 := ho68.updD hXw49 hd68_72
          have ho69 := ho69.updD hXw49 hd69_72
          have ho70 := ho70.updD hXw49 hd70_72
          have ho71 := ho71.updD hXw49 hd71_72
          refine HP.take rfl rfl rfl rfl hS (fun wS hS1 => PV.assign rfl) ?_
          refine HP.done ?_
          exact NQ.cut (ρ := [(15, _), (16, _)]) ⟨rfl, rfl, rfl, rfl, rfl, rfl, trivial⟩ ⟨v69, og69, v70, og70, v71, og71, b72, rfl, hBc, ho69, hl69, ho70, hl70, ho71, hl71, hb72, hl72, hd1_69, hd1_70, hd1_71, hd1_72, hd2_69, hd2_70, hd2_71, hd2_72, hd4_69, hd4_70, hd4_71, hd4_72, hd5_69, hd5_70, hd5_71, hd5_72, hd6_69, hd6_70, hd6_71, hd6_72, hd3_69, hd3_70, hd3_71, hd3_72, hd38_69, hd38_70, hd38_71, hd38_72, hd39_69, hd39_70, hd39_71, hd39_72, hd40_69, hd40_70, hd40_71, hd40_72, hd41_69, hd41_70, hd41_71, hd41_72, hd42_69, hd42_70, hd42_71, hd42_72, hd43_69, hd43_70, hd43_71, hd43_72, hd44_69, hd44_70, hd44_71, hd44_72, hd45_69, hd45_70, hd45_71, hd45_72, hd46_69, hd46_70, hd46_71, hd46_72, hd47_69, hd47_70, hd47_71, hd47_72, hd48_69, hd48_70, hd48_71, hd48_72, hd49_69, hd49_70, hd49_71, hd49_72, hd50_69, hd50_70, hd50_71, hd50_72, hd51_69, hd51_70, hd51_71, hd51_72, hd52_69, hd52_70, hd52_71, hd52_72, hd53_69, hd53_70, hd53_71, hd53_72, hd54_69, hd54_70, hd54_71, hd54_72, hd55_69, hd55_70, hd55_71, hd55_72, hd69_70, hd69_71, hd69_72, hd70_71, hd70_72, hd71_72⟩
        · skip
          refine (OpK.alloc rfl T.zv37 rfl (fun b73 w50 hXw50 hb73 hge73 => ?_))
          have hl73 := Lo.new hB hge73
          have hv73 := Lo.new hS hge73
          have hd1_73 := Dj.new hb1.ltO hge73
          have hd2_73 := Dj.new hb2.ltO hge73
          have hd4_73 := Dj.new ho4.ltO hge73
          have hd5_73 := Dj.new ho5.ltO hge73
          have hd6_73 := Dj.new ho6.ltO hge73
          have hd3_73 := Dj.new hb3.ltO hge73
          have hd38_73 := Dj.new ho38.ltO hge73
          have hd39_73 := Dj.new ho39.ltO hge73
          have hd40_73 := Dj.new ho40.ltO hge73
          have hd41_73 := Dj.new hb41.ltO hge73
          have hd42_73 := Dj.new ho42.ltO hge73
          have hd43_73 := Dj.new ho43.ltO hge73
          have hd44_73 := Dj.new ho44.ltO hge73
          have hd45_73 := Dj.new hb45.ltO hge73
          have hd46_73 := Dj.new ho46.ltO hge73
          have hd47_73 := Dj.new ho47.ltO hge73
          have hd48_73 := Dj.new ho48.ltO hge73
          have hd49_73 := Dj.new hb49.ltO hge73
          have hd50_73 := Dj.new ho50.ltO hge73
          have hd51_73 := Dj.new ho51.ltO hge73
          have hd52_73 := Dj.new ho52.ltO hge73
          have hd53_73 := Dj.new ho53.ltO hge73
          have hd54_73 := Dj.new ho54.ltO hge73
          have hd55_73 := Dj.new ho55.ltO hge73
          have hd63_73 := Dj.new ho63.ltO hge73
          have hd64_73 := Dj.new ho64.ltO hge73
          have hd65_73 := Dj.new ho65.ltO hge73
          have hd66_73 := Dj.new ho66.ltO hge73
          have hd67_73 := Dj.new ho67.ltO hge73
          have hd68_73 := Dj.new ho68.ltO hge73
          refine ⟨Upd.trans hS hXw50, ?_⟩
          have hS := Upd.trans hS hXw50
          have hB := hB.trans hXw50
          have hBc := (by first | exact hBc.trans hXw50 | exact hB0.trans hXw50)
          have hb1 := hb1.up hXw50
          have hb2 := hb2.up hXw50
          have ho4 := ho4.up hXw50
          have ho5 := ho5.up hXw50
          have ho6 := ho6.up hXw50
          have hb3 := hb3.up hXw50
          have ho38 := ho38.up hXw50
          have ho39 := ho39.up hXw50
          have ho40 := ho40.up hXw50
          have hb41 := hb41.up hXw50
          have ho42 := ho42.up hXw50
          have ho43 := ho43.up hXw50
          have ho44 := ho44.up hXw50
          have hb45 := hb45.up hXw50
          have ho46 := ho46.up hXw50
          have ho47 := ho47.up hXw50
          have ho48 := ho48.up hXw50
          have hb49 := hb49.up hXw50
          have ho50 := ho50.up hXw50
          have ho51 := ho51.up hXw50
          have ho52 := ho52.up hXw50
          have ho53 := ho53.up hXw50
          have ho54 := ho54.up hXw50
          have ho55 := ho55.up hXw50
          have ho63 := ho63.up hXw50
          have ho64 := ho64.up hXw50
          have ho65 := ho65.up hXw50
          have ho66 := ho66.up hXw50
          have ho67 := ho67.up hXw50
          have ho68 := ho68.up hXw50
          refine HP.must rfl rfl (OpK.call rfl T.cf43 rfl (c_impl_MeetTrees (by first | assumption | exact Rd.up (by assumption) hB | exact Osl.rd (by assumption) | exact Osn.rdR (by assumption)) (by first | assumption | exact Rd.up (by assumption) hB | exact Osl.rd (by assumption) | exact Osn.rdR (by assumption)) (by first | assumption | exact Rd.up (by assumption) hB | exact Osl.rd (by assumption) | exact Osn.rdR (by assumption)) (by first | assumption | exact Rd.up (by assumption) hB | exact Osl.rd (by assumption) | exact Osn.rdR (by assumption)) (by first | assumption | exact Rd.up (by assumption) hB | exact Osl.rd (by assumption) | exact Osn.rdR (by assumption)) (by first | assumption | exact Rd.up (by assumption) hB | exact Osl.rd (by assumption) | exact Osn.rdR (by assumption))) (fun rv21 w51 hR => ?_))
          obtain ⟨hXw51, v74, og74, v75, og75, v76, og76, rfl, ho74, hq74, ho75, hq75, ho76, hq76, hd74_75, hd74_76, hd75_76⟩ := hR
          have hl74 := Lo.up hq74 hB
          have hv74 := Lo.up hq74 hS
          have hd1_74 := Dj.lo hb1.ltO hq74
          have hd2_74 := Dj.lo hb2.ltO hq74
          have hd4_74 := Dj.lo ho4.ltO hq74
          have hd5_74 := Dj.lo ho5.ltO hq74
          have hd6_74 := Dj.lo ho6.ltO hq74
          have hd3_74 := Dj.lo hb3.ltO hq74
          have hd38_74 := Dj.lo ho38.ltO hq74
          have hd39_74 := Dj.lo ho39.ltO hq74
          have hd40_74 := Dj.lo ho40.ltO hq74
          have hd41_74 := Dj.lo hb41.ltO hq74
          have hd42_74 := Dj.lo ho42.ltO hq74
          have hd43_74 := Dj.lo ho43.ltO hq74
          have hd44_74 := Dj.lo ho44.ltO hq74
          have hd45_74 := Dj.lo hb45.ltO hq74
          have hd46_74 := Dj.lo ho46.ltO hq74
          have hd47_74 := Dj.lo ho47.ltO hq74
          have hd48_74 := Dj.lo ho48.ltO hq74
          have hd49_74 := Dj.lo hb49.ltO hq74
          have hd50_74 := Dj.lo ho50.ltO hq74
          have hd51_74 := Dj.lo ho51.ltO hq74
          have hd52_74 := Dj.lo ho52.ltO hq74
          have hd53_74 := Dj.lo ho53.ltO hq74
          have hd54_74 := Dj.lo ho54.ltO hq74
          have hd55_74 := Dj.lo ho55.ltO hq74
          have hd63_74 := Dj.lo ho63.ltO hq74
          have hd64_74 := Dj.lo ho64.ltO hq74
          have hd65_74 := Dj.lo ho65.ltO hq74
          have hd66_74 := Dj.lo ho66.ltO hq74
          have hd67_74 := Dj.lo ho67.ltO hq74
          have hd68_74 := Dj.lo ho68.ltO hq74
          have hd73_74 := Dj.lo hb73.ltO hq74
          have hl75 := Lo.up hq75 hB
          have hv75 := Lo.up hq75 hS
          have hd1_75 := Dj.lo hb1.ltO hq75
          have hd2_75 := Dj.lo hb2.ltO hq75
          have hd4_75 := Dj.lo ho4.ltO hq75
          have hd5_75 := Dj.lo ho5.ltO hq75
          have hd6_75 := Dj.lo ho6.ltO hq75
          have hd3_75 := Dj.lo hb3.ltO hq75
          have hd38_75 := Dj.lo ho38.ltO hq75
          have hd39_75 := Dj.lo ho39.ltO hq75
          have hd40_75 := Dj.lo ho40.ltO hq75
          have hd41_75 := Dj.lo hb41.ltO hq75
          have hd42_75 := Dj.lo ho42.ltO hq75
          have hd43_75 := Dj.lo ho43.ltO hq75
          have hd44_75 := Dj.lo ho44.ltO hq75
          have hd45_75 := Dj.lo hb45.ltO hq75
          have hd46_75 := Dj.lo ho46.ltO hq75
          have hd47_75 := Dj.lo ho47.ltO hq75
          have hd48_75 := Dj.lo ho48.ltO hq75
          have hd49_75 := Dj.lo hb49.ltO hq75
          have hd50_75 := Dj.lo ho50.ltO hq75
          have hd51_75 := Dj.lo ho51.ltO hq75
          have hd52_75 := Dj.lo ho52.ltO hq75
          have hd53_75 := Dj.lo ho53.ltO hq75
          have hd54_75 := Dj.lo ho54.ltO hq75
          have hd55_75 := Dj.lo ho55.ltO hq75
          have hd63_75 := Dj.lo ho63.ltO hq75
          have hd64_75 := Dj.lo ho64.ltO hq75
          have hd65_75 := Dj.lo ho65.ltO hq75
          have hd66_75 := Dj.lo ho66.ltO hq75
          have hd67_75 := Dj.lo ho67.ltO hq75
          have hd68_75 := Dj.lo ho68.ltO hq75
          have hd73_75 := Dj.lo hb73.ltO hq75
          have hl76 := Lo.up hq76 hB
          have hv76 := Lo.up hq76 hS
          have hd1_76 := Dj.lo hb1.ltO hq76
          have hd2_76 := Dj.lo hb2.ltO hq76
          have hd4_76 := Dj.lo ho4.ltO hq76
          have hd5_76 := Dj.lo ho5.ltO hq76
          have hd6_76 := Dj.lo ho6.ltO hq76
          have hd3_76 := Dj.lo hb3.ltO hq76
          have hd38_76 := Dj.lo ho38.ltO hq76
          have hd39_76 := Dj.lo ho39.ltO hq76
          have hd40_76 := Dj.lo ho40.ltO hq76
          have hd41_76 := Dj.lo hb41.ltO hq76
          have hd42_76 := Dj.lo ho42.ltO hq76
          have hd43_76 := Dj.lo ho43.ltO hq76
          have hd44_76 := Dj.lo ho44.ltO hq76
          have hd45_76 := Dj.lo hb45.ltO hq76
          have hd46_76 := Dj.lo ho46.ltO hq76
          have hd47_76 := Dj.lo ho47.ltO hq76
          have hd48_76 := Dj.lo ho48.ltO hq76
          have hd49_76 := Dj.lo hb49.ltO hq76
          have hd50_76 := Dj.lo ho50.ltO hq76
          have hd51_76 := Dj.lo ho51.ltO hq76
          have hd52_76 := Dj.lo ho52.ltO hq76
          have hd53_76 := Dj.lo ho53.ltO hq76
          have hd54_76 := Dj.lo ho54.ltO hq76
          have hd55_76 := Dj.lo ho55.ltO hq76
          have hd63_76 := Dj.lo ho63.ltO hq76
          have hd64_76 := Dj.lo ho64.ltO hq76
          have hd65_76 := Dj.lo ho65.ltO hq76
          have hd66_76 := Dj.lo ho66.ltO hq76
          have hd67_76 := Dj.lo ho67.ltO hq76
          have hd68_76 := Dj.lo ho68.ltO hq76
          have hd73_76 := Dj.lo hb73.ltO hq76
          refine ⟨Upd.trans hS hXw51, ?_⟩
          have hS := Upd.trans hS hXw51
          have hB := hB.trans hXw51
          have hBc := (by first | exact hBc.trans hXw51 | exact hB0.trans hXw51)
          have hb1 := hb1.up hXw51
          have hb2 := hb2.up hXw51
          have ho4 := ho4.up hXw51
          have ho5 := ho5.up hXw51
          have ho6 := ho6.up hXw51
          have hb3 := hb3.up hXw51
          have ho38 := ho38.up hXw51
          have ho39 := ho39.up hXw51
          have ho40 := ho40.up hXw51
          have hb41 := hb41.up hXw51
          have ho42 := ho42.up hXw51
          have ho43 := ho43.up hXw51
          have ho44 := ho44.up hXw51
          have hb45 := hb45.up hXw51
          have ho46 := ho46.up hXw51
          have ho47 := ho47.up hXw51
          have ho48 := ho48.up hXw51
          have hb49 := hb49.up hXw51
          have ho50 := ho50.up hXw51
          have ho51 := ho51.up hXw51
          have ho52 := ho52.up hXw51
          have ho53 := ho53.up hXw51
          have ho54 := ho54.up hXw51
          have ho55 := ho55.up hXw51
          have ho63 := ho63.up hXw51
          have ho64 := ho64.up hXw51
          have ho65 := ho65.up hXw51
          have ho66 := ho66.up hXw51
          have ho67 := ho67.up hXw51
          have ho68 := ho68.up hXw51
          have hb73 := hb73.up hXw51
          refine HP.take rfl rfl rfl rfl hS (fun wS hS1 => PV.move rfl) ?_
          refine HP.take rfl rfl rfl rfl hS (fun wS hS1 => PV.extract rfl rfl) ?_
          refine HP.take rfl rfl rfl rfl hS (fun wS hS1 => PV.extract rfl rfl) ?_
          refine HP.must rfl rfl (OpK.storeA T.sz37 rfl rfl rfl rfl (by simp [Value.oneCell'] <;> first | done | (repeat' apply And.intro) <;> first | rfl | exact Osl.oneCell (by assumption) | exact Osn.oneCell (by assumption) | exact Rd.oneCell (by assumption) | assumption) hb73 (fun w52 hXw52 hb73 => ?_))
          refine ⟨Ext.updL hS hXw52 hv73, ?_⟩
          have hS := Ext.updL hS hXw52 hv73
          have hB := hB.updL hXw52 hl73
          have hBc := hBc.updL hXw52 (Lo.up hv73 hXd)
          have hb1 := hb1.updD hXw52 hd1_73
          have hb2 := hb2.updD hXw52 hd2_73
          have ho4 := ho4.updD hXw52 hd4_73
          have ho5 := ho5.updD hXw52 hd5_73
          have ho6 := ho6.updD hXw52 hd6_73
          have hb3 := hb3.updD hXw52 hd3_73
          have ho38 := ho38.updD hXw52 hd38_73
          have ho39 := ho39.updD hXw52 hd39_73
          have ho40 := ho40.updD hXw52 hd40_73
          have hb41 := hb41.updD hXw52 hd41_73
          have ho42 := ho42.updD hXw52 hd42_73
          have ho43 := ho43.updD hXw52 hd43_73
          have ho44 := ho44.updD hXw52 hd44_73
          have hb45 := hb45.updD hXw52 hd45_73
          have ho46 := ho46.updD hXw52 hd46_73
          have ho47 := ho47.updD hXw52 hd47_73
          have ho48 := ho48.updD hXw52 hd48_73
          have hb49 := hb49.updD hXw52 hd49_73
          have ho50 := ho50.updD hXw52 hd50_73
          have ho51 := ho51.updD hXw52 hd51_73
          have ho52 := ho52.updD hXw52 hd52_73
          have ho53 := ho53.updD hXw52 hd53_73
          have ho54 := ho54.updD hXw52 hd54_73
          have ho55 := ho55.updD hXw52 hd55_73
          have ho63 := ho63.updD hXw52 hd63_73
          have ho64 := ho64.updD hXw52 hd64_73
          have ho65 := ho65.updD hXw52 hd65_73
          have ho66 := ho66.updD hXw52 hd66_73
          have ho67 := ho67.updD hXw52 hd67_73
          have ho68 := ho68.updD hXw52 hd68_73
          have ho74 := ho74.updD hXw52 (Dj.symm hd73_74)
          have ho75 := ho75.updD hXw52 (Dj.symm hd73_75)
          have ho76 := ho76.updD hXw52 (Dj.symm hd73_76)
          refine HP.take rfl rfl rfl rfl hS (fun wS hS1 => PV.assign rfl) ?_
          refine HP.done ?_
          exact NQ.cut (ρ := [(15, _), (16, _)]) ⟨rfl, rfl, rfl, rfl, rfl, rfl, trivial⟩ ⟨v74, og74, v75, og75, v76, og76, b73, rfl, hBc, ho74, hl74, ho75, hl75, ho76, hl76, hb73, hl73, hd1_74, hd1_75, hd1_76, hd1_73, hd2_74, hd2_75, hd2_76, hd2_73, hd4_74, hd4_75, hd4_76, hd4_73, hd5_74, hd5_75, hd5_76, hd5_73, hd6_74, hd6_75, hd6_76, hd6_73, hd3_74, hd3_75, hd3_76, hd3_73, hd38_74, hd38_75, hd38_76, hd38_73, hd39_74, hd39_75, hd39_76, hd39_73, hd40_74, hd40_75, hd40_76, hd40_73, hd41_74, hd41_75, hd41_76, hd41_73, hd42_74, hd42_75, hd42_76, hd42_73, hd43_74, hd43_75, hd43_76, hd43_73, hd44_74, hd44_75, hd44_76, hd44_73, hd45_74, hd45_75, hd45_76, hd45_73, hd46_74, hd46_75, hd46_76, hd46_73, hd47_74, hd47_75, hd47_76, hd47_73, hd48_74, hd48_75, hd48_76, hd48_73, hd49_74, hd49_75, hd49_76, hd49_73, hd50_74, hd50_75, hd50_76, hd50_73, hd51_74, hd51_75, hd51_76, hd51_73, hd52_74, hd52_75, hd52_76, hd52_73, hd53_74, hd53_75, hd53_76, hd53_73, hd54_74, hd54_75, hd54_76, hd54_73, hd55_74, hd55_75, hd55_76, hd55_73, hd74_75, hd74_76, (Dj.symm hd73_74), hd75_76, (Dj.symm hd73_75), (Dj.symm hd73_76)⟩
      · skip
        refine (OpK.alloc rfl T.zv37 rfl (fun b77 w53 hXw53 hb77 hge77 => ?_))
        have hl77 := Lo.new hB hge77
        have hv77 := Lo.new hS hge77
        have hd1_77 := Dj.new hb1.ltO hge77
        have hd2_77 := Dj.new hb2.ltO hge77
        have hd4_77 := Dj.new ho4.ltO hge77
        have hd5_77 := Dj.new ho5.ltO hge77
        have hd6_77 := Dj.new ho6.ltO hge77
        have hd3_77 := Dj.new hb3.ltO hge77
        have hd38_77 := Dj.new ho38.ltO hge77
        have hd39_77 := Dj.new ho39.ltO hge77
        have hd40_77 := Dj.new ho40.ltO hge77
        have hd41_77 := Dj.new hb41.ltO hge77
        have hd42_77 := Dj.new ho42.ltO hge77
        have hd43_77 := Dj.new ho43.ltO hge77
        have hd44_77 := Dj.new ho44.ltO hge77
        have hd45_77 := Dj.new hb45.ltO hge77
        have hd46_77 := Dj.new ho46.ltO hge77
        have hd47_77 := Dj.new ho47.ltO hge77
        have hd48_77 := Dj.new ho48.ltO hge77
        have hd49_77 := Dj.new hb49.ltO hge77
        have hd50_77 := Dj.new ho50.ltO hge77
        have hd51_77 := Dj.new ho51.ltO hge77
        have hd52_77 := Dj.new ho52.ltO hge77
        have hd53_77 := Dj.new ho53.ltO hge77
        have hd54_77 := Dj.new ho54.ltO hge77
        have hd55_77 := Dj.new ho55.ltO hge77
        have hd63_77 := Dj.new ho63.ltO hge77
        have hd64_77 := Dj.new ho64.ltO hge77
        have hd65_77 := Dj.new ho65.ltO hge77
        refine ⟨Upd.trans hS hXw53, ?_⟩
        have hS := Upd.trans hS hXw53
        have hB := hB.trans hXw53
        have hBc := (by first | exact hBc.trans hXw53 | exact hB0.trans hXw53)
        have hb1 := hb1.up hXw53
        have hb2 := hb2.up hXw53
        have ho4 := ho4.up hXw53
        have ho5 := ho5.up hXw53
        have ho6 := ho6.up hXw53
        have hb3 := hb3.up hXw53
        have ho38 := ho38.up hXw53
        have ho39 := ho39.up hXw53
        have ho40 := ho40.up hXw53
        have hb41 := hb41.up hXw53
        have ho42 := ho42.up hXw53
        have ho43 := ho43.up hXw53
        have ho44 := ho44.up hXw53
        have hb45 := hb45.up hXw53
        have ho46 := ho46.up hXw53
        have ho47 := ho47.up hXw53
        have ho48 := ho48.up hXw53
        have hb49 := hb49.up hXw53
        have ho50 := ho50.up hXw53
        have ho51 := ho51.up hXw53
        have ho52 := ho52.up hXw53
        have ho53 := ho53.up hXw53
        have ho54 := ho54.up hXw53
        have ho55 := ho55.up hXw53
        have ho63 := ho63.up hXw53
        have ho64 := ho64.up hXw53
        have ho65 := ho65.up hXw53
        refine HP.must rfl rfl (OpK.call rfl T.cf29 rfl (c_laws_toTreeMachine (by first | assumption | exact Rd.up (by assumption) hB | exact Osl.rd (by assumption) | exact Osn.rdR (by assumption)) (by first | assumption | exact Rd.up (by assumption) hB | exact Osl.rd (by assumption) | exact Osn.rdR (by assumption)) (by first | assumption | exact Rd.up (by assumption) hB | exact Osl.rd (by assumption) | exact Osn.rdR (by assumption)) (by first | assumption | omega | (simp only [marks_len, marksB_len]; omega)) (by first | assumption | omega | (simp only [marks_len, marksB_len]; omega)) (by first | assumption | omega | (simp only [marks_len, marksB_len]; omega))) (fun rv22 w54 hR => ?_))
        obtain ⟨hXw54, v78, og78, v79, og79, v80, og80, rfl, ho78, hq78, ho79, hq79, ho80, hq80, hd78_79, hd78_80, hd79_80⟩ := hR
        have hl78 := Lo.up hq78 hB
        have hv78 := Lo.up hq78 hS
        have hd1_78 := Dj.lo hb1.ltO hq78
        have hd2_78 := Dj.lo hb2.ltO hq78
        have hd4_78 := Dj.lo ho4.ltO hq78
        have hd5_78 := Dj.lo ho5.ltO hq78
        have hd6_78 := Dj.lo ho6.ltO hq78
        have hd3_78 := Dj.lo hb3.ltO hq78
        have hd38_78 := Dj.lo ho38.ltO hq78
        have hd39_78 := Dj.lo ho39.ltO hq78
        have hd40_78 := Dj.lo ho40.ltO hq78
        have hd41_78 := Dj.lo hb41.ltO hq78
        have hd42_78 := Dj.lo ho42.ltO hq78
        have hd43_78 := Dj.lo ho43.ltO hq78
        have hd44_78 := Dj.lo ho44.ltO hq78
        have hd45_78 := Dj.lo hb45.ltO hq78
        have hd46_78 := Dj.lo ho46.ltO hq78
        have hd47_78 := Dj.lo ho47.ltO hq78
        have hd48_78 := Dj.lo ho48.ltO hq78
        have hd49_78 := Dj.lo hb49.ltO hq78
        have hd50_78 := Dj.lo ho50.ltO hq78
        have hd51_78 := Dj.lo ho51.ltO hq78
        have hd52_78 := Dj.lo ho52.ltO hq78
        have hd53_78 := Dj.lo ho53.ltO hq78
        have hd54_78 := Dj.lo ho54.ltO hq78
        have hd55_78 := Dj.lo ho55.ltO hq78
        have hd63_78 := Dj.lo ho63.ltO hq78
        have hd64_78 := Dj.lo ho64.ltO hq78
        have hd65_78 := Dj.lo ho65.ltO hq78
        have hd77_78 := Dj.lo hb77.ltO hq78
        have hl79 := Lo.up hq79 hB
        have hv79 := Lo.up hq79 hS
        have hd1_79 := Dj.lo hb1.ltO hq79
        have hd2_79 := Dj.lo hb2.ltO hq79
        have hd4_79 := Dj.lo ho4.ltO hq79
        have hd5_79 := Dj.lo ho5.ltO hq79
        have hd6_79 := Dj.lo ho6.ltO hq79
        have hd3_79 := Dj.lo hb3.ltO hq79
        have hd38_79 := Dj.lo ho38.ltO hq79
        have hd39_79 := Dj.lo ho39.ltO hq79
        have hd40_79 := Dj.lo ho40.ltO hq79
        have hd41_79 := Dj.lo hb41.ltO hq79
        have hd42_79 := Dj.lo ho42.ltO hq79
        have hd43_79 := Dj.lo ho43.ltO hq79
        have hd44_79 := Dj.lo ho44.ltO hq79
        have hd45_79 := Dj.lo hb45.ltO hq79
        have hd46_79 := Dj.lo ho46.ltO hq79
        have hd47_79 := Dj.lo ho47.ltO hq79
        have hd48_79 := Dj.lo ho48.ltO hq79
        have hd49_79 := Dj.lo hb49.ltO hq79
        have hd50_79 := Dj.lo ho50.ltO hq79
        have hd51_79 := Dj.lo ho51.ltO hq79
        have hd52_79 := Dj.lo ho52.ltO hq79
        have hd53_79 := Dj.lo ho53.ltO hq79
        have hd54_79 := Dj.lo ho54.ltO hq79
        have hd55_79 := Dj.lo ho55.ltO hq79
        have hd63_79 := Dj.lo ho63.ltO hq79
        have hd64_79 := Dj.lo ho64.ltO hq79
        have hd65_79 := Dj.lo ho65.ltO hq79
        have hd77_79 := Dj.lo hb77.ltO hq79
        have hl80 := Lo.up hq80 hB
        have hv80 := Lo.up hq80 hS
        have hd1_80 := Dj.lo hb1.ltO hq80
        have hd2_80 := Dj.lo hb2.ltO hq80
        have hd4_80 := Dj.lo ho4.ltO hq80
        have hd5_80 := Dj.lo ho5.ltO hq80
        have hd6_80 := Dj.lo ho6.ltO hq80
        have hd3_80 := Dj.lo hb3.ltO hq80
        have hd38_80 := Dj.lo ho38.ltO hq80
        have hd39_80 := Dj.lo ho39.ltO hq80
        have hd40_80 := Dj.lo ho40.ltO hq80
        have hd41_80 := Dj.lo hb41.ltO hq80
        have hd42_80 := Dj.lo ho42.ltO hq80
        have hd43_80 := Dj.lo ho43.ltO hq80
        have hd44_80 := Dj.lo ho44.ltO hq80
        have hd45_80 := Dj.lo hb45.ltO hq80
        have hd46_80 := Dj.lo ho46.ltO hq80
        have hd47_80 := Dj.lo ho47.ltO hq80
        have hd48_80 := Dj.lo ho48.ltO hq80
        have hd49_80 := Dj.lo hb49.ltO hq80
        have hd50_80 := Dj.lo ho50.ltO hq80
        have hd51_80 := Dj.lo ho51.ltO hq80
        have hd52_80 := Dj.lo ho52.ltO hq80
        have hd53_80 := Dj.lo ho53.ltO hq80
        have hd54_80 := Dj.lo ho54.ltO hq80
        have hd55_80 := Dj.lo ho55.ltO hq80
        have hd63_80 := Dj.lo ho63.ltO hq80
        have hd64_80 := Dj.lo ho64.ltO hq80
        have hd65_80 := Dj.lo ho65.ltO hq80
        have hd77_80 := Dj.lo hb77.ltO hq80
        refine ⟨Upd.trans hS hXw54, ?_⟩
        have hS := Upd.trans hS hXw54
        have hB := hB.trans hXw54
        have hBc := (by first | exact hBc.trans hXw54 | exact hB0.trans hXw54)
        have hb1 := hb1.up hXw54
        have hb2 := hb2.up hXw54
        have ho4 := ho4.up hXw54
        have ho5 := ho5.up hXw54
        have ho6 := ho6.up hXw54
        have hb3 := hb3.up hXw54
        have ho38 := ho38.up hXw54
        have ho39 := ho39.up hXw54
        have ho40 := ho40.up hXw54
        have hb41 := hb41.up hXw54
        have ho42 := ho42.up hXw54
        have ho43 := ho43.up hXw54
        have ho44 := ho44.up hXw54
        have hb45 := hb45.up hXw54
        have ho46 := ho46.up hXw54
        have ho47 := ho47.up hXw54
        have ho48 := ho48.up hXw54
        have hb49 := hb49.up hXw54
        have ho50 := ho50.up hXw54
        have ho51 := ho51.up hXw54
        have ho52 := ho52.up hXw54
        have ho53 := ho53.up hXw54
        have ho54 := ho54.up hXw54
        have ho55 := ho55.up hXw54
        have ho63 := ho63.up hXw54
        have ho64 := ho64.up hXw54
        have ho65 := ho65.up hXw54
        have hb77 := hb77.up hXw54
        refine HP.must rfl rfl (OpK.call rfl T.cf43 rfl (c_impl_MeetTrees (by first | assumption | exact Rd.up (by assumption) hB | exact Osl.rd (by assumption) | exact Osn.rdR (by assumption)) (by first | assumption | exact Rd.up (by assumption) hB | exact Osl.rd (by assumption) | exact Osn.rdR (by assumption)) (by first | assumption | exact Rd.up (by assumption) hB | exact Osl.rd (by assumption) | exact Osn.rdR (by assumption)) (by first | assumption | exact Rd.up (by assumption) hB | exact Osl.rd (by assumption) | exact Osn.rdR (by assumption)) (by first | assumption | exact Rd.up (by assumption) hB | exact Osl.rd (by assumption) | exact Osn.rdR (by assumption)) (by first | assumption | exact Rd.up (by assumption) hB | exact Osl.rd (by assumption) | exact Osn.rdR (by assumption))) (fun rv23 w55 hR => ?_))
        obtain ⟨hXw55, v81, og81, v82, og82, v83, og83, rfl, ho81, hq81, ho82, hq82, ho83, hq83, hd81_82, hd81_83, hd82_83⟩ := hR
        have hl81 := Lo.up hq81 hB
        have hv81 := Lo.up hq81 hS
        have hd1_81 := Dj.lo hb1.ltO hq81
        have hd2_81 := Dj.lo hb2.ltO hq81
        have hd4_81 := Dj.lo ho4.ltO hq81
        have hd5_81 := Dj.lo ho5.ltO hq81
        have hd6_81 := Dj.lo ho6.ltO hq81
        have hd3_81 := Dj.lo hb3.ltO hq81
        have hd38_81 := Dj.lo ho38.ltO hq81
        have hd39_81 := Dj.lo ho39.ltO hq81
        have hd40_81 := Dj.lo ho40.ltO hq81
        have hd41_81 := Dj.lo hb41.ltO hq81
        have hd42_81 := Dj.lo ho42.ltO hq81
        have hd43_81 := Dj.lo ho43.ltO hq81
        have hd44_81 := Dj.lo ho44.ltO hq81
        have hd45_81 := Dj.lo hb45.ltO hq81
        have hd46_81 := Dj.lo ho46.ltO hq81
        have hd47_81 := Dj.lo ho47.ltO hq81
        have hd48_81 := Dj.lo ho48.ltO hq81
        have hd49_81 := Dj.lo hb49.ltO hq81
        have hd50_81 := Dj.lo ho50.ltO hq81
        have hd51_81 := Dj.lo ho51.ltO hq81
        have hd52_81 := Dj.lo ho52.ltO hq81
        have hd53_81 := Dj.lo ho53.ltO hq81
        have hd54_81 := Dj.lo ho54.ltO hq81
        have hd55_81 := Dj.lo ho55.ltO hq81
        have hd63_81 := Dj.lo ho63.ltO hq81
        have hd64_81 := Dj.lo ho64.ltO hq81
        have hd65_81 := Dj.lo ho65.ltO hq81
        have hd77_81 := Dj.lo hb77.ltO hq81
        have hd78_81 := Dj.lo ho78.ltO hq81
        have hd79_81 := Dj.lo ho79.ltO hq81
        have hd80_81 := Dj.lo ho80.ltO hq81
        have hl82 := Lo.up hq82 hB
        have hv82 := Lo.up hq82 hS
        have hd1_82 := Dj.lo hb1.ltO hq82
        have hd2_82 := Dj.lo hb2.ltO hq82
        have hd4_82 := Dj.lo ho4.ltO hq82
        have hd5_82 := Dj.lo ho5.ltO hq82
        have hd6_82 := Dj.lo ho6.ltO hq82
        have hd3_82 := Dj.lo hb3.ltO hq82
        have hd38_82 := Dj.lo ho38.ltO hq82
        have hd39_82 := Dj.lo ho39.ltO hq82
        have hd40_82 := Dj.lo ho40.ltO hq82
        have hd41_82 := Dj.lo hb41.ltO hq82
        have hd42_82 := Dj.lo ho42.ltO hq82
        have hd43_82 := Dj.lo ho43.ltO hq82
        have hd44_82 := Dj.lo ho44.ltO hq82
        have hd45_82 := Dj.lo hb45.ltO hq82
        have hd46_82 := Dj.lo ho46.ltO hq82
        have hd47_82 := Dj.lo ho47.ltO hq82
        have hd48_82 := Dj.lo ho48.ltO hq82
        have hd49_82 := Dj.lo hb49.ltO hq82
        have hd50_82 := Dj.lo ho50.ltO hq82
        have hd51_82 := Dj.lo ho51.ltO hq82
        have hd52_82 := Dj.lo ho52.ltO hq82
        have hd53_82 := Dj.lo ho53.ltO hq82
        have hd54_82 := Dj.lo ho54.ltO hq82
        have hd55_82 := Dj.lo ho55.ltO hq82
        have hd63_82 := Dj.lo ho63.ltO hq82
        have hd64_82 := Dj.lo ho64.ltO hq82
        have hd65_82 := Dj.lo ho65.ltO hq82
        have hd77_82 := Dj.lo hb77.ltO hq82
        have hd78_82 := Dj.lo ho78.ltO hq82
        have hd79_82 := Dj.lo ho79.ltO hq82
        have hd80_82 := Dj.lo ho80.ltO hq82
        have hl83 := Lo.up hq83 hB
        have hv83 := Lo.up hq83 hS
        have hd1_83 := Dj.lo hb1.ltO hq83
        have hd2_83 := Dj.lo hb2.ltO hq83
        have hd4_83 := Dj.lo ho4.ltO hq83
        have hd5_83 := Dj.lo ho5.ltO hq83
        have hd6_83 := Dj.lo ho6.ltO hq83
        have hd3_83 := Dj.lo hb3.ltO hq83
        have hd38_83 := Dj.lo ho38.ltO hq83
        have hd39_83 := Dj.lo ho39.ltO hq83
        have hd40_83 := Dj.lo ho40.ltO hq83
        have hd41_83 := Dj.lo hb41.ltO hq83
        have hd42_83 := Dj.lo ho42.ltO hq83
        have hd43_83 := Dj.lo ho43.ltO hq83
        have hd44_83 := Dj.lo ho44.ltO hq83
        have hd45_83 := Dj.lo hb45.ltO hq83
        have hd46_83 := Dj.lo ho46.ltO hq83
        have hd47_83 := Dj.lo ho47.ltO hq83
        have hd48_83 := Dj.lo ho48.ltO hq83
        have hd49_83 := Dj.lo hb49.ltO hq83
        have hd50_83 := Dj.lo ho50.ltO hq83
        have hd51_83 := Dj.lo ho51.ltO hq83
        have hd52_83 := Dj.lo ho52.ltO hq83
        have hd53_83 := Dj.lo ho53.ltO hq83
        have hd54_83 := Dj.lo ho54.ltO hq83
        have hd55_83 := Dj.lo ho55.ltO hq83
        have hd63_83 := Dj.lo ho63.ltO hq83
        have hd64_83 := Dj.lo ho64.ltO hq83
        have hd65_83 := Dj.lo ho65.ltO hq83
        have hd77_83 := Dj.lo hb77.ltO hq83
        have hd78_83 := Dj.lo ho78.ltO hq83
        have hd79_83 := Dj.lo ho79.ltO hq83
        have hd80_83 := Dj.lo ho80.ltO hq83
        refine ⟨Upd.trans hS hXw55, ?_⟩
        have hS := Upd.trans hS hXw55
        have hB := hB.trans hXw55
        have hBc := (by first | exact hBc.trans hXw55 | exact hB0.trans hXw55)
        have hb1 := hb1.up hXw55
        have hb2 := hb2.up hXw55
        have ho4 := ho4.up hXw55
        have ho5 := ho5.up hXw55
        have ho6 := ho6.up hXw55
        have hb3 := hb3.up hXw55
        have ho38 := ho38.up hXw55
        have ho39 := ho39.up hXw55
        have ho40 := ho40.up hXw55
        have hb41 := hb41.up hXw55
        have ho42 := ho42.up hXw55
        have ho43 := ho43.up hXw55
        have ho44 := ho44.up hXw55
        have hb45 := hb45.up hXw55
        have ho46 := ho46.up hXw55
        have ho47 := ho47.up hXw55
        have ho48 := ho48.up hXw55
        have hb49 := hb49.up hXw55
        have ho50 := ho50.up hXw55
        have ho51 := ho51.up hXw55
        have ho52 := ho52.up hXw55
        have ho53 := ho53.up hXw55
        have ho54 := ho54.up hXw55
        have ho55 := ho55.up hXw55
        have ho63 := ho63.up hXw55
        have ho64 := ho64.up hXw55
        have ho65 := ho65.up hXw55
        have hb77 := hb77.up hXw55
        have ho78 := ho78.up hXw55
        have ho79 := ho79.up hXw55
        have ho80 := ho80.up hXw55
        refine HP.take rfl rfl rfl rfl hS (fun wS hS1 => PV.move rfl) ?_
        refine HP.take rfl rfl rfl rfl hS (fun wS hS1 => PV.extract rfl rfl) ?_
        refine HP.take rfl rfl rfl rfl hS (fun wS hS1 => PV.extract rfl rfl) ?_
        refine HP.must rfl rfl (OpK.storeA T.sz37 rfl rfl rfl rfl (by simp [Value.oneCell'] <;> first | done | (repeat' apply And.intro) <;> first | rfl | exact Osl.oneCell (by assumption) | exact Osn.oneCell (by assumption) | exact Rd.oneCell (by assumption) | assumption) hb77 (fun w56 hXw56 hb77 => ?_))
        refine ⟨Ext.updL hS hXw56 hv77, ?_⟩
        have hS := Ext.updL hS hXw56 hv77
        have hB := hB.updL hXw56 hl77
        have hBc := hBc.updL hXw56 (Lo.up hv77 hXd)
        have hb1 := hb1.updD hXw56 hd1_77
        have hb2 := hb2.updD hXw56 hd2_77
        have ho4 := ho4.updD hXw56 hd4_77
        have ho5 := ho5.updD hXw56 hd5_77
        have ho6 := ho6.updD hXw56 hd6_77
        have hb3 := hb3.updD hXw56 hd3_77
        have ho38 := ho38.updD hXw56 hd38_77
        have ho39 := ho39.updD hXw56 hd39_77
        have ho40 := ho40.updD hXw56 hd40_77
        have hb41 := hb41.updD hXw56 hd41_77
        have ho42 := ho42.updD hXw56 hd42_77
        have ho43 := ho43.updD hXw56 hd43_77
        have ho44 := ho44.updD hXw56 hd44_77
        have hb45 := hb45.updD hXw56 hd45_77
        have ho46 := ho46.updD hXw56 hd46_77
        have ho47 := ho47.updD hXw56 hd47_77
        have ho48 := ho48.updD hXw56 hd48_77
        have hb49 := hb49.updD hXw56 hd49_77
        have ho50 := ho50.updD hXw56 hd50_77
        have ho51 := ho51.updD hXw56 hd51_77
        have ho52 := ho52.updD hXw56 hd52_77
        have ho53 := ho53.updD hXw56 hd53_77
        have ho54 := ho54.updD hXw56 hd54_77
        have ho55 := ho55.updD hXw56 hd55_77
        have ho63 := ho63.updD hXw56 hd63_77
        have ho64 := ho64.updD hXw56 hd64_77
        have ho65 := ho65.updD hXw56 hd65_77
        have ho78 := ho78.updD hXw56 (Dj.symm hd77_78)
        have ho79 := ho79.updD hXw56 (Dj.symm hd77_79)
        have ho80 := ho80.updD hXw56 (Dj.symm hd77_80)
        have ho81 := ho81.updD hXw56 (Dj.symm hd77_81)
        have ho82 := ho82.updD hXw56 (Dj.symm hd77_82)
        have ho83 := ho83.updD hXw56 (Dj.symm hd77_83)
        refine HP.take rfl rfl rfl rfl hS (fun wS hS1 => PV.assign rfl) ?_
        refine HP.done ?_
        exact NQ.cut (ρ := [(15, _), (16, _)]) ⟨rfl, rfl, rfl, rfl, rfl, rfl, trivial⟩ ⟨v81, og81, v82, og82, v83, og83, b77, rfl, hBc, ho81, hl81, ho82, hl82, ho83, hl83, hb77, hl77, hd1_81, hd1_82, hd1_83, hd1_77, hd2_81, hd2_82, hd2_83, hd2_77, hd4_81, hd4_82, hd4_83, hd4_77, hd5_81, hd5_82, hd5_83, hd5_77, hd6_81, hd6_82, hd6_83, hd6_77, hd3_81, hd3_82, hd3_83, hd3_77, hd38_81, hd38_82, hd38_83, hd38_77, hd39_81, hd39_82, hd39_83, hd39_77, hd40_81, hd40_82, hd40_83, hd40_77, hd41_81, hd41_82, hd41_83, hd41_77, hd42_81, hd42_82, hd42_83, hd42_77, hd43_81, hd43_82, hd43_83, hd43_77, hd44_81, hd44_82, hd44_83, hd44_77, hd45_81, hd45_82, hd45_83, hd45_77, hd46_81, hd46_82, hd46_83, hd46_77, hd47_81, hd47_82, hd47_83, hd47_77, hd48_81, hd48_82, hd48_83, hd48_77, hd49_81, hd49_82, hd49_83, hd49_77, hd50_81, hd50_82, hd50_83, hd50_77, hd51_81, hd51_82, hd51_83, hd51_77, hd52_81, hd52_82, hd52_83, hd52_77, hd53_81, hd53_82, hd53_83, hd53_77, hd54_81, hd54_82, hd54_83, hd54_77, hd55_81, hd55_82, hd55_83, hd55_77, hd81_82, hd81_83, (Dj.symm hd77_81), hd82_83, (Dj.symm hd77_82), (Dj.symm hd77_83)⟩
    · skip
      refine (OpK.alloc rfl T.zv37 rfl (fun b84 w57 hXw57 hb84 hge84 => ?_))
      have hl84 := Lo.new hB hge84
      have hv84 := Lo.new hS hge84
      have hd1_84 := Dj.new hb1.ltO hge84
      have hd2_84 := Dj.new hb2.ltO hge84
      have hd4_84 := Dj.new ho4.ltO hge84
      have hd5_84 := Dj.new ho5.ltO hge84
      have hd6_84 := Dj.new ho6.ltO hge84
      have hd3_84 := Dj.new hb3.ltO hge84
      have hd38_84 := Dj.new ho38.ltO hge84
      have hd39_84 := Dj.new ho39.ltO hge84
      have hd40_84 := Dj.new ho40.ltO hge84
      have hd41_84 := Dj.new hb41.ltO hge84
      have hd42_84 := Dj.new ho42.ltO hge84
      have hd43_84 := Dj.new ho43.ltO hge84
      have hd44_84 := Dj.new ho44.ltO hge84
      have hd45_84 := Dj.new hb45.ltO hge84
      have hd46_84 := Dj.new ho46.ltO hge84
      have hd47_84 := Dj.new ho47.ltO hge84
      have hd48_84 := Dj.new ho48.ltO hge84
      have hd49_84 := Dj.new hb49.ltO hge84
      have hd50_84 := Dj.new ho50.ltO hge84
      have hd51_84 := Dj.new ho51.ltO hge84
      have hd52_84 := Dj.new ho52.ltO hge84
      have hd53_84 := Dj.new ho53.ltO hge84
      have hd54_84 := Dj.new ho54.ltO hge84
      have hd55_84 := Dj.new ho55.ltO hge84
      refine ⟨Upd.trans hS hXw57, ?_⟩
      have hS := Upd.trans hS hXw57
      have hB := hB.trans hXw57
      have hBc := (by first | exact hBc.trans hXw57 | exact hB0.trans hXw57)
      have hb1 := hb1.up hXw57
      have hb2 := hb2.up hXw57
      have ho4 := ho4.up hXw57
      have ho5 := ho5.up hXw57
      have ho6 := ho6.up hXw57
      have hb3 := hb3.up hXw57
      have ho38 := ho38.up hXw57
      have ho39 := ho39.up hXw57
      have ho40 := ho40.up hXw57
      have hb41 := hb41.up hXw57
      have ho42 := ho42.up hXw57
      have ho43 := ho43.up hXw57
      have ho44 := ho44.up hXw57
      have hb45 := hb45.up hXw57
      have ho46 := ho46.up hXw57
      have ho47 := ho47.up hXw57
      have ho48 := ho48.up hXw57
      have hb49 := hb49.up hXw57
      have ho50 := ho50.up hXw57
      have ho51 := ho51.up hXw57
      have ho52 := ho52.up hXw57
      have ho53 := ho53.up hXw57
      have ho54 := ho54.up hXw57
      have ho55 := ho55.up hXw57
      refine HP.must rfl rfl (OpK.call rfl T.cf29 rfl (c_laws_toTreeMachine (by first | assumption | exact Rd.up (by assumption) hB | exact Osl.rd (by assumption) | exact Osn.rdR (by assumption)) (by first | assumption | exact Rd.up (by assumption) hB | exact Osl.rd (by assumption) | exact Osn.rdR (by assumption)) (by first | assumption | exact Rd.up (by assumption) hB | exact Osl.rd (by assumption) | exact Osn.rdR (by assumption)) (by first | assumption | omega | (simp only [marks_len, marksB_len]; omega)) (by first | assumption | omega | (simp only [marks_len, marksB_len]; omega)) (by first | assumption | omega | (simp only [marks_len, marksB_len]; omega))) (fun rv24 w58 hR => ?_))
      obtain ⟨hXw58, v85, og85, v86, og86, v87, og87, rfl, ho85, hq85, ho86, hq86, ho87, hq87, hd85_86, hd85_87, hd86_87⟩ := hR
      have hl85 := Lo.up hq85 hB
      have hv85 := Lo.up hq85 hS
      have hd1_85 := Dj.lo hb1.ltO hq85
      have hd2_85 := Dj.lo hb2.ltO hq85
      have hd4_85 := Dj.lo ho4.ltO hq85
      have hd5_85 := Dj.lo ho5.ltO hq85
      have hd6_85 := Dj.lo ho6.ltO hq85
      have hd3_85 := Dj.lo hb3.ltO hq85
      have hd38_85 := Dj.lo ho38.ltO hq85
      have hd39_85 := Dj.lo ho39.ltO hq85
      have hd40_85 := Dj.lo ho40.ltO hq85
      have hd41_85 := Dj.lo hb41.ltO hq85
      have hd42_85 := Dj.lo ho42.ltO hq85
      have hd43_85 := Dj.lo ho43.ltO hq85
      have hd44_85 := Dj.lo ho44.ltO hq85
      have hd45_85 := Dj.lo hb45.ltO hq85
      have hd46_85 := Dj.lo ho46.ltO hq85
      have hd47_85 := Dj.lo ho47.ltO hq85
      have hd48_85 := Dj.lo ho48.ltO hq85
      have hd49_85 := Dj.lo hb49.ltO hq85
      have hd50_85 := Dj.lo ho50.ltO hq85
      have hd51_85 := Dj.lo ho51.ltO hq85
      have hd52_85 := Dj.lo ho52.ltO hq85
      have hd53_85 := Dj.lo ho53.ltO hq85
      have hd54_85 := Dj.lo ho54.ltO hq85
      have hd55_85 := Dj.lo ho55.ltO hq85
      have hd84_85 := Dj.lo hb84.ltO hq85
      have hl86 := Lo.up hq86 hB
      have hv86 := Lo.up hq86 hS
      have hd1_86 := Dj.lo hb1.ltO hq86
      have hd2_86 := Dj.lo hb2.ltO hq86
      have hd4_86 := Dj.lo ho4.ltO hq86
      have hd5_86 := Dj.lo ho5.ltO hq86
      have hd6_86 := Dj.lo ho6.ltO hq86
      have hd3_86 := Dj.lo hb3.ltO hq86
      have hd38_86 := Dj.lo ho38.ltO hq86
      have hd39_86 := Dj.lo ho39.ltO hq86
      have hd40_86 := Dj.lo ho40.ltO hq86
      have hd41_86 := Dj.lo hb41.ltO hq86
      have hd42_86 := Dj.lo ho42.ltO hq86
      have hd43_86 := Dj.lo ho43.ltO hq86
      have hd44_86 := Dj.lo ho44.ltO hq86
      have hd45_86 := Dj.lo hb45.ltO hq86
      have hd46_86 := Dj.lo ho46.ltO hq86
      have hd47_86 := Dj.lo ho47.ltO hq86
      have hd48_86 := Dj.lo ho48.ltO hq86
      have hd49_86 := Dj.lo hb49.ltO hq86
      have hd50_86 := Dj.lo ho50.ltO hq86
      have hd51_86 := Dj.lo ho51.ltO hq86
      have hd52_86 := Dj.lo ho52.ltO hq86
      have hd53_86 := Dj.lo ho53.ltO hq86
      have hd54_86 := Dj.lo ho54.ltO hq86
      have hd55_86 := Dj.lo ho55.ltO hq86
      have hd84_86 := Dj.lo hb84.ltO hq86
      have hl87 := Lo.up hq87 hB
      have hv87 := Lo.up hq87 hS
      have hd1_87 := Dj.lo hb1.ltO hq87
      have hd2_87 := Dj.lo hb2.ltO hq87
      have hd4_87 := Dj.lo ho4.ltO hq87
      have hd5_87 := Dj.lo ho5.ltO hq87
      have hd6_87 := Dj.lo ho6.ltO hq87
      have hd3_87 := Dj.lo hb3.ltO hq87
      have hd38_87 := Dj.lo ho38.ltO hq87
      have hd39_87 := Dj.lo ho39.ltO hq87
      have hd40_87 := Dj.lo ho40.ltO hq87
      have hd41_87 := Dj.lo hb41.ltO hq87
      have hd42_87 := Dj.lo ho42.ltO hq87
      have hd43_87 := Dj.lo ho43.ltO hq87
      have hd44_87 := Dj.lo ho44.ltO hq87
      have hd45_87 := Dj.lo hb45.ltO hq87
      have hd46_87 := Dj.lo ho46.ltO hq87
      have hd47_87 := Dj.lo ho47.ltO hq87
      have hd48_87 := Dj.lo ho48.ltO hq87
      have hd49_87 := Dj.lo hb49.ltO hq87
      have hd50_87 := Dj.lo ho50.ltO hq87
      have hd51_87 := Dj.lo ho51.ltO hq87
      have hd52_87 := Dj.lo ho52.ltO hq87
      have hd53_87 := Dj.lo ho53.ltO hq87
      have hd54_87 := Dj.lo ho54.ltO hq87
      have hd55_87 := Dj.lo ho55.ltO hq87
      have hd84_87 := Dj.lo hb84.ltO hq87
      refine ⟨Upd.trans hS hXw58, ?_⟩
      have hS := Upd.trans hS hXw58
      have hB := hB.trans hXw58
      have hBc := (by first | exact hBc.trans hXw58 | exact hB0.trans hXw58)
      have hb1 := hb1.up hXw58
      have hb2 := hb2.up hXw58
      have ho4 := ho4.up hXw58
      have ho5 := ho5.up hXw58
      have ho6 := ho6.up hXw58
      have hb3 := hb3.up hXw58
      have ho38 := ho38.up hXw58
      have ho39 := ho39.up hXw58
      have ho40 := ho40.up hXw58
      have hb41 := hb41.up hXw58
      have ho42 := ho42.up hXw58
      have ho43 := ho43.up hXw58
      have ho44 := ho44.up hXw58
      have hb45 := hb45.up hXw58
      have ho46 := ho46.up hXw58
      have ho47 := ho47.up hXw58
      have ho48 := ho48.up hXw58
      have hb49 := hb49.up hXw58
      have ho50 := ho50.up hXw58
      have ho51 := ho51.up hXw58
      have ho52 := ho52.up hXw58
      have ho53 := ho53.up hXw58
      have ho54 := ho54.up hXw58
      have ho55 := ho55.up hXw58
      have hb84 := hb84.up hXw58
      refine HP.must rfl rfl (OpK.call rfl T.cf29 rfl (c_laws_toTreeMachine (by first | assumption | exact Rd.up (by assumption) hB | exact Osl.rd (by assumption) | exact Osn.rdR (by assumption)) (by first | assumption | exact Rd.up (by assumption) hB | exact Osl.rd (by assumption) | exact Osn.rdR (by assumption)) (by first | assumption | exact Rd.up (by assumption) hB | exact Osl.rd (by assumption) | exact Osn.rdR (by assumption)) (by first | assumption | omega | (simp only [marks_len, marksB_len]; omega)) (by first | assumption | omega | (simp only [marks_len, marksB_len]; omega)) (by first | assumption | omega | (simp only [marks_len, marksB_len]; omega))) (fun rv25 w59 hR => ?_))
      obtain ⟨hXw59, v88, og88, v89, og89, v90, og90, rfl, ho88, hq88, ho89, hq89, ho90, hq90, hd88_89, hd88_90, hd89_90⟩ := hR
      have hl88 := Lo.up hq88 hB
      have hv88 := Lo.up hq88 hS
      have hd1_88 := Dj.lo hb1.ltO hq88
      have hd2_88 := Dj.lo hb2.ltO hq88
      have hd4_88 := Dj.lo ho4.ltO hq88
      have hd5_88 := Dj.lo ho5.ltO hq88
      have hd6_88 := Dj.lo ho6.ltO hq88
      have hd3_88 := Dj.lo hb3.ltO hq88
      have hd38_88 := Dj.lo ho38.ltO hq88
      have hd39_88 := Dj.lo ho39.ltO hq88
      have hd40_88 := Dj.lo ho40.ltO hq88
      have hd41_88 := Dj.lo hb41.ltO hq88
      have hd42_88 := Dj.lo ho42.ltO hq88
      have hd43_88 := Dj.lo ho43.ltO hq88
      have hd44_88 := Dj.lo ho44.ltO hq88
      have hd45_88 := Dj.lo hb45.ltO hq88
      have hd46_88 := Dj.lo ho46.ltO hq88
      have hd47_88 := Dj.lo ho47.ltO hq88
      have hd48_88 := Dj.lo ho48.ltO hq88
      have hd49_88 := Dj.lo hb49.ltO hq88
      have hd50_88 := Dj.lo ho50.ltO hq88
      have hd51_88 := Dj.lo ho51.ltO hq88
      have hd52_88 := Dj.lo ho52.ltO hq88
      have hd53_88 := Dj.lo ho53.ltO hq88
      have hd54_88 := Dj.lo ho54.ltO hq88
      have hd55_88 := Dj.lo ho55.ltO hq88
      have hd84_88 := Dj.lo hb84.ltO hq88
      have hd85_88 := Dj.lo ho85.ltO hq88
      have hd86_88 := Dj.lo ho86.ltO hq88
      have hd87_88 := Dj.lo ho87.ltO hq88
      have hl89 := Lo.up hq89 hB
      have hv89 := Lo.up hq89 hS
      have hd1_89 := Dj.lo hb1.ltO hq89
      have hd2_89 := Dj.lo hb2.ltO hq89
      have hd4_89 := Dj.lo ho4.ltO hq89
      have hd5_89 := Dj.lo ho5.ltO hq89
      have hd6_89 := Dj.lo ho6.ltO hq89
      have hd3_89 := Dj.lo hb3.ltO hq89
      have hd38_89 := Dj.lo ho38.ltO hq89
      have hd39_89 := Dj.lo ho39.ltO hq89
      have hd40_89 := Dj.lo ho40.ltO hq89
      have hd41_89 := Dj.lo hb41.ltO hq89
      have hd42_89 := Dj.lo ho42.ltO hq89
      have hd43_89 := Dj.lo ho43.ltO hq89
      have hd44_89 := Dj.lo ho44.ltO hq89
      have hd45_89 := Dj.lo hb45.ltO hq89
      have hd46_89 := Dj.lo ho46.ltO hq89
      have hd47_89 := Dj.lo ho47.ltO hq89
      have hd48_89 := Dj.lo ho48.ltO hq89
      have hd49_89 := Dj.lo hb49.ltO hq89
      have hd50_89 := Dj.lo ho50.ltO hq89
      have hd51_89 := Dj.lo ho51.ltO hq89
      have hd52_89 := Dj.lo ho52.ltO hq89
      have hd53_89 := Dj.lo ho53.ltO hq89
      have hd54_89 := Dj.lo ho54.ltO hq89
      have hd55_89 := Dj.lo ho55.ltO hq89
      have hd84_89 := Dj.lo hb84.ltO hq89
      have hd85_89 := Dj.lo ho85.ltO hq89
      have hd86_89 := Dj.lo ho86.ltO hq89
      have hd87_89 := Dj.lo ho87.ltO hq89
      have hl90 := Lo.up hq90 hB
      have hv90 := Lo.up hq90 hS
      have hd1_90 := Dj.lo hb1.ltO hq90
      have hd2_90 := Dj.lo hb2.ltO hq90
      have hd4_90 := Dj.lo ho4.ltO hq90
      have hd5_90 := Dj.lo ho5.ltO hq90
      have hd6_90 := Dj.lo ho6.ltO hq90
      have hd3_90 := Dj.lo hb3.ltO hq90
      have hd38_90 := Dj.lo ho38.ltO hq90
      have hd39_90 := Dj.lo ho39.ltO hq90
      have hd40_90 := Dj.lo ho40.ltO hq90
      have hd41_90 := Dj.lo hb41.ltO hq90
      have hd42_90 := Dj.lo ho42.ltO hq90
      have hd43_90 := Dj.lo ho43.ltO hq90
      have hd44_90 := Dj.lo ho44.ltO hq90
      have hd45_90 := Dj.lo hb45.ltO hq90
      have hd46_90 := Dj.lo ho46.ltO hq90
      have hd47_90 := Dj.lo ho47.ltO hq90
      have hd48_90 := Dj.lo ho48.ltO hq90
      have hd49_90 := Dj.lo hb49.ltO hq90
      have hd50_90 := Dj.lo ho50.ltO hq90
      have hd51_90 := Dj.lo ho51.ltO hq90
      have hd52_90 := Dj.lo ho52.ltO hq90
      have hd53_90 := Dj.lo ho53.ltO hq90
      have hd54_90 := Dj.lo ho54.ltO hq90
      have hd55_90 := Dj.lo ho55.ltO hq90
      have hd84_90 := Dj.lo hb84.ltO hq90
      have hd85_90 := Dj.lo ho85.ltO hq90
      have hd86_90 := Dj.lo ho86.ltO hq90
      have hd87_90 := Dj.lo ho87.ltO hq90
      refine ⟨Upd.trans hS hXw59, ?_⟩
      have hS := Upd.trans hS hXw59
      have hB := hB.trans hXw59
      have hBc := (by first | exact hBc.trans hXw59 | exact hB0.trans hXw59)
      have hb1 := hb1.up hXw59
      have hb2 := hb2.up hXw59
      have ho4 := ho4.up hXw59
      have ho5 := ho5.up hXw59
      have ho6 := ho6.up hXw59
      have hb3 := hb3.up hXw59
      have ho38 := ho38.up hXw59
      have ho39 := ho39.up hXw59
      have ho40 := ho40.up hXw59
      have hb41 := hb41.up hXw59
      have ho42 := ho42.up hXw59
      have ho43 := ho43.up hXw59
      have ho44 := ho44.up hXw59
      have hb45 := hb45.up hXw59
      have ho46 := ho46.up hXw59
      have ho47 := ho47.up hXw59
      have ho48 := ho48.up hXw59
      have hb49 := hb49.up hXw59
      have ho50 := ho50.up hXw59
      have ho51 := ho51.up hXw59
      have ho52 := ho52.up hXw59
      have ho53 := ho53.up hXw59
      have ho54 := ho54.up hXw59
      have ho55 := ho55.up hXw59
      have hb84 := hb84.up hXw59
      have ho85 := ho85.up hXw59
      have ho86 := ho86.up hXw59
      have ho87 := ho87.up hXw59
      refine HP.must rfl rfl (OpK.call rfl T.cf43 rfl (c_impl_MeetTrees (by first | assumption | exact Rd.up (by assumption) hB | exact Osl.rd (by assumption) | exact Osn.rdR (by assumption)) (by first | assumption | exact Rd.up (by assumption) hB | exact Osl.rd (by assumption) | exact Osn.rdR (by assumption)) (by first | assumption | exact Rd.up (by assumption) hB | exact Osl.rd (by assumption) | exact Osn.rdR (by assumption)) (by first | assumption | exact Rd.up (by assumption) hB | exact Osl.rd (by assumption) | exact Osn.rdR (by assumption)) (by first | assumption | exact Rd.up (by assumption) hB | exact Osl.rd (by assumption) | exact Osn.rdR (by assumption)) (by first | assumption | exact Rd.up (by assumption) hB | exact Osl.rd (by assumption) | exact Osn.rdR (by assumption))) (fun rv26 w60 hR => ?_))
      obtain ⟨hXw60, v91, og91, v92, og92, v93, og93, rfl, ho91, hq91, ho92, hq92, ho93, hq93, hd91_92, hd91_93, hd92_93⟩ := hR
      have hl91 := Lo.up hq91 hB
      have hv91 := Lo.up hq91 hS
      have hd1_91 := Dj.lo hb1.ltO hq91
      have hd2_91 := Dj.lo hb2.ltO hq91
      have hd4_91 := Dj.lo ho4.ltO hq91
      have hd5_91 := Dj.lo ho5.ltO hq91
      have hd6_91 := Dj.lo ho6.ltO hq91
      have hd3_91 := Dj.lo hb3.ltO hq91
      have hd38_91 := Dj.lo ho38.ltO hq91
      have hd39_91 := Dj.lo ho39.ltO hq91
      have hd40_91 := Dj.lo ho40.ltO hq91
      have hd41_91 := Dj.lo hb41.ltO hq91
      have hd42_91 := Dj.lo ho42.ltO hq91
      have hd43_91 := Dj.lo ho43.ltO hq91
      have hd44_91 := Dj.lo ho44.ltO hq91
      have hd45_91 := Dj.lo hb45.ltO hq91
      have hd46_91 := Dj.lo ho46.ltO hq91
      have hd47_91 := Dj.lo ho47.ltO hq91
      have hd48_91 := Dj.lo ho48.ltO hq91
      have hd49_91 := Dj.lo hb49.ltO hq91
      have hd50_91 := Dj.lo ho50.ltO hq91
      have hd51_91 := Dj.lo ho51.ltO hq91
      have hd52_91 := Dj.lo ho52.ltO hq91
      have hd53_91 := Dj.lo ho53.ltO hq91
      have hd54_91 := Dj.lo ho54.ltO hq91
      have hd55_91 := Dj.lo ho55.ltO hq91
      have hd84_91 := Dj.lo hb84.ltO hq91
      have hd85_91 := Dj.lo ho85.ltO hq91
      have hd86_91 := Dj.lo ho86.ltO hq91
      have hd87_91 := Dj.lo ho87.ltO hq91
      have hd88_91 := Dj.lo ho88.ltO hq91
      have hd89_91 := Dj.lo ho89.ltO hq91
      have hd90_91 := Dj.lo ho90.ltO hq91
      have hl92 := Lo.up hq92 hB
      have hv92 := Lo.up hq92 hS
      have hd1_92 := Dj.lo hb1.ltO hq92
      have hd2_92 := Dj.lo hb2.ltO hq92
      have hd4_92 := Dj.lo ho4.ltO hq92
      have hd5_92 := Dj.lo ho5.ltO hq92
      have hd6_92 := Dj.lo ho6.ltO hq92
      have hd3_92 := Dj.lo hb3.ltO hq92
      have hd38_92 := Dj.lo ho38.ltO hq92
      have hd39_92 := Dj.lo ho39.ltO hq92
      have hd40_92 := Dj.lo ho40.ltO hq92
      have hd41_92 := Dj.lo hb41.ltO hq92
      have hd42_92 := Dj.lo ho42.ltO hq92
      have hd43_92 := Dj.lo ho43.ltO hq92
      have hd44_92 := Dj.lo ho44.ltO hq92
      have hd45_92 := Dj.lo hb45.ltO hq92
      have hd46_92 := Dj.lo ho46.ltO hq92
      have hd47_92 := Dj.lo ho47.ltO hq92
      have hd48_92 := Dj.lo ho48.ltO hq92
      have hd49_92 := Dj.lo hb49.ltO hq92
      have hd50_92 := Dj.lo ho50.ltO hq92
      have hd51_92 := Dj.lo ho51.ltO hq92
      have hd52_92 := Dj.lo ho52.ltO hq92
      have hd53_92 := Dj.lo ho53.ltO hq92
      have hd54_92 := Dj.lo ho54.ltO hq92
      have hd55_92 := Dj.lo ho55.ltO hq92
      have hd84_92 := Dj.lo hb84.ltO hq92
      have hd85_92 := Dj.lo ho85.ltO hq92
      have hd86_92 := Dj.lo ho86.ltO hq92
      have hd87_92 := Dj.lo ho87.ltO hq92
      have hd88_92 := Dj.lo ho88.ltO hq92
      have hd89_92 := Dj.lo ho89.ltO hq92
      have hd90_92 := Dj.lo ho90.ltO hq92
      have hl93 := Lo.up hq93 hB
      have hv93 := Lo.up hq93 hS
      have hd1_93 := Dj.lo hb1.ltO hq93
      have hd2_93 := Dj.lo hb2.ltO hq93
      have hd4_93 := Dj.lo ho4.ltO hq93
      have hd5_93 := Dj.lo ho5.ltO hq93
      have hd6_93 := Dj.lo ho6.ltO hq93
      have hd3_93 := Dj.lo hb3.ltO hq93
      have hd38_93 := Dj.lo ho38.ltO hq93
      have hd39_93 := Dj.lo ho39.ltO hq93
      have hd40_93 := Dj.lo ho40.ltO hq93
      have hd41_93 := Dj.lo hb41.ltO hq93
      have hd42_93 := Dj.lo ho42.ltO hq93
      have hd43_93 := Dj.lo ho43.ltO hq93
      have hd44_93 := Dj.lo ho44.ltO hq93
      have hd45_93 := Dj.lo hb45.ltO hq93
      have hd46_93 := Dj.lo ho46.ltO hq93
      have hd47_93 := Dj.lo ho47.ltO hq93
      have hd48_93 := Dj.lo ho48.ltO hq93
      have hd49_93 := Dj.lo hb49.ltO hq93
      have hd50_93 := Dj.lo ho50.ltO hq93
      have hd51_93 := Dj.lo ho51.ltO hq93
      have hd52_93 := Dj.lo ho52.ltO hq93
      have hd53_93 := Dj.lo ho53.ltO hq93
      have hd54_93 := Dj.lo ho54.ltO hq93
      have hd55_93 := Dj.lo ho55.ltO hq93
      have hd84_93 := Dj.lo hb84.ltO hq93
      have hd85_93 := Dj.lo ho85.ltO hq93
      have hd86_93 := Dj.lo ho86.ltO hq93
      have hd87_93 := Dj.lo ho87.ltO hq93
      have hd88_93 := Dj.lo ho88.ltO hq93
      have hd89_93 := Dj.lo ho89.ltO hq93
      have hd90_93 := Dj.lo ho90.ltO hq93
      refine ⟨Upd.trans hS hXw60, ?_⟩
      have hS := Upd.trans hS hXw60
      have hB := hB.trans hXw60
      have hBc := (by first | exact hBc.trans hXw60 | exact hB0.trans hXw60)
      have hb1 := hb1.up hXw60
      have hb2 := hb2.up hXw60
      have ho4 := ho4.up hXw60
      have ho5 := ho5.up hXw60
      have ho6 := ho6.up hXw60
      have hb3 := hb3.up hXw60
      have ho38 := ho38.up hXw60
      have ho39 := ho39.up hXw60
      have ho40 := ho40.up hXw60
      have hb41 := hb41.up hXw60
      have ho42 := ho42.up hXw60
      have ho43 := ho43.up hXw60
      have ho44 := ho44.up hXw60
      have hb45 := hb45.up hXw60
      have ho46 := ho46.up hXw60
      have ho47 := ho47.up hXw60
      have ho48 := ho48.up hXw60
      have hb49 := hb49.up hXw60
      have ho50 := ho50.up hXw60
      have ho51 := ho51.up hXw60
      have ho52 := ho52.up hXw60
      have ho53 := ho53.up hXw60
      have ho54 := ho54.up hXw60
      have ho55 := ho55.up hXw60
      have hb84 := hb84.up hXw60
      have ho85 := ho85.up hXw60
      have ho86 := ho86.up hXw60
      have ho87 := ho87.up hXw60
      have ho88 := ho88.up hXw60
      have ho89 := ho89.up hXw60
      have ho90 := ho90.up hXw60
      refine HP.take rfl rfl rfl rfl hS (fun wS hS1 => PV.move rfl) ?_
      refine HP.take rfl rfl rfl rfl hS (fun wS hS1 => PV.extract rfl rfl) ?_
      refine HP.take rfl rfl rfl rfl hS (fun wS hS1 => PV.extract rfl rfl) ?_
      refine HP.must rfl rfl (OpK.storeA T.sz37 rfl rfl rfl rfl (by simp [Value.oneCell'] <;> first | done | (repeat' apply And.intro) <;> first | rfl | exact Osl.oneCell (by assumption) | exact Osn.oneCell (by assumption) | exact Rd.oneCell (by assumption) | assumption) hb84 (fun w61 hXw61 hb84 => ?_))
      refine ⟨Ext.updL hS hXw61 hv84, ?_⟩
      have hS := Ext.updL hS hXw61 hv84
      have hB := hB.updL hXw61 hl84
      have hBc := hBc.updL hXw61 (Lo.up hv84 hXd)
      have hb1 := hb1.updD hXw61 hd1_84
      have hb2 := hb2.updD hXw61 hd2_84
      have ho4 := ho4.updD hXw61 hd4_84
      have ho5 := ho5.updD hXw61 hd5_84
      have ho6 := ho6.updD hXw61 hd6_84
      have hb3 := hb3.updD hXw61 hd3_84
      have ho38 := ho38.updD hXw61 hd38_84
      have ho39 := ho39.updD hXw61 hd39_84
      have ho40 := ho40.updD hXw61 hd40_84
      have hb41 := hb41.updD hXw61 hd41_84
      have ho42 := ho42.updD hXw61 hd42_84
      have ho43 := ho43.updD hXw61 hd43_84
      have ho44 := ho44.updD hXw61 hd44_84
      have hb45 := hb45.updD hXw61 hd45_84
      have ho46 := ho46.updD hXw61 hd46_84
      have ho47 := ho47.updD hXw61 hd47_84
      have ho48 := ho48.updD hXw61 hd48_84
      have hb49 := hb49.updD hXw61 hd49_84
      have ho50 := ho50.updD hXw61 hd50_84
      have ho51 := ho51.updD hXw61 hd51_84
      have ho52 := ho52.updD hXw61 hd52_84
      have ho53 := ho53.updD hXw61 hd53_84
      have ho54 := ho54.updD hXw61 hd54_84
      have ho55 := ho55.updD hXw61 hd55_84
      have ho85 := ho85.updD hXw61 (Dj.symm hd84_85)
      have ho86 := ho86.updD hXw61 (Dj.symm hd84_86)
      have ho87 := ho87.updD hXw61 (Dj.symm hd84_87)
      have ho88 := ho88.updD hXw61 (Dj.symm hd84_88)
      have ho89 := ho89.updD hXw61 (Dj.symm hd84_89)
      have ho90 := ho90.updD hXw61 (Dj.symm hd84_90)
      have ho91 := ho91.updD hXw61 (Dj.symm hd84_91)
      have ho92 := ho92.updD hXw61 (Dj.symm hd84_92)
      have ho93 := ho93.updD hXw61 (Dj.symm hd84_93)
      refine HP.take rfl rfl rfl rfl hS (fun wS hS1 => PV.assign rfl) ?_
      refine HP.done ?_
      exact NQ.cut (ρ := [(15, _), (16, _)]) ⟨rfl, rfl, rfl, rfl, rfl, rfl, trivial⟩ ⟨v91, og91, v92, og92, v93, og93, b84, rfl, hBc, ho91, hl91, ho92, hl92, ho93, hl93, hb84, hl84, hd1_91, hd1_92, hd1_93, hd1_84, hd2_91, hd2_92, hd2_93, hd2_84, hd4_91, hd4_92, hd4_93, hd4_84, hd5_91, hd5_92, hd5_93, hd5_84, hd6_91, hd6_92, hd6_93, hd6_84, hd3_91, hd3_92, hd3_93, hd3_84, hd38_91, hd38_92, hd38_93, hd38_84, hd39_91, hd39_92, hd39_93, hd39_84, hd40_91, hd40_92, hd40_93, hd40_84, hd41_91, hd41_92, hd41_93, hd41_84, hd42_91, hd42_92, hd42_93, hd42_84, hd43_91, hd43_92, hd43_93, hd43_84, hd44_91, hd44_92, hd44_93, hd44_84, hd45_91, hd45_92, hd45_93, hd45_84, hd46_91, hd46_92, hd46_93, hd46_84, hd47_91, hd47_92, hd47_93, hd47_84, hd48_91, hd48_92, hd48_93, hd48_84, hd49_91, hd49_92, hd49_93, hd49_84, hd50_91, hd50_92, hd50_93, hd50_84, hd51_91, hd51_92, hd51_93, hd51_84, hd52_91, hd52_92, hd52_93, hd52_84, hd53_91, hd53_92, hd53_93, hd53_84, hd54_91, hd54_92, hd54_93, hd54_84, hd55_91, hd55_92, hd55_93, hd55_84, hd91_92, hd91_93, (Dj.symm hd84_91), hd92_93, (Dj.symm hd84_92), (Dj.symm hd84_93)⟩
  rintro _ wc2 ⟨v60, og60, v61, og61, v62, og62, b59, rfl, hXc, ho60, hl60, ho61, hl61, ho62, hl62, hb59, hl59, hd1_60, hd1_61, hd1_62, hd1_59, hd2_60, hd2_61, hd2_62, hd2_59, hd4_60, hd4_61, hd4_62, hd4_59, hd5_60, hd5_61, hd5_62, hd5_59, hd6_60, hd6_61, hd6_62, hd6_59, hd3_60, hd3_61, hd3_62, hd3_59, hd38_60, hd38_61, hd38_62, hd38_59, hd39_60, hd39_61, hd39_62, hd39_59, hd40_60, hd40_61, hd40_62, hd40_59, hd41_60, hd41_61, hd41_62, hd41_59, hd42_60, hd42_61, hd42_62, hd42_59, hd43_60, hd43_61, hd43_62, hd43_59, hd44_60, hd44_61, hd44_62, hd44_59, hd45_60, hd45_61, hd45_62, hd45_59, hd46_60, hd46_61, hd46_62, hd46_59, hd47_60, hd47_61, hd47_62, hd47_59, hd48_60, hd48_61, hd48_62, hd48_59, hd49_60, hd49_61, hd49_62, hd49_59, hd50_60, hd50_61, hd50_62, hd50_59, hd51_60, hd51_61, hd51_62, hd51_59, hd52_60, hd52_61, hd52_62, hd52_59, hd53_60, hd53_61, hd53_62, hd53_59, hd54_60, hd54_61, hd54_62, hd54_59, hd55_60, hd55_61, hd55_62, hd55_59, hd60_61, hd60_62, hd60_59, hd61_62, hd61_59, hd62_59⟩
  have hB := hB.trans hXc
  have hb1 := hb1.up hXc
  have hb2 := hb2.up hXc
  have ho4 := ho4.up hXc
  have ho5 := ho5.up hXc
  have ho6 := ho6.up hXc
  have hb3 := hb3.up hXc
  have ho38 := ho38.up hXc
  have ho39 := ho39.up hXc
  have ho40 := ho40.up hXc
  have hb41 := hb41.up hXc
  have ho42 := ho42.up hXc
  have ho43 := ho43.up hXc
  have ho44 := ho44.up hXc
  have hb45 := hb45.up hXc
  have ho46 := ho46.up hXc
  have ho47 := ho47.up hXc
  have ho48 := ho48.up hXc
  have hb49 := hb49.up hXc
  have ho50 := ho50.up hXc
  have ho51 := ho51.up hXc
  have ho52 := ho52.up hXc
  have ho53 := ho53.up hXc
  have ho54 := ho54.up hXc
  have ho55 := ho55.up hXc
  refine CW.seq ?_
  refine CW.seq ?_
  refine CW.reg ?_
  refine WL.pure rfl rfl rfl ((by first | exact PV.loadA T.ag37 rfl (by first | exact Cells.up (by assumption) hB | exact Bx.cells (by assumption) | assumption) (Ext.refl _) rfl | exact PV.loadP (ds := [_, _, _, _, _]) T.ag37 rfl (by first | exact Cells.up (by assumption) hB | exact Bx.cells (by assumption) | assumption) (Ext.refl _) rfl rfl)) ?_
  refine WL.pure rfl rfl rfl ((by first | exact PV.loadA T.ag37 rfl (by first | exact Cells.up (by assumption) hB | exact Bx.cells (by assumption) | assumption) (Ext.refl _) rfl | exact PV.loadP (ds := [_, _, _, _, _]) T.ag37 rfl (by first | exact Cells.up (by assumption) hB | exact Bx.cells (by assumption) | assumption) (Ext.refl _) rfl rfl)) ?_
  refine WL.op rfl (OpK.callR rfl T.cf31 rfl (c_laws_eqTreeMachine (by first | assumption | exact Rd.up (by assumption) hB | exact Osl.rd (by assumption) | exact Osn.rdR (by assumption)) (by first | assumption | exact Rd.up (by assumption) hB | exact Osl.rd (by assumption) | exact Osn.rdR (by assumption)) (by first | assumption | exact Rd.up (by assumption) hB | exact Osl.rd (by assumption) | exact Osn.rdR (by assumption)) (by first | assumption | exact Rd.up (by assumption) hB | exact Osl.rd (by assumption) | exact Osn.rdR (by assumption)) (by first | assumption | exact Rd.up (by assumption) hB | exact Osl.rd (by assumption) | exact Osn.rdR (by assumption)) (by first | assumption | exact Rd.up (by assumption) hB | exact Osl.rd (by assumption) | exact Osn.rdR (by assumption))) (fun w62 hXw62 => ?_))
  have hB := hB.trans hXw62
  have hb1 := hb1.up hXw62
  have hb2 := hb2.up hXw62
  have ho4 := ho4.up hXw62
  have ho5 := ho5.up hXw62
  have ho6 := ho6.up hXw62
  have hb3 := hb3.up hXw62
  have ho38 := ho38.up hXw62
  have ho39 := ho39.up hXw62
  have ho40 := ho40.up hXw62
  have hb41 := hb41.up hXw62
  have ho42 := ho42.up hXw62
  have ho43 := ho43.up hXw62
  have ho44 := ho44.up hXw62
  have hb45 := hb45.up hXw62
  have ho46 := ho46.up hXw62
  have ho47 := ho47.up hXw62
  have ho48 := ho48.up hXw62
  have hb49 := hb49.up hXw62
  have ho50 := ho50.up hXw62
  have ho51 := ho51.up hXw62
  have ho52 := ho52.up hXw62
  have ho53 := ho53.up hXw62
  have ho54 := ho54.up hXw62
  have ho55 := ho55.up hXw62
  have ho60 := ho60.up hXw62
  have ho61 := ho61.up hXw62
  have ho62 := ho62.up hXw62
  have hb59 := hb59.up hXw62
  refine WL.pure rfl rfl rfl (PV.not rfl) ?_
  refine WL.pure rfl rfl rfl (PV.move rfl) ?_
  refine WL.split (t := 106) rfl (fun hc12 => ?_) (fun hc12 => ?_)
  · skip
    try simp only [decide_eq_true_eq, decide_eq_false_iff_not, Bool.not_eq_true', Bool.not_eq_false', Bool.not_eq_eq_eq_not, Bool.not_true, Bool.not_false, Int.not_lt, Int.not_le, Classical.not_not, beq_iff_eq, beq_eq_false_iff_ne] at hc12
    refine WL.skip rfl rfl rfl rfl rfl ?_
    refine WL.skip rfl rfl rfl rfl rfl ?_
    refine WL.skip rfl rfl rfl rfl rfl ?_
    refine WL.pure rfl rfl rfl (PV.pickT rfl rfl) ?_
    refine WL.nilS ?_
    refine CW.condT rfl ?_
    refine CW.seq ?_
    refine CW.reg ?_
    refine WL.pure rfl rfl rfl (PV.assign rfl) ?_
    refine WL.nilS ?_
    refine CW.ret ?_
    refine RQ.then ?_
    refine RQ.r1 rfl ?_
    refine ⟨?_, hB⟩
    first | rfl | (exfalso; revert hc12; simp; done) | (exfalso; revert hc12; simp; omega) | (exfalso; omega) | first | rfl | exact bT (by omega) | exact bF (by omega) | exact bD (by omega) | exact iE (by omega) | (simp_all; done) | (simp_all; omega) | (simp_all; intros; omega)
  try simp only [decide_eq_true_eq, decide_eq_false_iff_not, Bool.not_eq_true', Bool.not_eq_false', Bool.not_eq_eq_eq_not, Bool.not_true, Bool.not_false, Int.not_lt, Int.not_le, Classical.not_not, beq_iff_eq, beq_eq_false_iff_ne] at hc12
  refine WL.pureG rfl rfl rfl rfl rfl (PV.move rfl) ?_
  refine WL.pureG rfl rfl rfl rfl rfl (PV.move rfl) ?_
  refine WL.pureG rfl rfl rfl rfl rfl (PV.neqB T.bl4 rfl rfl) ?_
  refine WL.pure rfl rfl rfl (PV.pickF rfl rfl) ?_
  refine WL.nilS ?_
  refine CW.cond rfl (fun hc13 => ?_) (fun hc13 => ?_)
  · skip
    try simp only [decide_eq_true_eq, decide_eq_false_iff_not, Bool.not_eq_true', Bool.not_eq_false', Bool.not_eq_eq_eq_not, Bool.not_true, Bool.not_false, Int.not_lt, Int.not_le, Classical.not_not, beq_iff_eq, beq_eq_false_iff_ne] at hc13
    refine CW.seq ?_
    refine CW.reg ?_
    refine WL.pure rfl rfl rfl (PV.assign rfl) ?_
    refine WL.nilS ?_
    refine CW.ret ?_
    refine RQ.then ?_
    refine RQ.r1 rfl ?_
    refine ⟨?_, hB⟩
    first | rfl | (exfalso; revert hc13; simp; done) | (exfalso; revert hc13; simp; omega) | (exfalso; omega) | first | rfl | exact bT (by omega) | exact bF (by omega) | exact bD (by omega) | exact iE (by omega) | (simp_all; done) | (simp_all; omega) | (simp_all; intros; omega)
  try simp only [decide_eq_true_eq, decide_eq_false_iff_not, Bool.not_eq_true', Bool.not_eq_false', Bool.not_eq_eq_eq_not, Bool.not_true, Bool.not_false, Int.not_lt, Int.not_le, Classical.not_not, beq_iff_eq, beq_eq_false_iff_ne] at hc13
  refine CW.skipS ?_
  refine CW.seq ?_
  refine CW.reg ?_
  refine WL.pure rfl rfl rfl (PV.assign rfl) ?_
  refine WL.nilS ?_
  refine CW.seq ?_
  refine CW.reg ?_
  refine WL.pure rfl rfl rfl ((by first | exact PV.loadA T.ag37 rfl (by first | exact Cells.up (by assumption) hB | exact Bx.cells (by assumption) | assumption) (Ext.refl _) rfl | exact PV.loadP (ds := [_, _, _, _, _]) T.ag37 rfl (by first | exact Cells.up (by assumption) hB | exact Bx.cells (by assumption) | assumption) (Ext.refl _) rfl rfl)) ?_
  refine WL.pure rfl rfl rfl (PV.move rfl) ?_
  refine WL.op rfl (OpK.callR rfl T.cf41 rfl (c_laws_heldTreeMachine (by first | assumption | exact Rd.up (by assumption) hB | exact Osl.rd (by assumption) | exact Osn.rdR (by assumption)) (by first | assumption | exact Rd.up (by assumption) hB | exact Osl.rd (by assumption) | exact Osn.rdR (by assumption)) (by first | assumption | exact Rd.up (by assumption) hB | exact Osl.rd (by assumption) | exact Osn.rdR (by assumption)) (by first | assumption | omega | (simp only [marks_len, marksB_len]; omega))) (fun w63 hXw63 => ?_))
  have hB := hB.trans hXw63
  have hb1 := hb1.up hXw63
  have hb2 := hb2.up hXw63
  have ho4 := ho4.up hXw63
  have ho5 := ho5.up hXw63
  have ho6 := ho6.up hXw63
  have hb3 := hb3.up hXw63
  have ho38 := ho38.up hXw63
  have ho39 := ho39.up hXw63
  have ho40 := ho40.up hXw63
  have hb41 := hb41.up hXw63
  have ho42 := ho42.up hXw63
  have ho43 := ho43.up hXw63
  have ho44 := ho44.up hXw63
  have hb45 := hb45.up hXw63
  have ho46 := ho46.up hXw63
  have ho47 := ho47.up hXw63
  have ho48 := ho48.up hXw63
  have hb49 := hb49.up hXw63
  have ho50 := ho50.up hXw63
  have ho51 := ho51.up hXw63
  have ho52 := ho52.up hXw63
  have ho53 := ho53.up hXw63
  have ho54 := ho54.up hXw63
  have ho55 := ho55.up hXw63
  have ho60 := ho60.up hXw63
  have ho61 := ho61.up hXw63
  have ho62 := ho62.up hXw63
  have hb59 := hb59.up hXw63
  refine WL.pure rfl rfl rfl (PV.assign rfl) ?_
  refine WL.nilS ?_
  refine CW.seq ?_
  refine CW.seq ?_
  refine CW.reg ?_
  refine WL.pure rfl rfl rfl (PV.move rfl) ?_
  refine WL.pure rfl rfl rfl (PV.lss rfl rfl) ?_
  refine WL.nilS ?_
  refine CW.cond rfl (fun hc14 => ?_) (fun hc14 => ?_)
  · skip
    try simp only [decide_eq_true_eq, decide_eq_false_iff_not, Bool.not_eq_true', Bool.not_eq_false', Bool.not_eq_eq_eq_not, Bool.not_true, Bool.not_false, Int.not_lt, Int.not_le, Classical.not_not, beq_iff_eq, beq_eq_false_iff_ne] at hc14
    refine CW.seq ?_
    refine CW.reg ?_
    refine WL.pure rfl rfl rfl (PV.assign rfl) ?_
    refine WL.nilS ?_
    refine CW.ret ?_
    refine RQ.then ?_
    refine RQ.r1 rfl ?_
    refine ⟨?_, hB⟩
    first | rfl | (exfalso; revert hc14; simp; done) | (exfalso; revert hc14; simp; omega) | (exfalso; omega) | first | rfl | exact bT (by omega) | exact bF (by omega) | exact bD (by omega) | exact iE (by omega) | (simp_all; done) | (simp_all; omega) | (simp_all; intros; omega)
  try simp only [decide_eq_true_eq, decide_eq_false_iff_not, Bool.not_eq_true', Bool.not_eq_false', Bool.not_eq_eq_eq_not, Bool.not_true, Bool.not_false, Int.not_lt, Int.not_le, Classical.not_not, beq_iff_eq, beq_eq_false_iff_ne] at hc14
  refine CW.skipS ?_
  refine CW.seq ?_
  refine CW.seq ?_
  refine CW.reg ?_
  refine WL.pure rfl rfl rfl (PV.move rfl) ?_
  refine WL.pure rfl rfl rfl (PV.move rfl) ?_
  refine WL.pure rfl rfl rfl (PV.neq rfl rfl) ?_
  refine WL.nilS ?_
  refine CW.cond rfl (fun hc15 => ?_) (fun hc15 => ?_)
  · skip
    try simp only [decide_eq_true_eq, decide_eq_false_iff_not, Bool.not_eq_true', Bool.not_eq_false', Bool.not_eq_eq_eq_not, Bool.not_true, Bool.not_false, Int.not_lt, Int.not_le, Classical.not_not, beq_iff_eq, beq_eq_false_iff_ne] at hc15
    refine CW.seq ?_
    refine CW.reg ?_
    refine WL.pure rfl rfl rfl (PV.assign rfl) ?_
    refine WL.nilS ?_
    refine CW.ret ?_
    refine RQ.then ?_
    refine RQ.r1 rfl ?_
    refine ⟨?_, hB⟩
    first | rfl | (exfalso; revert hc15; simp; done) | (exfalso; revert hc15; simp; omega) | (exfalso; omega) | first | rfl | exact bT (by omega) | exact bF (by omega) | exact bD (by omega) | exact iE (by omega) | (simp_all; done) | (simp_all; omega) | (simp_all; intros; omega)
  try simp only [decide_eq_true_eq, decide_eq_false_iff_not, Bool.not_eq_true', Bool.not_eq_false', Bool.not_eq_eq_eq_not, Bool.not_true, Bool.not_false, Int.not_lt, Int.not_le, Classical.not_not, beq_iff_eq, beq_eq_false_iff_ne] at hc15
  refine CW.skipS ?_
  refine CW.seq ?_
  refine CW.reg ?_
  refine WL.pure rfl rfl rfl (PV.assign rfl) ?_
  refine WL.nilS ?_
  refine CW.ret ?_
  refine RQ.r1 rfl ?_
  refine ⟨?_, hB⟩
  first | rfl | (exfalso; revert hc15; simp; done) | (exfalso; revert hc15; simp; omega) | (exfalso; omega) | first | rfl | exact bT (by omega) | exact bF (by omega) | exact bD (by omega) | exact iE (by omega) | (simp_all; done) | (simp_all; omega) | (simp_all; intros; omega)

end Go.Proofs.Ytlajceejhnmhkaa
