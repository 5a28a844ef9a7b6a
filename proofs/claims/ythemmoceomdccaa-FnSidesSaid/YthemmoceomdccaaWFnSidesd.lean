/- Walks of the functions that the law FnSides reaches: each says what its function computes. No condition. -/
import Derived.Test.YthemmoceomdccaaProg
import Derived.Test.YthemmoceomdccaaLibM
import Derived.Test.YthemmoceomdccaaPlA
import Derived.Test.YthemmoceomdccaaPlG
import Derived.Test.YthemmoceomdccaaPlS
import Derived.Test.YthemmoceomdccaaLibG2
import Derived.Test.YthemmoceomdccaaPlT
import Derived.Test.YthemmoceomdccaaLibMp
import Derived.Test.YthemmoceomdccaaPlRd
import Derived.Test.YthemmoceomdccaaLibV
import Derived.Test.YthemmoceomdccaaLibW
import Derived.Test.YthemmoceomdccaaPlI2
import Derived.Test.YthemmoceomdccaaPlDq
import Derived.Test.YthemmoceomdccaaPlSd
import Derived.Test.YthemmoceomdccaaPlSe
import Derived.Test.YthemmoceomdccaaWFnSidesc
namespace Go.Proofs.Ythemmoceomdccaa
open Go Go.WX Go.Proofs
set_option linter.unusedSimpArgs false
set_option linter.unusedVariables false

set_option maxHeartbeats 8000000 in
theorem c_impl_EitherSided {w : World} {a0 : Int} {a1 : Int} {va2 : Value} {xa2 : List R4} {va3 : Value} {xa3 : List Bool} {y0 : Int} {y1 : Int} {vy2 : Value} {xy2 : List R4} {vy3 : Value} {xy3 : List Bool}  (ha2 : Rd ER w va2 xa2) (ha3 : Rd EB w va3 xa3) (hy2 : Rd ER w vy2 xy2) (hy3 : Rd EB w vy3 xy3) : Calls Try.prog 67 #[.agg #[.int .i64 a0, .int .i64 a1, va2, va3], .agg #[.int .i64 y0, .int .i64 y1, vy2, vy3]] w (Ret1 (fun v w' => Ext w w' ∧ ∃ u2 og_u2 u3 og_u3, v = .tuple #[.agg #[.int .i64 (onI (bothB a0 a1 xa2 xa3 y0 y1 xy2 xy3) (1 + a0 + y0)), .int .i64 (onI (bothB a0 a1 xa2 xa3 y0 y1 xy2 xy3) a1), u2, u3], .bool (bothB a0 a1 xa2 xa3 y0 y1 xy2 xy3)] ∧ Osn 4 gR w' og_u2 u2 (onT (bothB a0 a1 xa2 xa3 y0 y1 xy2 xy3) (eA a0 xa2 xy2)) ∧ Lo w og_u2 ∧ Osl VB w' og_u3 u3 (onT (bothB a0 a1 xa2 xa3 y0 y1 xy2 xy3) (eE xa3 xy3)) ∧ Lo w og_u3 ∧ Dj og_u2 og_u3)) := by
  have hB : Ext w w := Ext.refl w
  have hla2 := ha2.leI; have hla3 := ha3.leI; have hly2 := hy2.leI; have hly3 := hy3.leI
  refine callsOf (vs := [_, _]) Try.func67 rfl Try.ntmps67 rfl rfl ?_
  refine CW.seq ?_
  refine CW.reg ?_
  refine WL.op rfl (OpK.box rfl rfl (by first | exact Rd.cells1 (by assumption) | exact Osl.cells1 (by assumption) | exact Osn.cells1 (by assumption) | exact Rd.cells1 (NL.rd (by assumption)) | exact Inn.cell1 (by assumption) (by omega) | assumption | rfl) (fun b1 w1 hXw1 hb1 hge1 => ?_))
  have hl1 := Lo.new hB hge1
  have hB := hB.trans hXw1
  refine WL.op rfl (OpK.box rfl rfl (by first | exact Rd.cells1 (by assumption) | exact Osl.cells1 (by assumption) | exact Osn.cells1 (by assumption) | exact Rd.cells1 (NL.rd (by assumption)) | exact Inn.cell1 (by assumption) (by omega) | assumption | rfl) (fun b2 w2 hXw2 hb2 hge2 => ?_))
  have hl2 := Lo.new hB hge2
  have hd1_2 := Dj.new hb1.ltO hge2
  have hB := hB.trans hXw2
  have hb1 := hb1.up hXw2
  refine WL.op rfl (OpK.alloc rfl T.zv88 rfl (fun b3 w3 hXw3 hb3 hge3 => ?_))
  have hl3 := Lo.new hB hge3
  have hd1_3 := Dj.new hb1.ltO hge3
  have hd2_3 := Dj.new hb2.ltO hge3
  have hB := hB.trans hXw3
  have hb1 := hb1.up hXw3
  have hb2 := hb2.up hXw3
  refine WL.asg rfl rfl ?_
  refine WL.nilS ?_
  refine CW.seq ?_
  refine CW.seq ?_
  refine CW.reg ?_
  refine WL.pure rfl rfl rfl (PV.loadA T.ag88 rfl hb1.cells (Ext.refl _) rfl) ?_
  refine WL.op rfl (OpK.callR rfl T.cf71 rfl (c_impl_ValidSided (by first | assumption | exact Rd.up (by assumption) hB | exact Osl.rd (by assumption) | exact Osn.rdR (by assumption) | exact NL.rd (by assumption) | exact rdII (by assumption) (by assumption) | exact Inn.rd (by assumption) (by omega)) (by first | assumption | exact Rd.up (by assumption) hB | exact Osl.rd (by assumption) | exact Osn.rdR (by assumption) | exact NL.rd (by assumption) | exact rdII (by assumption) (by assumption) | exact Inn.rd (by assumption) (by omega))) (fun w4 hXw4 => ?_))
  have hB := hB.trans hXw4
  have hb1 := hb1.up hXw4
  have hb2 := hb2.up hXw4
  have hb3 := hb3.up hXw4
  refine WL.pure rfl rfl rfl (PV.not rfl) ?_
  refine WL.mv rfl rfl ?_
  refine WL.split (t := 16) rfl (fun hc1 => ?_) (fun hc1 => ?_)
  · skip
    try simp only [nq] at hc1
    refine WL.skip rfl rfl rfl rfl rfl ?_
    refine WL.skip rfl rfl rfl rfl rfl ?_
    refine WL.skip rfl rfl rfl rfl rfl ?_
    refine WL.pure rfl rfl rfl (PV.pickT rfl rfl) ?_
    refine WL.mv rfl rfl ?_
    refine WL.skip rfl rfl rfl rfl rfl ?_
    refine WL.skip rfl rfl rfl rfl rfl ?_
    refine WL.skip rfl rfl rfl rfl rfl ?_
    refine WL.skip rfl rfl rfl rfl rfl ?_
    refine WL.skip rfl rfl rfl rfl rfl ?_
    refine WL.pure rfl rfl rfl (PV.pickT rfl rfl) ?_
    refine WL.nilS ?_
    refine CW.condT rfl ?_
    refine CW.seq ?_
    refine CW.reg ?_
    refine WL.pure rfl rfl rfl (PV.build (ks := []) (os := []) (css := []) (ds := [_, _, _, _]) T.bu88 rfl rfl trivial rfl) ?_
    refine WL.op rfl (OpK.storeA T.sz88 rfl rfl rfl rfl (by simp [Value.oneCell'] <;> first | done | (repeat' apply And.intro) <;> first | rfl | exact Inn.one1 (by assumption) (by omega) | exact Osl.oneCell (by assumption) | exact Osn.oneCell (by assumption) | exact Rd.oneCell (by assumption) | exact Rd.oneCell (NL.rd (by assumption)) | assumption) hb3 (fun w5 hXw5 hb3 => ?_))
    have hB := hB.updL hXw5 hl3
    have hb1 := hb1.updD hXw5 hd1_3
    have hb2 := hb2.updD hXw5 hd2_3
    refine WL.asg rfl rfl ?_
    refine WL.nilS ?_
    refine CW.ret ?_
    refine RQ.then ?_
    refine RQ.rc1 T.ag88 rfl (by first | exact Cells.up (by assumption) hB | exact Bx.cells (by assumption) | assumption) rfl rfl ?_
    refine ⟨hB, (.slice none 0 0), none, (.slice none 0 0), none, ?_, osnE (Osn.nil gR_ok _) ?_, Lo.nl _, osE (Osl.nil _ _) ?_, Lo.nl _, (Dj.nl _)⟩
    · skip
      first | (have hn : ¬ (bothB a0 a1 xa2 xa3 y0 y1 xy2 xy3) = true := (by first | exact both_n1 (by assumption) | exact both_n2 (by assumption) | exact both_n3 (by omega) | exact both_n6 (by assumption) | exact both_n4 (by assumption)); first | exact tE2 (by rw [onI_no hn, onI_no hn]) (bE (Bool.eq_false_iff.2 hn).symm) | exact tE2 (by rw [onI_no hn, onI_no hn]; rfl) (bE (Bool.eq_false_iff.2 hn).symm)) | (have hy : (bothB a0 a1 xa2 xa3 y0 y1 xy2 xy3) = true := (both_yes (by assumption) (by assumption) (by omega) (by assumption)); first | exact tE2 (by rw [onI_yes hy, onI_yes hy]; rfl) (bE hy.symm) | exact tE2 (by rw [onI_yes hy, onI_yes hy]) (bE hy.symm))
    · skip
      first | (rw [onT_no (by first | exact both_n1 (by assumption) | exact both_n2 (by assumption) | exact both_n3 (by omega) | exact both_n6 (by assumption) | exact both_n4 (by assumption))]; done) | (rw [onT_yes (both_yes (by assumption) (by assumption) (by omega) (by assumption))]; first | done | rfl)
    · skip
      first | (rw [onT_no (by first | exact both_n1 (by assumption) | exact both_n2 (by assumption) | exact both_n3 (by omega) | exact both_n6 (by assumption) | exact both_n4 (by assumption))]; done) | (rw [onT_yes (both_yes (by assumption) (by assumption) (by omega) (by assumption))]; first | done | rfl)
  try simp only [nq] at hc1
  refine WL.pureG rfl rfl rfl rfl rfl (PV.loadA T.ag88 rfl hb2.cells (Ext.refl _) rfl) ?_
  refine WL.opG rfl rfl rfl (OpK.callR rfl T.cf71 rfl (c_impl_ValidSided (by first | assumption | exact Rd.up (by assumption) hB | exact Osl.rd (by assumption) | exact Osn.rdR (by assumption) | exact NL.rd (by assumption) | exact rdII (by assumption) (by assumption) | exact Inn.rd (by assumption) (by omega)) (by first | assumption | exact Rd.up (by assumption) hB | exact Osl.rd (by assumption) | exact Osn.rdR (by assumption) | exact NL.rd (by assumption) | exact rdII (by assumption) (by assumption) | exact Inn.rd (by assumption) (by omega))) (fun w6 hXw6 => ?_))
  have hB := hB.trans hXw6
  have hb1 := hb1.up hXw6
  have hb2 := hb2.up hXw6
  have hb3 := hb3.up hXw6
  refine WL.pureG rfl rfl rfl rfl rfl (PV.not rfl) ?_
  refine WL.pure rfl rfl rfl (PV.pickF rfl rfl) ?_
  refine WL.mv rfl rfl ?_
  refine WL.split (t := 21) rfl (fun hc2 => ?_) (fun hc2 => ?_)
  · skip
    try simp only [nq] at hc2
    refine WL.skip rfl rfl rfl rfl rfl ?_
    refine WL.skip rfl rfl rfl rfl rfl ?_
    refine WL.skip rfl rfl rfl rfl rfl ?_
    refine WL.skip rfl rfl rfl rfl rfl ?_
    refine WL.skip rfl rfl rfl rfl rfl ?_
    refine WL.pure rfl rfl rfl (PV.pickT rfl rfl) ?_
    refine WL.nilS ?_
    refine CW.condT rfl ?_
    refine CW.seq ?_
    refine CW.reg ?_
    refine WL.pure rfl rfl rfl (PV.build (ks := []) (os := []) (css := []) (ds := [_, _, _, _]) T.bu88 rfl rfl trivial rfl) ?_
    refine WL.op rfl (OpK.storeA T.sz88 rfl rfl rfl rfl (by simp [Value.oneCell'] <;> first | done | (repeat' apply And.intro) <;> first | rfl | exact Inn.one1 (by assumption) (by omega) | exact Osl.oneCell (by assumption) | exact Osn.oneCell (by assumption) | exact Rd.oneCell (by assumption) | exact Rd.oneCell (NL.rd (by assumption)) | assumption) hb3 (fun w7 hXw7 hb3 => ?_))
    have hB := hB.updL hXw7 hl3
    have hb1 := hb1.updD hXw7 hd1_3
    have hb2 := hb2.updD hXw7 hd2_3
    refine WL.asg rfl rfl ?_
    refine WL.nilS ?_
    refine CW.ret ?_
    refine RQ.then ?_
    refine RQ.rc1 T.ag88 rfl (by first | exact Cells.up (by assumption) hB | exact Bx.cells (by assumption) | assumption) rfl rfl ?_
    refine ⟨hB, (.slice none 0 0), none, (.slice none 0 0), none, ?_, osnE (Osn.nil gR_ok _) ?_, Lo.nl _, osE (Osl.nil _ _) ?_, Lo.nl _, (Dj.nl _)⟩
    · skip
      first | (have hn : ¬ (bothB a0 a1 xa2 xa3 y0 y1 xy2 xy3) = true := (by first | exact both_n1 (by assumption) | exact both_n2 (by assumption) | exact both_n3 (by omega) | exact both_n6 (by assumption) | exact both_n4 (by assumption)); first | exact tE2 (by rw [onI_no hn, onI_no hn]) (bE (Bool.eq_false_iff.2 hn).symm) | exact tE2 (by rw [onI_no hn, onI_no hn]; rfl) (bE (Bool.eq_false_iff.2 hn).symm)) | (have hy : (bothB a0 a1 xa2 xa3 y0 y1 xy2 xy3) = true := (both_yes (by assumption) (by assumption) (by omega) (by assumption)); first | exact tE2 (by rw [onI_yes hy, onI_yes hy]; rfl) (bE hy.symm) | exact tE2 (by rw [onI_yes hy, onI_yes hy]) (bE hy.symm))
    · skip
      first | (rw [onT_no (by first | exact both_n1 (by assumption) | exact both_n2 (by assumption) | exact both_n3 (by omega) | exact both_n6 (by assumption) | exact both_n4 (by assumption))]; done) | (rw [onT_yes (both_yes (by assumption) (by assumption) (by omega) (by assumption))]; first | done | rfl)
    · skip
      first | (rw [onT_no (by first | exact both_n1 (by assumption) | exact both_n2 (by assumption) | exact both_n3 (by omega) | exact both_n6 (by assumption) | exact both_n4 (by assumption))]; done) | (rw [onT_yes (both_yes (by assumption) (by assumption) (by omega) (by assumption))]; first | done | rfl)
  try simp only [nq] at hc2
  refine WL.pureG rfl rfl rfl rfl rfl (PV.fieldAddr T.fl88_1 rfl hb1.cells) ?_
  refine WL.pureG rfl rfl rfl rfl rfl (PV.load1 T.na2 rfl hb1.cells (Ext.refl _) rfl) ?_
  refine WL.pureG rfl rfl rfl rfl rfl (PV.fieldAddr T.fl88_1 rfl hb2.cells) ?_
  refine WL.pureG rfl rfl rfl rfl rfl (PV.load1 T.na2 rfl hb2.cells (Ext.refl _) rfl) ?_
  refine WL.pureG rfl rfl rfl rfl rfl (PV.neq rfl rfl) ?_
  refine WL.pure rfl rfl rfl (PV.pickF rfl rfl) ?_
  refine WL.nilS ?_
  refine CW.cond rfl (fun hc3 => ?_) (fun hc3 => ?_)
  · skip
    try simp only [nq] at hc3
    refine CW.seq ?_
    refine CW.reg ?_
    refine WL.pure rfl rfl rfl (PV.build (ks := []) (os := []) (css := []) (ds := [_, _, _, _]) T.bu88 rfl rfl trivial rfl) ?_
    refine WL.op rfl (OpK.storeA T.sz88 rfl rfl rfl rfl (by simp [Value.oneCell'] <;> first | done | (repeat' apply And.intro) <;> first | rfl | exact Inn.one1 (by assumption) (by omega) | exact Osl.oneCell (by assumption) | exact Osn.oneCell (by assumption) | exact Rd.oneCell (by assumption) | exact Rd.oneCell (NL.rd (by assumption)) | assumption) hb3 (fun w8 hXw8 hb3 => ?_))
    have hB := hB.updL hXw8 hl3
    have hb1 := hb1.updD hXw8 hd1_3
    have hb2 := hb2.updD hXw8 hd2_3
    refine WL.asg rfl rfl ?_
    refine WL.nilS ?_
    refine CW.ret ?_
    refine RQ.then ?_
    refine RQ.rc1 T.ag88 rfl (by first | exact Cells.up (by assumption) hB | exact Bx.cells (by assumption) | assumption) rfl rfl ?_
    refine ⟨hB, (.slice none 0 0), none, (.slice none 0 0), none, ?_, osnE (Osn.nil gR_ok _) ?_, Lo.nl _, osE (Osl.nil _ _) ?_, Lo.nl _, (Dj.nl _)⟩
    · skip
      first | (have hn : ¬ (bothB a0 a1 xa2 xa3 y0 y1 xy2 xy3) = true := (by first | exact both_n1 (by assumption) | exact both_n2 (by assumption) | exact both_n3 (by omega) | exact both_n6 (by assumption) | exact both_n4 (by assumption)); first | exact tE2 (by rw [onI_no hn, onI_no hn]) (bE (Bool.eq_false_iff.2 hn).symm) | exact tE2 (by rw [onI_no hn, onI_no hn]; rfl) (bE (Bool.eq_false_iff.2 hn).symm)) | (have hy : (bothB a0 a1 xa2 xa3 y0 y1 xy2 xy3) = true := (both_yes (by assumption) (by assumption) (by omega) (by assumption)); first | exact tE2 (by rw [onI_yes hy, onI_yes hy]; rfl) (bE hy.symm) | exact tE2 (by rw [onI_yes hy, onI_yes hy]) (bE hy.symm))
    · skip
      first | (rw [onT_no (by first | exact both_n1 (by assumption) | exact both_n2 (by assumption) | exact both_n3 (by omega) | exact both_n6 (by assumption) | exact both_n4 (by assumption))]; done) | (rw [onT_yes (both_yes (by assumption) (by assumption) (by omega) (by assumption))]; first | done | rfl)
    · skip
      first | (rw [onT_no (by first | exact both_n1 (by assumption) | exact both_n2 (by assumption) | exact both_n3 (by omega) | exact both_n6 (by assumption) | exact both_n4 (by assumption))]; done) | (rw [onT_yes (both_yes (by assumption) (by assumption) (by omega) (by assumption))]; first | done | rfl)
  try simp only [nq] at hc3
  have gA := (by assumption : sidedV a0 a1 xa2 xa3); have gY := (by assumption : sidedV y0 y1 xy2 xy3); have a8 := gA.1; have y8 := gY.1; have aL := gA.2.2.1; have yL := gY.2.2.1; have aE := gA.2.2.2.1; have yE := gY.2.2.2.1; have mlA := movL_len 1 xa2; have mlB := movL_len (1 + a0) xy2
  refine CW.skipS ?_
  refine CW.seq ?_
  refine CW.draw T.mixed (by kernel_rfl) (fun _ _ _ _ _ h => h) (fun w8 w9 => Upd none w8 w9) 11 (.take 0 (.take 1 (.take 3 (.take 4 (.take 5 (.take 6 (.take 7 (.must 2 (.must 8 (.take 9 (.take 10 .done))))))))))) (by kernel_rfl) (fun w9 hXd => ?_)
  have hB := hB.trans hXd
  have hb1 := hb1.up hXd
  have hb2 := hb2.up hXd
  have hb3 := hb3.up hXd
  have hBr := hB
  have hS : Upd none w9 w9 := Ext.toUpd (Ext.refl _)
  refine HP.take rfl rfl rfl rfl hS (fun wS hS1 => PV.fieldAddr T.fl88_2 rfl hb1.cells) ?_
  refine HP.take rfl rfl rfl rfl hS (fun wS hS1 => PV.load1 T.na86 rfl (Bx.cells (Bx.updD (by assumption) hS1 (Dj.nlR _))) (Ext.refl _) rfl) ?_
  refine HP.take rfl rfl rfl rfl hS (fun wS hS1 => PV.fieldAddr T.fl88_2 rfl hb2.cells) ?_
  refine HP.take rfl rfl rfl rfl hS (fun wS hS1 => PV.load1 T.na86 rfl (Bx.cells (Bx.updD (by assumption) hS1 (Dj.nlR _))) (Ext.refl _) rfl) ?_
  refine HP.take rfl rfl rfl rfl hS (fun wS hS1 => PV.fieldAddr T.fl88_0 rfl hb1.cells) ?_
  refine HP.take rfl rfl rfl rfl hS (fun wS hS1 => PV.load1 T.na2 rfl (Bx.cells (Bx.updD (by assumption) hS1 (Dj.nlR _))) (Ext.refl _) rfl) ?_
  refine HP.take rfl rfl rfl rfl hS (fun wS hS1 => PV.add rfl rfl (by constructor <;> omega)) ?_
  refine HP.must rfl rfl (OpK.call rfl T.cf152 rfl (c_impl_moved (by first | assumption | exact Rd.up (by assumption) hB | exact Osl.rd (by assumption) | exact Osn.rdR (by assumption) | exact NL.rd (by assumption) | exact rdII (by assumption) (by assumption) | exact Inn.rd (by assumption) (by omega)) (by exact fun i hi => by first | (have h9 := gA.2.2.2.2 i hi; unfold okArc at h9; omega) | (have h9 := gY.2.2.2.2 i hi; unfold okArc at h9; omega)) (by first | assumption | omega | (simp only [marks_len, marksB_len, marksR_len, sumL_marksS]; omega)) (by first | assumption | omega | (simp only [marks_len, marksB_len, marksR_len, sumL_marksS]; omega))) (fun rv1 w10 hR => ?_))
  obtain ⟨hXw10, v4, og4, rfl, ho4, hq4⟩ := hR
  have hl4 := Lo.up hq4 hB
  have hv4 := Lo.up hq4 hS
  have hd1_4 := Dj.lo hb1.ltO hq4
  have hd2_4 := Dj.lo hb2.ltO hq4
  have hd3_4 := Dj.lo hb3.ltO hq4
  refine ⟨Upd.trans hS hXw10, ?_⟩
  have hS := Upd.trans hS hXw10
  have hB := hB.trans hXw10
  have hb1 := hb1.up hXw10
  have hb2 := hb2.up hXw10
  have hb3 := hb3.up hXw10
  refine HP.must rfl rfl (OpK.call rfl T.cf152 rfl (c_impl_moved (by first | assumption | exact Rd.up (by assumption) hB | exact Osl.rd (by assumption) | exact Osn.rdR (by assumption) | exact NL.rd (by assumption) | exact rdII (by assumption) (by assumption) | exact Inn.rd (by assumption) (by omega)) (by exact fun i hi => by first | (have h9 := gA.2.2.2.2 i hi; unfold okArc at h9; omega) | (have h9 := gY.2.2.2.2 i hi; unfold okArc at h9; omega)) (by first | assumption | omega | (simp only [marks_len, marksB_len, marksR_len, sumL_marksS]; omega)) (by first | assumption | omega | (simp only [marks_len, marksB_len, marksR_len, sumL_marksS]; omega))) (fun rv2 w11 hR => ?_))
  obtain ⟨hXw11, v5, og5, rfl, ho5, hq5⟩ := hR
  have hl5 := Lo.up hq5 hB
  have hv5 := Lo.up hq5 hS
  have hd1_5 := Dj.lo hb1.ltO hq5
  have hd2_5 := Dj.lo hb2.ltO hq5
  have hd3_5 := Dj.lo hb3.ltO hq5
  have hd4_5 := Dj.lo ho4.ltO hq5
  refine ⟨Upd.trans hS hXw11, ?_⟩
  have hS := Upd.trans hS hXw11
  have hB := hB.trans hXw11
  have hb1 := hb1.up hXw11
  have hb2 := hb2.up hXw11
  have hb3 := hb3.up hXw11
  have ho4 := ho4.up hXw11
  refine HP.take rfl rfl rfl rfl hS (fun wS hS1 => PV.assign rfl) ?_
  refine HP.take rfl rfl rfl rfl hS (fun wS hS1 => PV.assign rfl) ?_
  refine HP.doneS ?_
  refine CW.cut (σk := [(2, _), (4, _), (6, _), (7, _)]) (fun ρ wz => ∃ (b6 : Addr) (v7 : Value) (og7 : Option Nat) (v8 : Value) (og8 : Option Nat), ρ = [(8, .pointer (some b6))] ∧ Ext w11 wz ∧ Bx wz b6 [.int .i64 (1 + a0 + y0), .int .i64 a1, v7, v8] ∧ Lo w (some b6.block) ∧ Osn 4 gR wz og7 v7 ([movL 1 xa2, movL (1 + a0) xy2].flatten) ∧ Lo w og7 ∧ Osl VB wz og8 v8 ([[(xa3.getD (0 : Int).toNat false || xy3.getD (0 : Int).toNat false)], xa3, xy3].flatten) ∧ Lo w og8 ∧ Dj (some b1.block) (some b6.block) ∧ Dj (some b1.block) og7 ∧ Dj (some b1.block) og8 ∧ Dj (some b2.block) (some b6.block) ∧ Dj (some b2.block) og7 ∧ Dj (some b2.block) og8 ∧ Dj (some b3.block) (some b6.block) ∧ Dj (some b3.block) og7 ∧ Dj (some b3.block) og8 ∧ Dj og4 (some b6.block) ∧ Dj og4 og7 ∧ Dj og4 og8 ∧ Dj og5 (some b6.block) ∧ Dj og5 og7 ∧ Dj og5 og8 ∧ Dj (some b6.block) og7 ∧ Dj (some b6.block) og8 ∧ Dj og7 og8) ⟨rfl, rfl, rfl, rfl, trivial⟩ ?_ ?_
  · skip
    have hB0 := Ext.refl w11
    have hBc := Ext.refl w11
    refine CW.draw T.mixed (by kernel_rfl) (fun _ _ _ _ _ h => h) (fun w8 w9 => Upd none w8 w9) 32 (.take 0 (.take 1 (.take 2 (.take 3 (.take 4 (.take 5 (.take 6 (.take 7 (.take 8 (.take 9 (.take 12 (.take 13 (.take 14 (.take 15 (.take 23 (.take 24 (.take 25 (.take 26 (.fork 10 30 (.fork 11 30 (.take 16 (.split (.take 17 (.take 18 (.take 19 (.take 20 (.take 21 (.fork 22 30 (.fork 27 30 (.fork 28 30 (.take 29 (.must 30 (.must 31 .done))) (.must 28 (.take 29 (.must 31 .done)))) (.must 27 (.must 28 (.take 29 (.must 31 .done))))) (.must 22 (.must 27 (.must 28 (.take 29 (.must 31 .done))))))))))) (.take 17 (.take 18 (.take 19 (.take 20 (.take 21 (.fork 22 30 (.fork 27 30 (.fork 28 30 (.take 29 (.must 30 (.must 31 .done))) (.must 28 (.take 29 (.must 31 .done)))) (.must 27 (.must 28 (.take 29 (.must 31 .done))))) (.must 22 (.must 27 (.must 28 (.take 29 (.must 31 .done))))))))))))) (.must 11 (.take 16 (.split (.take 17 (.take 18 (.take 19 (.take 20 (.take 21 (.must 22 (.must 27 (.must 28 (.take 29 (.must 31 .done)))))))))) (.take 17 (.take 18 (.take 19 (.take 20 (.take 21 (.must 22 (.must 27 (.must 28 (.take 29 (.must 31 .done)))))))))))))) (.must 10 (.must 11 (.take 16 (.split (.take 17 (.take 18 (.take 19 (.take 20 (.take 21 (.must 22 (.must 27 (.must 28 (.take 29 (.must 31 .done)))))))))) (.take 17 (.take 18 (.take 19 (.take 20 (.take 21 (.must 22 (.must 27 (.must 28 (.take 29 (.must 31 .done))))))))))))))))))))))))))))))))) (by kernel_rfl) (fun w12 hXd => ?_)
    have hB := hB.trans hXd
    have hBc := (by first | exact hBc.trans hXd | exact hB0.trans hXd)
    have hb1 := hb1.up hXd
    have hb2 := hb2.up hXd
    have hb3 := hb3.up hXd
    have ho4 := ho4.up hXd
    have ho5 := ho5.up hXd
    have hBr := hB
    have hS : Upd none w12 w12 := Ext.toUpd (Ext.refl _)
    refine HP.take rfl rfl rfl rfl hS (fun wS hS1 => PV.fieldAddr T.fl88_0 rfl hb1.cells) ?_
    refine HP.take rfl rfl rfl rfl hS (fun wS hS1 => PV.load1 T.na2 rfl (Bx.cells (Bx.updD (by assumption) hS1 (Dj.nlR _))) (Ext.refl _) rfl) ?_
    refine HP.take rfl rfl rfl rfl hS (fun wS hS1 => PV.add rfl rfl (by constructor <;> omega)) ?_
    refine HP.take rfl rfl rfl rfl hS (fun wS hS1 => PV.fieldAddr T.fl88_0 rfl hb2.cells) ?_
    refine HP.take rfl rfl rfl rfl hS (fun wS hS1 => PV.load1 T.na2 rfl (Bx.cells (Bx.updD (by assumption) hS1 (Dj.nlR _))) (Ext.refl _) rfl) ?_
    refine HP.take rfl rfl rfl rfl hS (fun wS hS1 => PV.add rfl rfl (by constructor <;> omega)) ?_
    refine HP.take rfl rfl rfl rfl hS (fun wS hS1 => PV.fieldAddr T.fl88_1 rfl hb1.cells) ?_
    refine HP.take rfl rfl rfl rfl hS (fun wS hS1 => PV.load1 T.na2 rfl (Bx.cells (Bx.updD (by assumption) hS1 (Dj.nlR _))) (Ext.refl _) rfl) ?_
    refine HP.take rfl rfl rfl rfl hS (fun wS hS1 => PV.move rfl) ?_
    refine HP.take rfl rfl rfl rfl hS (fun wS hS1 => PV.move rfl) ?_
    refine HP.take rfl rfl rfl rfl hS (fun wS hS1 => PV.fieldAddr T.fl88_3 rfl hb1.cells) ?_
    refine HP.take rfl rfl rfl rfl hS (fun wS hS1 => PV.load1 T.na62 rfl (Bx.cells (Bx.updD (by assumption) hS1 (Dj.nlR _))) (Ext.refl _) rfl) ?_
    first
      | refine HP.at (x := .tmp 51) (y := .const (.int .i64 0)) (E := EB) (false) rfl rfl (by first | assumption | exact Inn.rd (by assumption) (by omega)) (by first | omega | (simp only [List.length_set]; omega) | (simp only [List.length_append, List.length_take, List.length_replicate, List.length_drop]; omega)) (fun p1 csp1 hpp1 hcp1 hq => ?_)
      | refine HP.atZ (x := .tmp 51) (y := .const (.int .i64 0)) (E := EB) (false) rfl rfl (by first | assumption | exact Inn.rd (by assumption) (by omega)) (by first | omega | (simp only [List.length_set]; omega) | (simp only [List.length_append, List.length_take, List.length_replicate, List.length_drop]; omega)) (fun p1 csp1 hpp1 hzp1 hcp1 hq => ?_)
    cases hq
    refine HP.take rfl rfl rfl rfl hS (fun wS hS1 => (by first | exact PV.indexAddr hpp1 rfl rfl T.sl62 | exact PV.indexAddr hpp1 rfl (by rw [← hzp1]; rfl) T.sl62)) ?_
    refine HP.take rfl rfl rfl rfl hS (fun wS hS1 => (by first | exact PV.load0 T.na4 rfl (by first | exact Cells.up (by assumption) (hBr.trans hS1) | exact Bx.cells (Bx.updD (by assumption) hS1 (Dj.nlR _)) | exact Cells.upd (by assumption) hS1 (by simp)) (Ext.refl _) rfl | exact PV.load1 T.na4 rfl (by first | exact Cells.up (by assumption) (hBr.trans hS1) | exact Bx.cells (Bx.updD (by assumption) hS1 (Dj.nlR _)) | exact Cells.upd (by assumption) hS1 (by simp)) (Ext.refl _) rfl)) ?_
    refine HP.take rfl rfl rfl rfl hS (fun wS hS1 => PV.fieldAddr T.fl88_3 rfl hb1.cells) ?_
    refine HP.take rfl rfl rfl rfl hS (fun wS hS1 => PV.load1 T.na62 rfl (Bx.cells (Bx.updD (by assumption) hS1 (Dj.nlR _))) (Ext.refl _) rfl) ?_
    refine HP.take rfl rfl rfl rfl hS (fun wS hS1 => PV.fieldAddr T.fl88_3 rfl hb2.cells) ?_
    refine HP.take rfl rfl rfl rfl hS (fun wS hS1 => PV.load1 T.na62 rfl (Bx.cells (Bx.updD (by assumption) hS1 (Dj.nlR _))) (Ext.refl _) rfl) ?_
    refine HP.fork rfl rfl rfl rfl ?_ ?_
    · skip
      refine (OpK.buildS VV (os := [.tmp 46, .tmp 47]) [_, _] rfl T.sl232 rfl rfl T.zv86 rfl (by intro z hz; first | rfl | (simp only [List.mem_cons, List.not_mem_nil, or_false] at hz; rcases hz with hz | hz <;> subst hz <;> exact (by first | exact Rd.cells1 (by assumption) | exact Osl.cells1 (by assumption) | exact Osn.cells1 (by assumption) | exact Rd.cells1 (NL.rd (by assumption)) | exact Inn.cell1 (by assumption) (by omega) | assumption | rfl))) rfl (fun v9 g9 w13 hXw13 ho9 hge9 => ?_))
      have hl9 := Lo.new hB hge9
      have hv9 := Lo.new hS hge9
      have hd1_9 := Dj.new hb1.ltO hge9
      have hd2_9 := Dj.new hb2.ltO hge9
      have hd3_9 := Dj.new hb3.ltO hge9
      have hd4_9 := Dj.new ho4.ltO hge9
      have hd5_9 := Dj.new ho5.ltO hge9
      refine ⟨Upd.trans hS hXw13, ?_⟩
      have hS := Upd.trans hS hXw13
      have hB := hB.trans hXw13
      have hBc := (by first | exact hBc.trans hXw13 | exact hB0.trans hXw13)
      have hb1 := hb1.up hXw13
      have hb2 := hb2.up hXw13
      have hb3 := hb3.up hXw13
      have ho4 := ho4.up hXw13
      have ho5 := ho5.up hXw13
      refine HP.fork rfl rfl rfl rfl ?_ ?_
      · skip
        refine (OpK.call rfl T.cf153 rfl (c_slices_Concat_impl_PairArc_impl_PairArc (rdSl2 (by assumption) (Osn.rdR (by assumption)) (Osn.rdR (by assumption))) (by simp [movL]; omega)) (fun rv3 w14 hR => ?_))
        obtain ⟨hXw14, v10, og10, rfl, ho10, hq10⟩ := hR
        have hl10 := Lo.up hq10 hB
        have hv10 := Lo.up hq10 hS
        have hd1_10 := Dj.lo hb1.ltO hq10
        have hd2_10 := Dj.lo hb2.ltO hq10
        have hd3_10 := Dj.lo hb3.ltO hq10
        have hd4_10 := Dj.lo ho4.ltO hq10
        have hd5_10 := Dj.lo ho5.ltO hq10
        have hd9_10 := Dj.lo ho9.ltO hq10
        refine ⟨Upd.trans hS hXw14, ?_⟩
        have hS := Upd.trans hS hXw14
        have hB := hB.trans hXw14
        have hBc := (by first | exact hBc.trans hXw14 | exact hB0.trans hXw14)
        have hb1 := hb1.up hXw14
        have hb2 := hb2.up hXw14
        have hb3 := hb3.up hXw14
        have ho4 := ho4.up hXw14
        have ho5 := ho5.up hXw14
        have ho9 := ho9.up hXw14
        refine HP.take rfl rfl rfl rfl hS (fun wS hS1 => PV.move rfl) ?_
        refine HP.split (t := 54) rfl (fun hc4 => ?_) (fun hc4 => ?_)
        · skip
          try simp only [nq] at hc4
          refine HP.skip rfl rfl rfl rfl rfl rfl hS ?_
          refine HP.skip rfl rfl rfl rfl rfl rfl hS ?_
          refine HP.skip rfl rfl rfl rfl rfl rfl hS ?_
          refine HP.skip rfl rfl rfl rfl rfl rfl hS ?_
          refine HP.take rfl rfl rfl rfl hS (fun wS hS1 => PV.pickT rfl rfl) ?_
          refine HP.fork rfl rfl rfl rfl ?_ ?_
          · skip
            refine (OpK.buildS VB (os := [.tmp 59]) [_] rfl T.sl62 rfl rfl T.zv4 rfl (by intro z hz; first | rfl | (simp only [List.mem_cons, List.not_mem_nil, or_false] at hz; subst hz; exact (by first | exact Rd.cells1 (by assumption) | exact Osl.cells1 (by assumption) | exact Osn.cells1 (by assumption) | exact Rd.cells1 (NL.rd (by assumption)) | exact Inn.cell1 (by assumption) (by omega) | assumption | rfl))) rfl (fun v11 g11 w15 hXw15 ho11 hge11 => ?_))
            have hl11 := Lo.new hB hge11
            have hv11 := Lo.new hS hge11
            have hd1_11 := Dj.new hb1.ltO hge11
            have hd2_11 := Dj.new hb2.ltO hge11
            have hd3_11 := Dj.new hb3.ltO hge11
            have hd4_11 := Dj.new ho4.ltO hge11
            have hd5_11 := Dj.new ho5.ltO hge11
            have hd9_11 := Dj.new ho9.ltO hge11
            have hd10_11 := Dj.new ho10.ltO hge11
            refine ⟨Upd.trans hS hXw15, ?_⟩
            have hS := Upd.trans hS hXw15
            have hB := hB.trans hXw15
            have hBc := (by first | exact hBc.trans hXw15 | exact hB0.trans hXw15)
            have hb1 := hb1.up hXw15
            have hb2 := hb2.up hXw15
            have hb3 := hb3.up hXw15
            have ho4 := ho4.up hXw15
            have ho5 := ho5.up hXw15
            have ho9 := ho9.up hXw15
            have ho10 := ho10.up hXw15
            refine HP.fork rfl rfl rfl rfl ?_ ?_
            · skip
              refine (OpK.buildS VV (os := [.tmp 60, .tmp 62, .tmp 64]) [_, _, _] rfl T.sl234 rfl rfl T.zv62 rfl (by intro z hz; first | rfl | (simp only [List.mem_cons, List.not_mem_nil, or_false] at hz; rcases hz with hz | hz | hz <;> subst hz <;> exact (by first | exact Rd.cells1 (by assumption) | exact Osl.cells1 (by assumption) | exact Osn.cells1 (by assumption) | exact Rd.cells1 (NL.rd (by assumption)) | exact Inn.cell1 (by assumption) (by omega) | assumption | rfl))) rfl (fun v12 g12 w16 hXw16 ho12 hge12 => ?_))
              have hl12 := Lo.new hB hge12
              have hv12 := Lo.new hS hge12
              have hd1_12 := Dj.new hb1.ltO hge12
              have hd2_12 := Dj.new hb2.ltO hge12
              have hd3_12 := Dj.new hb3.ltO hge12
              have hd4_12 := Dj.new ho4.ltO hge12
              have hd5_12 := Dj.new ho5.ltO hge12
              have hd9_12 := Dj.new ho9.ltO hge12
              have hd10_12 := Dj.new ho10.ltO hge12
              have hd11_12 := Dj.new ho11.ltO hge12
              refine ⟨Upd.trans hS hXw16, ?_⟩
              have hS := Upd.trans hS hXw16
              have hB := hB.trans hXw16
              have hBc := (by first | exact hBc.trans hXw16 | exact hB0.trans hXw16)
              have hb1 := hb1.up hXw16
              have hb2 := hb2.up hXw16
              have hb3 := hb3.up hXw16
              have ho4 := ho4.up hXw16
              have ho5 := ho5.up hXw16
              have ho9 := ho9.up hXw16
              have ho10 := ho10.up hXw16
              have ho11 := ho11.up hXw16
              refine HP.fork rfl rfl rfl rfl ?_ ?_
              · skip
                refine (OpK.call rfl T.cf154 rfl (c_slices_Concat_bool_bool (rdSl3 (by assumption) (Osl.rd (by assumption)) (by first | assumption | exact Rd.up (by assumption) hB) (by first | assumption | exact Rd.up (by assumption) hB)) (by simp; omega)) (fun rv4 w17 hR => ?_))
                obtain ⟨hXw17, v13, og13, rfl, ho13, hq13⟩ := hR
                have hl13 := Lo.up hq13 hB
                have hv13 := Lo.up hq13 hS
                have hd1_13 := Dj.lo hb1.ltO hq13
                have hd2_13 := Dj.lo hb2.ltO hq13
                have hd3_13 := Dj.lo hb3.ltO hq13
                have hd4_13 := Dj.lo ho4.ltO hq13
                have hd5_13 := Dj.lo ho5.ltO hq13
                have hd9_13 := Dj.lo ho9.ltO hq13
                have hd10_13 := Dj.lo ho10.ltO hq13
                have hd11_13 := Dj.lo ho11.ltO hq13
                have hd12_13 := Dj.lo ho12.ltO hq13
                refine ⟨Upd.trans hS hXw17, ?_⟩
                have hS := Upd.trans hS hXw17
                have hB := hB.trans hXw17
                have hBc := (by first | exact hBc.trans hXw17 | exact hB0.trans hXw17)
                have hb1 := hb1.up hXw17
                have hb2 := hb2.up hXw17
                have hb3 := hb3.up hXw17
                have ho4 := ho4.up hXw17
                have ho5 := ho5.up hXw17
                have ho9 := ho9.up hXw17
                have ho10 := ho10.up hXw17
                have ho11 := ho11.up hXw17
                have ho12 := ho12.up hXw17
                refine HP.take rfl rfl rfl rfl hS (fun wS hS1 => PV.build (ks := [0, 1, 2, 3]) (os := [.tmp 43, .tmp 45, .tmp 49, .tmp 66]) (css := [[_], [_], [_], [_]]) (ds := [_, _, _, _]) T.bu88 rfl rfl ⟨rfl, rfl, (by first | exact Rd.cells1 (by assumption) | exact Osl.cells1 (by assumption) | exact Osn.cells1 (by assumption) | exact Rd.cells1 (NL.rd (by assumption)) | exact Inn.cell1 (by assumption) (by omega) | assumption | rfl), (by first | exact Rd.cells1 (by assumption) | exact Osl.cells1 (by assumption) | exact Osn.cells1 (by assumption) | exact Rd.cells1 (NL.rd (by assumption)) | exact Inn.cell1 (by assumption) (by omega) | assumption | rfl), trivial⟩ rfl) ?_
                refine HP.must rfl rfl (OpK.alloc rfl T.zv88 rfl (fun b14 w18 hXw18 hb14 hge14 => ?_))
                have hl14 := Lo.new hB hge14
                have hv14 := Lo.new hS hge14
                have hd1_14 := Dj.new hb1.ltO hge14
                have hd2_14 := Dj.new hb2.ltO hge14
                have hd3_14 := Dj.new hb3.ltO hge14
                have hd4_14 := Dj.new ho4.ltO hge14
                have hd5_14 := Dj.new ho5.ltO hge14
                have hd9_14 := Dj.new ho9.ltO hge14
                have hd10_14 := Dj.new ho10.ltO hge14
                have hd11_14 := Dj.new ho11.ltO hge14
                have hd12_14 := Dj.new ho12.ltO hge14
                have hd13_14 := Dj.new ho13.ltO hge14
                refine ⟨Upd.trans hS hXw18, ?_⟩
                have hS := Upd.trans hS hXw18
                have hB := hB.trans hXw18
                have hBc := (by first | exact hBc.trans hXw18 | exact hB0.trans hXw18)
                have hb1 := hb1.up hXw18
                have hb2 := hb2.up hXw18
                have hb3 := hb3.up hXw18
                have ho4 := ho4.up hXw18
                have ho5 := ho5.up hXw18
                have ho9 := ho9.up hXw18
                have ho10 := ho10.up hXw18
                have ho11 := ho11.up hXw18
                have ho12 := ho12.up hXw18
                have ho13 := ho13.up hXw18
                refine HP.must rfl rfl (OpK.storeA T.sz88 rfl rfl rfl rfl (by simp [Value.oneCell'] <;> first | done | (repeat' apply And.intro) <;> first | rfl | exact Inn.one1 (by assumption) (by omega) | exact Osl.oneCell (by assumption) | exact Osn.oneCell (by assumption) | exact Rd.oneCell (by assumption) | exact Rd.oneCell (NL.rd (by assumption)) | assumption) hb14 (fun w19 hXw19 hb14 => ?_))
                refine ⟨Ext.updL hS hXw19 hv14, ?_⟩
                have hS := Ext.updL hS hXw19 hv14
                have hB := hB.updL hXw19 hl14
                have hBc := hBc.updL hXw19 (Lo.up hv14 hXd)
                have hb1 := hb1.updD hXw19 hd1_14
                have hb2 := hb2.updD hXw19 hd2_14
                have hb3 := hb3.updD hXw19 hd3_14
                have ho4 := ho4.updD hXw19 hd4_14
                have ho5 := ho5.updD hXw19 hd5_14
                have ho9 := ho9.updD hXw19 hd9_14
                have ho10 := ho10.updD hXw19 hd10_14
                have ho11 := ho11.updD hXw19 hd11_14
                have ho12 := ho12.updD hXw19 hd12_14
                have ho13 := ho13.updD hXw19 hd13_14
                refine HP.done ?_
                exact NQ.cut (ρ := [(8, _)]) ⟨rfl, rfl, rfl, rfl, rfl, trivial⟩ ⟨b14, rv3, og10, rv4, og13, rfl, hBc, (bxE hb14 (by first | rfl | (simp_all; done))), hl14, (osnE ho10 (by first | rfl | (simp_all; done))), hl10, (osE ho13 (by first | rfl | (simp_all; done))), hl13, hd1_14, hd1_10, hd1_13, hd2_14, hd2_10, hd2_13, hd3_14, hd3_10, hd3_13, hd4_14, hd4_10, hd4_13, hd5_14, hd5_10, hd5_13, (Dj.symm hd10_14), (Dj.symm hd13_14), hd10_13⟩
              · skip
                refine (OpK.alloc rfl T.zv88 rfl (fun b15 w20 hXw20 hb15 hge15 => ?_))
                have hl15 := Lo.new hB hge15
                have hv15 := Lo.new hS hge15
                have hd1_15 := Dj.new hb1.ltO hge15
                have hd2_15 := Dj.new hb2.ltO hge15
                have hd3_15 := Dj.new hb3.ltO hge15
                have hd4_15 := Dj.new ho4.ltO hge15
                have hd5_15 := Dj.new ho5.ltO hge15
                have hd9_15 := Dj.new ho9.ltO hge15
                have hd10_15 := Dj.new ho10.ltO hge15
                have hd11_15 := Dj.new ho11.ltO hge15
                have hd12_15 := Dj.new ho12.ltO hge15
                refine ⟨Upd.trans hS hXw20, ?_⟩
                have hS := Upd.trans hS hXw20
                have hB := hB.trans hXw20
                have hBc := (by first | exact hBc.trans hXw20 | exact hB0.trans hXw20)
                have hb1 := hb1.up hXw20
                have hb2 := hb2.up hXw20
                have hb3 := hb3.up hXw20
                have ho4 := ho4.up hXw20
                have ho5 := ho5.up hXw20
                have ho9 := ho9.up hXw20
                have ho10 := ho10.up hXw20
                have ho11 := ho11.up hXw20
                have ho12 := ho12.up hXw20
                refine HP.must rfl rfl (OpK.call rfl T.cf154 rfl (c_slices_Concat_bool_bool (rdSl3 (by assumption) (Osl.rd (by assumption)) (by first | assumption | exact Rd.up (by assumption) hB) (by first | assumption | exact Rd.up (by assumption) hB)) (by simp; omega)) (fun rv5 w21 hR => ?_))
                obtain ⟨hXw21, v16, og16, rfl, ho16, hq16⟩ := hR
                have hl16 := Lo.up hq16 hB
                have hv16 := Lo.up hq16 hS
                have hd1_16 := Dj.lo hb1.ltO hq16
                have hd2_16 := Dj.lo hb2.ltO hq16
                have hd3_16 := Dj.lo hb3.ltO hq16
                have hd4_16 := Dj.lo ho4.ltO hq16
                have hd5_16 := Dj.lo ho5.ltO hq16
                have hd9_16 := Dj.lo ho9.ltO hq16
                have hd10_16 := Dj.lo ho10.ltO hq16
                have hd11_16 := Dj.lo ho11.ltO hq16
                have hd12_16 := Dj.lo ho12.ltO hq16
                have hd15_16 := Dj.lo hb15.ltO hq16
                refine ⟨Upd.trans hS hXw21, ?_⟩
                have hS := Upd.trans hS hXw21
                have hB := hB.trans hXw21
                have hBc := (by first | exact hBc.trans hXw21 | exact hB0.trans hXw21)
                have hb1 := hb1.up hXw21
                have hb2 := hb2.up hXw21
                have hb3 := hb3.up hXw21
                have ho4 := ho4.up hXw21
                have ho5 := ho5.up hXw21
                have ho9 := ho9.up hXw21
                have ho10 := ho10.up hXw21
                have ho11 := ho11.up hXw21
                have ho12 := ho12.up hXw21
                have hb15 := hb15.up hXw21
                refine HP.take rfl rfl rfl rfl hS (fun wS hS1 => PV.build (ks := [0, 1, 2, 3]) (os := [.tmp 43, .tmp 45, .tmp 49, .tmp 66]) (css := [[_], [_], [_], [_]]) (ds := [_, _, _, _]) T.bu88 rfl rfl ⟨rfl, rfl, (by first | exact Rd.cells1 (by assumption) | exact Osl.cells1 (by assumption) | exact Osn.cells1 (by assumption) | exact Rd.cells1 (NL.rd (by assumption)) | exact Inn.cell1 (by assumption) (by omega) | assumption | rfl), (by first | exact Rd.cells1 (by assumption) | exact Osl.cells1 (by assumption) | exact Osn.cells1 (by assumption) | exact Rd.cells1 (NL.rd (by assumption)) | exact Inn.cell1 (by assumption) (by omega) | assumption | rfl), trivial⟩ rfl) ?_
                refine HP.must rfl rfl (OpK.storeA T.sz88 rfl rfl rfl rfl (by simp [Value.oneCell'] <;> first | done | (repeat' apply And.intro) <;> first | rfl | exact Inn.one1 (by assumption) (by omega) | exact Osl.oneCell (by assumption) | exact Osn.oneCell (by assumption) | exact Rd.oneCell (by assumption) | exact Rd.oneCell (NL.rd (by assumption)) | assumption) hb15 (fun w22 hXw22 hb15 => ?_))
                refine ⟨Ext.updL hS hXw22 hv15, ?_⟩
                have hS := Ext.updL hS hXw22 hv15
                have hB := hB.updL hXw22 hl15
                have hBc := hBc.updL hXw22 (Lo.up hv15 hXd)
                have hb1 := hb1.updD hXw22 hd1_15
                have hb2 := hb2.updD hXw22 hd2_15
                have hb3 := hb3.updD hXw22 hd3_15
                have ho4 := ho4.updD hXw22 hd4_15
                have ho5 := ho5.updD hXw22 hd5_15
                have ho9 := ho9.updD hXw22 hd9_15
                have ho10 := ho10.updD hXw22 hd10_15
                have ho11 := ho11.updD hXw22 hd11_15
                have ho12 := ho12.updD hXw22 hd12_15
                have ho16 := ho16.updD hXw22 (Dj.symm hd15_16)
                refine HP.done ?_
                exact NQ.cut (ρ := [(8, _)]) ⟨rfl, rfl, rfl, rfl, rfl, trivial⟩ ⟨b15, rv3, og10, rv5, og16, rfl, hBc, (bxE hb15 (by first | rfl | (simp_all; done))), hl15, (osnE ho10 (by first | rfl | (simp_all; done))), hl10, (osE ho16 (by first | rfl | (simp_all; done))), hl16, hd1_15, hd1_10, hd1_16, hd2_15, hd2_10, hd2_16, hd3_15, hd3_10, hd3_16, hd4_15, hd4_10, hd4_16, hd5_15, hd5_10, hd5_16, (Dj.symm hd10_15), hd15_16, hd10_16⟩
            · skip
              refine (OpK.alloc rfl T.zv88 rfl (fun b17 w23 hXw23 hb17 hge17 => ?_))
              have hl17 := Lo.new hB hge17
              have hv17 := Lo.new hS hge17
              have hd1_17 := Dj.new hb1.ltO hge17
              have hd2_17 := Dj.new hb2.ltO hge17
              have hd3_17 := Dj.new hb3.ltO hge17
              have hd4_17 := Dj.new ho4.ltO hge17
              have hd5_17 := Dj.new ho5.ltO hge17
              have hd9_17 := Dj.new ho9.ltO hge17
              have hd10_17 := Dj.new ho10.ltO hge17
              have hd11_17 := Dj.new ho11.ltO hge17
              refine ⟨Upd.trans hS hXw23, ?_⟩
              have hS := Upd.trans hS hXw23
              have hB := hB.trans hXw23
              have hBc := (by first | exact hBc.trans hXw23 | exact hB0.trans hXw23)
              have hb1 := hb1.up hXw23
              have hb2 := hb2.up hXw23
              have hb3 := hb3.up hXw23
              have ho4 := ho4.up hXw23
              have ho5 := ho5.up hXw23
              have ho9 := ho9.up hXw23
              have ho10 := ho10.up hXw23
              have ho11 := ho11.up hXw23
              refine HP.must rfl rfl (OpK.buildS VV (os := [.tmp 60, .tmp 62, .tmp 64]) [_, _, _] rfl T.sl234 rfl rfl T.zv62 rfl (by intro z hz; first | rfl | (simp only [List.mem_cons, List.not_mem_nil, or_false] at hz; rcases hz with hz | hz | hz <;> subst hz <;> exact (by first | exact Rd.cells1 (by assumption) | exact Osl.cells1 (by assumption) | exact Osn.cells1 (by assumption) | exact Rd.cells1 (NL.rd (by assumption)) | exact Inn.cell1 (by assumption) (by omega) | assumption | rfl))) rfl (fun v18 g18 w24 hXw24 ho18 hge18 => ?_))
              have hl18 := Lo.new hB hge18
              have hv18 := Lo.new hS hge18
              have hd1_18 := Dj.new hb1.ltO hge18
              have hd2_18 := Dj.new hb2.ltO hge18
              have hd3_18 := Dj.new hb3.ltO hge18
              have hd4_18 := Dj.new ho4.ltO hge18
              have hd5_18 := Dj.new ho5.ltO hge18
              have hd9_18 := Dj.new ho9.ltO hge18
              have hd10_18 := Dj.new ho10.ltO hge18
              have hd11_18 := Dj.new ho11.ltO hge18
              have hd17_18 := Dj.new hb17.ltO hge18
              refine ⟨Upd.trans hS hXw24, ?_⟩
              have hS := Upd.trans hS hXw24
              have hB := hB.trans hXw24
              have hBc := (by first | exact hBc.trans hXw24 | exact hB0.trans hXw24)
              have hb1 := hb1.up hXw24
              have hb2 := hb2.up hXw24
              have hb3 := hb3.up hXw24
              have ho4 := ho4.up hXw24
              have ho5 := ho5.up hXw24
              have ho9 := ho9.up hXw24
              have ho10 := ho10.up hXw24
              have ho11 := ho11.up hXw24
              have hb17 := hb17.up hXw24
              refine HP.must rfl rfl (OpK.call rfl T.cf154 rfl (c_slices_Concat_bool_bool (rdSl3 (by assumption) (Osl.rd (by assumption)) (by first | assumption | exact Rd.up (by assumption) hB) (by first | assumption | exact Rd.up (by assumption) hB)) (by simp; omega)) (fun rv6 w25 hR => ?_))
              obtain ⟨hXw25, v19, og19, rfl, ho19, hq19⟩ := hR
              have hl19 := Lo.up hq19 hB
              have hv19 := Lo.up hq19 hS
              have hd1_19 := Dj.lo hb1.ltO hq19
              have hd2_19 := Dj.lo hb2.ltO hq19
              have hd3_19 := Dj.lo hb3.ltO hq19
              have hd4_19 := Dj.lo ho4.ltO hq19
              have hd5_19 := Dj.lo ho5.ltO hq19
              have hd9_19 := Dj.lo ho9.ltO hq19
              have hd10_19 := Dj.lo ho10.ltO hq19
              have hd11_19 := Dj.lo ho11.ltO hq19
              have hd17_19 := Dj.lo hb17.ltO hq19
              have hd18_19 := Dj.lo ho18.ltO hq19
              refine ⟨Upd.trans hS hXw25, ?_⟩
              have hS := Upd.trans hS hXw25
              have hB := hB.trans hXw25
              have hBc := (by first | exact hBc.trans hXw25 | exact hB0.trans hXw25)
              have hb1 := hb1.up hXw25
              have hb2 := hb2.up hXw25
              have hb3 := hb3.up hXw25
              have ho4 := ho4.up hXw25
              have ho5 := ho5.up hXw25
              have ho9 := ho9.up hXw25
              have ho10 := ho10.up hXw25
              have ho11 := ho11.up hXw25
              have hb17 := hb17.up hXw25
              have ho18 := ho18.up hXw25
              refine HP.take rfl rfl rfl rfl hS (fun wS hS1 => PV.build (ks := [0, 1, 2, 3]) (os := [.tmp 43, .tmp 45, .tmp 49, .tmp 66]) (css := [[_], [_], [_], [_]]) (ds := [_, _, _, _]) T.bu88 rfl rfl ⟨rfl, rfl, (by first | exact Rd.cells1 (by assumption) | exact Osl.cells1 (by assumption) | exact Osn.cells1 (by assumption) | exact Rd.cells1 (NL.rd (by assumption)) | exact Inn.cell1 (by assumption) (by omega) | assumption | rfl), (by first | exact Rd.cells1 (by assumption) | exact Osl.cells1 (by assumption) | exact Osn.cells1 (by assumption) | exact Rd.cells1 (NL.rd (by assumption)) | exact Inn.cell1 (by assumption) (by omega) | assumption | rfl), trivial⟩ rfl) ?_
              refine HP.must rfl rfl (OpK.storeA T.sz88 rfl rfl rfl rfl (by simp [Value.oneCell'] <;> first | done | (repeat' apply And.intro) <;> first | rfl | exact Inn.one1 (by assumption) (by omega) | exact Osl.oneCell (by assumption) | exact Osn.oneCell (by assumption) | exact Rd.oneCell (by assumption) | exact Rd.oneCell (NL.rd (by assumption)) | assumption) hb17 (fun w26 hXw26 hb17 => ?_))
              refine ⟨Ext.updL hS hXw26 hv17, ?_⟩
              have hS := Ext.updL hS hXw26 hv17
              have hB := hB.updL hXw26 hl17
              have hBc := hBc.updL hXw26 (Lo.up hv17 hXd)
              have hb1 := hb1.updD hXw26 hd1_17
              have hb2 := hb2.updD hXw26 hd2_17
              have hb3 := hb3.updD hXw26 hd3_17
              have ho4 := ho4.updD hXw26 hd4_17
              have ho5 := ho5.updD hXw26 hd5_17
              have ho9 := ho9.updD hXw26 hd9_17
              have ho10 := ho10.updD hXw26 hd10_17
              have ho11 := ho11.updD hXw26 hd11_17
              have ho18 := ho18.updD hXw26 (Dj.symm hd17_18)
              have ho19 := ho19.updD hXw26 (Dj.symm hd17_19)
              refine HP.done ?_
              exact NQ.cut (ρ := [(8, _)]) ⟨rfl, rfl, rfl, rfl, rfl, trivial⟩ ⟨b17, rv3, og10, rv6, og19, rfl, hBc, (bxE hb17 (by first | rfl | (simp_all; done))), hl17, (osnE ho10 (by first | rfl | (simp_all; done))), hl10, (osE ho19 (by first | rfl | (simp_all; done))), hl19, hd1_17, hd1_10, hd1_19, hd2_17, hd2_10, hd2_19, hd3_17, hd3_10, hd3_19, hd4_17, hd4_10, hd4_19, hd5_17, hd5_10, hd5_19, (Dj.symm hd10_17), hd17_19, hd10_19⟩
          · skip
            refine (OpK.alloc rfl T.zv88 rfl (fun b20 w27 hXw27 hb20 hge20 => ?_))
            have hl20 := Lo.new hB hge20
            have hv20 := Lo.new hS hge20
            have hd1_20 := Dj.new hb1.ltO hge20
            have hd2_20 := Dj.new hb2.ltO hge20
            have hd3_20 := Dj.new hb3.ltO hge20
            have hd4_20 := Dj.new ho4.ltO hge20
            have hd5_20 := Dj.new ho5.ltO hge20
            have hd9_20 := Dj.new ho9.ltO hge20
            have hd10_20 := Dj.new ho10.ltO hge20
            refine ⟨Upd.trans hS hXw27, ?_⟩
            have hS := Upd.trans hS hXw27
            have hB := hB.trans hXw27
            have hBc := (by first | exact hBc.trans hXw27 | exact hB0.trans hXw27)
            have hb1 := hb1.up hXw27
            have hb2 := hb2.up hXw27
            have hb3 := hb3.up hXw27
            have ho4 := ho4.up hXw27
            have ho5 := ho5.up hXw27
            have ho9 := ho9.up hXw27
            have ho10 := ho10.up hXw27
            refine HP.must rfl rfl (OpK.buildS VB (os := [.tmp 59]) [_] rfl T.sl62 rfl rfl T.zv4 rfl (by intro z hz; first | rfl | (simp only [List.mem_cons, List.not_mem_nil, or_false] at hz; subst hz; exact (by first | exact Rd.cells1 (by assumption) | exact Osl.cells1 (by assumption) | exact Osn.cells1 (by assumption) | exact Rd.cells1 (NL.rd (by assumption)) | exact Inn.cell1 (by assumption) (by omega) | assumption | rfl))) rfl (fun v21 g21 w28 hXw28 ho21 hge21 => ?_))
            have hl21 := Lo.new hB hge21
            have hv21 := Lo.new hS hge21
            have hd1_21 := Dj.new hb1.ltO hge21
            have hd2_21 := Dj.new hb2.ltO hge21
            have hd3_21 := Dj.new hb3.ltO hge21
            have hd4_21 := Dj.new ho4.ltO hge21
            have hd5_21 := Dj.new ho5.ltO hge21
            have hd9_21 := Dj.new ho9.ltO hge21
            have hd10_21 := Dj.new ho10.ltO hge21
            have hd20_21 := Dj.new hb20.ltO hge21
            refine ⟨Upd.trans hS hXw28, ?_⟩
            have hS := Upd.trans hS hXw28
            have hB := hB.trans hXw28
            have hBc := (by first | exact hBc.trans hXw28 | exact hB0.trans hXw28)
            have hb1 := hb1.up hXw28
            have hb2 := hb2.up hXw28
            have hb3 := hb3.up hXw28
            have ho4 := ho4.up hXw28
            have ho5 := ho5.up hXw28
            have ho9 := ho9.up hXw28
            have ho10 := ho10.up hXw28
            have hb20 := hb20.up hXw28
            refine HP.must rfl rfl (OpK.buildS VV (os := [.tmp 60, .tmp 62, .tmp 64]) [_, _, _] rfl T.sl234 rfl rfl T.zv62 rfl (by intro z hz; first | rfl | (simp only [List.mem_cons, List.not_mem_nil, or_false] at hz; rcases hz with hz | hz | hz <;> subst hz <;> exact (by first | exact Rd.cells1 (by assumption) | exact Osl.cells1 (by assumption) | exact Osn.cells1 (by assumption) | exact Rd.cells1 (NL.rd (by assumption)) | exact Inn.cell1 (by assumption) (by omega) | assumption | rfl))) rfl (fun v22 g22 w29 hXw29 ho22 hge22 => ?_))
            have hl22 := Lo.new hB hge22
            have hv22 := Lo.new hS hge22
            have hd1_22 := Dj.new hb1.ltO hge22
            have hd2_22 := Dj.new hb2.ltO hge22
            have hd3_22 := Dj.new hb3.ltO hge22
            have hd4_22 := Dj.new ho4.ltO hge22
            have hd5_22 := Dj.new ho5.ltO hge22
            have hd9_22 := Dj.new ho9.ltO hge22
            have hd10_22 := Dj.new ho10.ltO hge22
            have hd20_22 := Dj.new hb20.ltO hge22
            have hd21_22 := Dj.new ho21.ltO hge22
            refine ⟨Upd.trans hS hXw29, ?_⟩
            have hS := Upd.trans hS hXw29
            have hB := hB.trans hXw29
            have hBc := (by first | exact hBc.trans hXw29 | exact hB0.trans hXw29)
            have hb1 := hb1.up hXw29
            have hb2 := hb2.up hXw29
            have hb3 := hb3.up hXw29
            have ho4 := ho4.up hXw29
            have ho5 := ho5.up hXw29
            have ho9 := ho9.up hXw29
            have ho10 := ho10.up hXw29
            have hb20 := hb20.up hXw29
            have ho21 := ho21.up hXw29
            refine HP.must rfl rfl (OpK.call rfl T.cf154 rfl (c_slices_Concat_bool_bool (rdSl3 (by assumption) (Osl.rd (by assumption)) (by first | assumption | exact Rd.up (by assumption) hB) (by first | assumption | exact Rd.up (by assumption) hB)) (by simp; omega)) (fun rv7 w30 hR => ?_))
            obtain ⟨hXw30, v23, og23, rfl, ho23, hq23⟩ := hR
            have hl23 := Lo.up hq23 hB
            have hv23 := Lo.up hq23 hS
            have hd1_23 := Dj.lo hb1.ltO hq23
            have hd2_23 := Dj.lo hb2.ltO hq23
            have hd3_23 := Dj.lo hb3.ltO hq23
            have hd4_23 := Dj.lo ho4.ltO hq23
            have hd5_23 := Dj.lo ho5.ltO hq23
            have hd9_23 := Dj.lo ho9.ltO hq23
            have hd10_23 := Dj.lo ho10.ltO hq23
            have hd20_23 := Dj.lo hb20.ltO hq23
            have hd21_23 := Dj.lo ho21.ltO hq23
            have hd22_23 := Dj.lo ho22.ltO hq23
            refine ⟨Upd.trans hS hXw30, ?_⟩
            have hS := Upd.trans hS hXw30
            have hB := hB.trans hXw30
            have hBc := (by first | exact hBc.trans hXw30 | exact hB0.trans hXw30)
            have hb1 := hb1.up hXw30
            have hb2 := hb2.up hXw30
            have hb3 := hb3.up hXw30
            have ho4 := ho4.up hXw30
            have ho5 := ho5.up hXw30
            have ho9 := ho9.up hXw30
            have ho10 := ho10.up hXw30
            have hb20 := hb20.up hXw30
            have ho21 := ho21.up hXw30
            have ho22 := ho22.up hXw30
            refine HP.take rfl rfl rfl rfl hS (fun wS hS1 => PV.build (ks := [0, 1, 2, 3]) (os := [.tmp 43, .tmp 45, .tmp 49, .tmp 66]) (css := [[_], [_], [_], [_]]) (ds := [_, _, _, _]) T.bu88 rfl rfl ⟨rfl, rfl, (by first | exact Rd.cells1 (by assumption) | exact Osl.cells1 (by assumption) | exact Osn.cells1 (by assumption) | exact Rd.cells1 (NL.rd (by assumption)) | exact Inn.cell1 (by assumption) (by omega) | assumption | rfl), (by first | exact Rd.cells1 (by assumption) | exact Osl.cells1 (by assumption) | exact Osn.cells1 (by assumption) | exact Rd.cells1 (NL.rd (by assumption)) | exact Inn.cell1 (by assumption) (by omega) | assumption | rfl), trivial⟩ rfl) ?_
            refine HP.must rfl rfl (OpK.storeA T.sz88 rfl rfl rfl rfl (by simp [Value.oneCell'] <;> first | done | (repeat' apply And.intro) <;> first | rfl | exact Inn.one1 (by assumption) (by omega) | exact Osl.oneCell (by assumption) | exact Osn.oneCell (by assumption) | exact Rd.oneCell (by assumption) | exact Rd.oneCell (NL.rd (by assumption)) | assumption) hb20 (fun w31 hXw31 hb20 => ?_))
            refine ⟨Ext.updL hS hXw31 hv20, ?_⟩
            have hS := Ext.updL hS hXw31 hv20
            have hB := hB.updL hXw31 hl20
            have hBc := hBc.updL hXw31 (Lo.up hv20 hXd)
            have hb1 := hb1.updD hXw31 hd1_20
            have hb2 := hb2.updD hXw31 hd2_20
            have hb3 := hb3.updD hXw31 hd3_20
            have ho4 := ho4.updD hXw31 hd4_20
            have ho5 := ho5.updD hXw31 hd5_20
            have ho9 := ho9.updD hXw31 hd9_20
            have ho10 := ho10.updD hXw31 hd10_20
            have ho21 := ho21.updD hXw31 (Dj.symm hd20_21)
            have ho22 := ho22.updD hXw31 (Dj.symm hd20_22)
            have ho23 := ho23.updD hXw31 (Dj.symm hd20_23)
            refine HP.done ?_
            exact NQ.cut (ρ := [(8, _)]) ⟨rfl, rfl, rfl, rfl, rfl, trivial⟩ ⟨b20, rv3, og10, rv7, og23, rfl, hBc, (bxE hb20 (by first | rfl | (simp_all; done))), hl20, (osnE ho10 (by first | rfl | (simp_all; done))), hl10, (osE ho23 (by first | rfl | (simp_all; done))), hl23, hd1_20, hd1_10, hd1_23, hd2_20, hd2_10, hd2_23, hd3_20, hd3_10, hd3_23, hd4_20, hd4_10, hd4_23, hd5_20, hd5_10, hd5_23, (Dj.symm hd10_20), hd20_23, hd10_23⟩
        try simp only [nq] at hc4
        refine HP.takeG rfl rfl rfl rfl rfl rfl hS (fun wS hS1 => PV.fieldAddr T.fl88_3 rfl hb2.cells) ?_
        refine HP.takeG rfl rfl rfl rfl rfl rfl hS (fun wS hS1 => PV.load1 T.na62 rfl (Bx.cells (Bx.updD (by assumption) hS1 (Dj.nlR _))) (Ext.refl _) rfl) ?_
        first
          | refine HP.at (x := .tmp 56) (y := .const (.int .i64 0)) (E := EB) (false) rfl rfl (by first | assumption | exact Inn.rd (by assumption) (by omega)) (by first | omega | (simp only [List.length_set]; omega) | (simp only [List.length_append, List.length_take, List.length_replicate, List.length_drop]; omega)) (fun p2 csp2 hpp2 hcp2 hq => ?_)
          | refine HP.atZ (x := .tmp 56) (y := .const (.int .i64 0)) (E := EB) (false) rfl rfl (by first | assumption | exact Inn.rd (by assumption) (by omega)) (by first | omega | (simp only [List.length_set]; omega) | (simp only [List.length_append, List.length_take, List.length_replicate, List.length_drop]; omega)) (fun p2 csp2 hpp2 hzp2 hcp2 hq => ?_)
        cases hq
        refine HP.takeG rfl rfl rfl rfl rfl rfl hS (fun wS hS1 => (by first | exact PV.indexAddr hpp2 rfl rfl T.sl62 | exact PV.indexAddr hpp2 rfl (by rw [← hzp2]; rfl) T.sl62)) ?_
        refine HP.takeG rfl rfl rfl rfl rfl rfl hS (fun wS hS1 => (by first | exact PV.load0 T.na4 rfl (by first | exact Cells.up (by assumption) (hBr.trans hS1) | exact Bx.cells (Bx.updD (by assumption) hS1 (Dj.nlR _)) | exact Cells.upd (by assumption) hS1 (by simp)) (Ext.refl _) rfl | exact PV.load1 T.na4 rfl (by first | exact Cells.up (by assumption) (hBr.trans hS1) | exact Bx.cells (Bx.updD (by assumption) hS1 (Dj.nlR _)) | exact Cells.upd (by assumption) hS1 (by simp)) (Ext.refl _) rfl)) ?_
        refine HP.take rfl rfl rfl rfl hS (fun wS hS1 => PV.pickF rfl rfl) ?_
        refine HP.fork rfl rfl rfl rfl ?_ ?_
        · skip
          refine (OpK.buildS VB (os := [.tmp 59]) [_] rfl T.sl62 rfl rfl T.zv4 rfl (by intro z hz; first | rfl | (simp only [List.mem_cons, List.not_mem_nil, or_false] at hz; subst hz; exact (by first | exact Rd.cells1 (by assumption) | exact Osl.cells1 (by assumption) | exact Osn.cells1 (by assumption) | exact Rd.cells1 (NL.rd (by assumption)) | exact Inn.cell1 (by assumption) (by omega) | assumption | rfl))) rfl (fun v24 g24 w32 hXw32 ho24 hge24 => ?_))
          have hl24 := Lo.new hB hge24
          have hv24 := Lo.new hS hge24
          have hd1_24 := Dj.new hb1.ltO hge24
          have hd2_24 := Dj.new hb2.ltO hge24
          have hd3_24 := Dj.new hb3.ltO hge24
          have hd4_24 := Dj.new ho4.ltO hge24
          have hd5_24 := Dj.new ho5.ltO hge24
          have hd9_24 := Dj.new ho9.ltO hge24
          have hd10_24 := Dj.new ho10.ltO hge24
          refine ⟨Upd.trans hS hXw32, ?_⟩
          have hS := Upd.trans hS hXw32
          have hB := hB.trans hXw32
          have hBc := (by first | exact hBc.trans hXw32 | exact hB0.trans hXw32)
          have hb1 := hb1.up hXw32
          have hb2 := hb2.up hXw32
          have hb3 := hb3.up hXw32
          have ho4 := ho4.up hXw32
          have ho5 := ho5.up hXw32
          have ho9 := ho9.up hXw32
          have ho10 := ho10.up hXw32
          refine HP.fork rfl rfl rfl rfl ?_ ?_
          · skip
            refine (OpK.buildS VV (os := [.tmp 60, .tmp 62, .tmp 64]) [_, _, _] rfl T.sl234 rfl rfl T.zv62 rfl (by intro z hz; first | rfl | (simp only [List.mem_cons, List.not_mem_nil, or_false] at hz; rcases hz with hz | hz | hz <;> subst hz <;> exact (by first | exact Rd.cells1 (by assumption) | exact Osl.cells1 (by assumption) | exact Osn.cells1 (by assumption) | exact Rd.cells1 (NL.rd (by assumption)) | exact Inn.cell1 (by assumption) (by omega) | assumption | rfl))) rfl (fun v25 g25 w33 hXw33 ho25 hge25 => ?_))
            have hl25 := Lo.new hB hge25
            have hv25 := Lo.new hS hge25
            have hd1_25 := Dj.new hb1.ltO hge25
            have hd2_25 := Dj.new hb2.ltO hge25
            have hd3_25 := Dj.new hb3.ltO hge25
            have hd4_25 := Dj.new ho4.ltO hge25
            have hd5_25 := Dj.new ho5.ltO hge25
            have hd9_25 := Dj.new ho9.ltO hge25
            have hd10_25 := Dj.new ho10.ltO hge25
            have hd24_25 := Dj.new ho24.ltO hge25
            refine ⟨Upd.trans hS hXw33, ?_⟩
            have hS := Upd.trans hS hXw33
            have hB := hB.trans hXw33
            have hBc := (by first | exact hBc.trans hXw33 | exact hB0.trans hXw33)
            have hb1 := hb1.up hXw33
            have hb2 := hb2.up hXw33
            have hb3 := hb3.up hXw33
            have ho4 := ho4.up hXw33
            have ho5 := ho5.up hXw33
            have ho9 := ho9.up hXw33
            have ho10 := ho10.up hXw33
            have ho24 := ho24.up hXw33
            refine HP.fork rfl rfl rfl rfl ?_ ?_
            · skip
              refine (OpK.call rfl T.cf154 rfl (c_slices_Concat_bool_bool (rdSl3 (by assumption) (Osl.rd (by assumption)) (by first | assumption | exact Rd.up (by assumption) hB) (by first | assumption | exact Rd.up (by assumption) hB)) (by simp; omega)) (fun rv8 w34 hR => ?_))
              obtain ⟨hXw34, v26, og26, rfl, ho26, hq26⟩ := hR
              have hl26 := Lo.up hq26 hB
              have hv26 := Lo.up hq26 hS
              have hd1_26 := Dj.lo hb1.ltO hq26
              have hd2_26 := Dj.lo hb2.ltO hq26
              have hd3_26 := Dj.lo hb3.ltO hq26
              have hd4_26 := Dj.lo ho4.ltO hq26
              have hd5_26 := Dj.lo ho5.ltO hq26
              have hd9_26 := Dj.lo ho9.ltO hq26
              have hd10_26 := Dj.lo ho10.ltO hq26
              have hd24_26 := Dj.lo ho24.ltO hq26
              have hd25_26 := Dj.lo ho25.ltO hq26
              refine ⟨Upd.trans hS hXw34, ?_⟩
              have hS := Upd.trans hS hXw34
              have hB := hB.trans hXw34
              have hBc := (by first | exact hBc.trans hXw34 | exact hB0.trans hXw34)
              have hb1 := hb1.up hXw34
              have hb2 := hb2.up hXw34
              have hb3 := hb3.up hXw34
              have ho4 := ho4.up hXw34
              have ho5 := ho5.up hXw34
              have ho9 := ho9.up hXw34
              have ho10 := ho10.up hXw34
              have ho24 := ho24.up hXw34
              have ho25 := ho25.up hXw34
              refine HP.take rfl rfl rfl rfl hS (fun wS hS1 => PV.build (ks := [0, 1, 2, 3]) (os := [.tmp 43, .tmp 45, .tmp 49, .tmp 66]) (css := [[_], [_], [_], [_]]) (ds := [_, _, _, _]) T.bu88 rfl rfl ⟨rfl, rfl, (by first | exact Rd.cells1 (by assumption) | exact Osl.cells1 (by assumption) | exact Osn.cells1 (by assumption) | exact Rd.cells1 (NL.rd (by assumption)) | exact Inn.cell1 (by assumption) (by omega) | assumption | rfl), (by first | exact Rd.cells1 (by assumption) | exact Osl.cells1 (by assumption) | exact Osn.cells1 (by assumption) | exact Rd.cells1 (NL.rd (by assumption)) | exact Inn.cell1 (by assumption) (by omega) | assumption | rfl), trivial⟩ rfl) ?_
              refine HP.must rfl rfl (OpK.alloc rfl T.zv88 rfl (fun b27 w35 hXw35 hb27 hge27 => ?_))
              have hl27 := Lo.new hB hge27
              have hv27 := Lo.new hS hge27
              have hd1_27 := Dj.new hb1.ltO hge27
              have hd2_27 := Dj.new hb2.ltO hge27
              have hd3_27 := Dj.new hb3.ltO hge27
              have hd4_27 := Dj.new ho4.ltO hge27
              have hd5_27 := Dj.new ho5.ltO hge27
              have hd9_27 := Dj.new ho9.ltO hge27
              have hd10_27 := Dj.new ho10.ltO hge27
              have hd24_27 := Dj.new ho24.ltO hge27
              have hd25_27 := Dj.new ho25.ltO hge27
              have hd26_27 := Dj.new ho26.ltO hge27
              refine ⟨Upd.trans hS hXw35, ?_⟩
              have hS := Upd.trans hS hXw35
              have hB := hB.trans hXw35
              have hBc := (by first | exact hBc.trans hXw35 | exact hB0.trans hXw35)
              have hb1 := hb1.up hXw35
              have hb2 := hb2.up hXw35
              have hb3 := hb3.up hXw35
              have ho4 := ho4.up hXw35
              have ho5 := ho5.up hXw35
              have ho9 := ho9.up hXw35
              have ho10 := ho10.up hXw35
              have ho24 := ho24.up hXw35
              have ho25 := ho25.up hXw35
              have ho26 := ho26.up hXw35
              refine HP.must rfl rfl (OpK.storeA T.sz88 rfl rfl rfl rfl (by simp [Value.oneCell'] <;> first | done | (repeat' apply And.intro) <;> first | rfl | exact Inn.one1 (by assumption) (by omega) | exact Osl.oneCell (by assumption) | exact Osn.oneCell (by assumption) | exact Rd.oneCell (by assumption) | exact Rd.oneCell (NL.rd (by assumption)) | assumption) hb27 (fun w36 hXw36 hb27 => ?_))
              refine ⟨Ext.updL hS hXw36 hv27, ?_⟩
              have hS := Ext.updL hS hXw36 hv27
              have hB := hB.updL hXw36 hl27
              have hBc := hBc.updL hXw36 (Lo.up hv27 hXd)
              have hb1 := hb1.updD hXw36 hd1_27
              have hb2 := hb2.updD hXw36 hd2_27
              have hb3 := hb3.updD hXw36 hd3_27
              have ho4 := ho4.updD hXw36 hd4_27
              have ho5 := ho5.updD hXw36 hd5_27
              have ho9 := ho9.updD hXw36 hd9_27
              have ho10 := ho10.updD hXw36 hd10_27
              have ho24 := ho24.updD hXw36 hd24_27
              have ho25 := ho25.updD hXw36 hd25_27
              have ho26 := ho26.updD hXw36 hd26_27
              refine HP.done ?_
              exact NQ.cut (ρ := [(8, _)]) ⟨rfl, rfl, rfl, rfl, rfl, trivial⟩ ⟨b27, rv3, og10, rv8, og26, rfl, hBc, (bxE hb27 (by first | rfl | (simp_all; done))), hl27, (osnE ho10 (by first | rfl | (simp_all; done))), hl10, (osE ho26 (by first | rfl | (simp_all; done))), hl26, hd1_27, hd1_10, hd1_26, hd2_27, hd2_10, hd2_26, hd3_27, hd3_10, hd3_26, hd4_27, hd4_10, hd4_26, hd5_27, hd5_10, hd5_26, (Dj.symm hd10_27), (Dj.symm hd26_27), hd10_26⟩
            · skip
              refine (OpK.alloc rfl T.zv88 rfl (fun b28 w37 hXw37 hb28 hge28 => ?_))
              have hl28 := Lo.new hB hge28
              have hv28 := Lo.new hS hge28
              have hd1_28 := Dj.new hb1.ltO hge28
              have hd2_28 := Dj.new hb2.ltO hge28
              have hd3_28 := Dj.new hb3.ltO hge28
              have hd4_28 := Dj.new ho4.ltO hge28
              have hd5_28 := Dj.new ho5.ltO hge28
              have hd9_28 := Dj.new ho9.ltO hge28
              have hd10_28 := Dj.new ho10.ltO hge28
              have hd24_28 := Dj.new ho24.ltO hge28
              have hd25_28 := Dj.new ho25.ltO hge28
              refine ⟨Upd.trans hS hXw37, ?_⟩
              have hS := Upd.trans hS hXw37
              have hB := hB.trans hXw37
              have hBc := (by first | exact hBc.trans hXw37 | exact hB0.trans hXw37)
              have hb1 := hb1.up hXw37
              have hb2 := hb2.up hXw37
              have hb3 := hb3.up hXw37
              have ho4 := ho4.up hXw37
              have ho5 := ho5.up hXw37
              have ho9 := ho9.up hXw37
              have ho10 := ho10.up hXw37
              have ho24 := ho24.up hXw37
              have ho25 := ho25.up hXw37
              refine HP.must rfl rfl (OpK.call rfl T.cf154 rfl (c_slices_Concat_bool_bool (rdSl3 (by assumption) (Osl.rd (by assumption)) (by first | assumption | exact Rd.up (by assumption) hB) (by first | assumption | exact Rd.up (by assumption) hB)) (by simp; omega)) (fun rv9 w38 hR => ?_))
              obtain ⟨hXw38, v29, og29, rfl, ho29, hq29⟩ := hR
              have hl29 := Lo.up hq29 hB
              have hv29 := Lo.up hq29 hS
              have hd1_29 := Dj.lo hb1.ltO hq29
              have hd2_29 := Dj.lo hb2.ltO hq29
              have hd3_29 := Dj.lo hb3.ltO hq29
              have hd4_29 := Dj.lo ho4.ltO hq29
              have hd5_29 := Dj.lo ho5.ltO hq29
              have hd9_29 := Dj.lo ho9.ltO hq29
              have hd10_29 := Dj.lo ho10.ltO hq29
              have hd24_29 := Dj.lo ho24.ltO hq29
              have hd25_29 := Dj.lo ho25.ltO hq29
              have hd28_29 := Dj.lo hb28.ltO hq29
              refine ⟨Upd.trans hS hXw38, ?_⟩
              have hS := Upd.trans hS hXw38
              have hB := hB.trans hXw38
              have hBc := (by first | exact hBc.trans hXw38 | exact hB0.trans hXw38)
              have hb1 := hb1.up hXw38
              have hb2 := hb2.up hXw38
              have hb3 := hb3.up hXw38
              have ho4 := ho4.up hXw38
              have ho5 := ho5.up hXw38
              have ho9 := ho9.up hXw38
              have ho10 := ho10.up hXw38
              have ho24 := ho24.up hXw38
              have ho25 := ho25.up hXw38
              have hb28 := hb28.up hXw38
              refine HP.take rfl rfl rfl rfl hS (fun wS hS1 => PV.build (ks := [0, 1, 2, 3]) (os := [.tmp 43, .tmp 45, .tmp 49, .tmp 66]) (css := [[_], [_], [_], [_]]) (ds := [_, _, _, _]) T.bu88 rfl rfl ⟨rfl, rfl, (by first | exact Rd.cells1 (by assumption) | exact Osl.cells1 (by assumption) | exact Osn.cells1 (by assumption) | exact Rd.cells1 (NL.rd (by assumption)) | exact Inn.cell1 (by assumption) (by omega) | assumption | rfl), (by first | exact Rd.cells1 (by assumption) | exact Osl.cells1 (by assumption) | exact Osn.cells1 (by assumption) | exact Rd.cells1 (NL.rd (by assumption)) | exact Inn.cell1 (by assumption) (by omega) | assumption | rfl), trivial⟩ rfl) ?_
              refine HP.must rfl rfl (OpK.storeA T.sz88 rfl rfl rfl rfl (by simp [Value.oneCell'] <;> first | done | (repeat' apply And.intro) <;> first | rfl | exact Inn.one1 (by assumption) (by omega) | exact Osl.oneCell (by assumption) | exact Osn.oneCell (by assumption) | exact Rd.oneCell (by assumption) | exact Rd.oneCell (NL.rd (by assumption)) | assumption) hb28 (fun w39 hXw39 hb28 => ?_))
              refine ⟨Ext.updL hS hXw39 hv28, ?_⟩
              have hS := Ext.updL hS hXw39 hv28
              have hB := hB.updL hXw39 hl28
              have hBc := hBc.updL hXw39 (Lo.up hv28 hXd)
              have hb1 := hb1.updD hXw39 hd1_28
              have hb2 := hb2.updD hXw39 hd2_28
              have hb3 := hb3.updD hXw39 hd3_28
              have ho4 := ho4.updD hXw39 hd4_28
              have ho5 := ho5.updD hXw39 hd5_28
              have ho9 := ho9.updD hXw39 hd9_28
              have ho10 := ho10.updD hXw39 hd10_28
              have ho24 := ho24.updD hXw39 hd24_28
              have ho25 := ho25.updD hXw39 hd25_28
              have ho29 := ho29.updD hXw39 (Dj.symm hd28_29)
              refine HP.done ?_
              exact NQ.cut (ρ := [(8, _)]) ⟨rfl, rfl, rfl, rfl, rfl, trivial⟩ ⟨b28, rv3, og10, rv9, og29, rfl, hBc, (bxE hb28 (by first | rfl | (simp_all; done))), hl28, (osnE ho10 (by first | rfl | (simp_all; done))), hl10, (osE ho29 (by first | rfl | (simp_all; done))), hl29, hd1_28, hd1_10, hd1_29, hd2_28, hd2_10, hd2_29, hd3_28, hd3_10, hd3_29, hd4_28, hd4_10, hd4_29, hd5_28, hd5_10, hd5_29, (Dj.symm hd10_28), hd28_29, hd10_29⟩
          · skip
            refine (OpK.alloc rfl T.zv88 rfl (fun b30 w40 hXw40 hb30 hge30 => ?_))
            have hl30 := Lo.new hB hge30
            have hv30 := Lo.new hS hge30
            have hd1_30 := Dj.new hb1.ltO hge30
            have hd2_30 := Dj.new hb2.ltO hge30
            have hd3_30 := Dj.new hb3.ltO hge30
            have hd4_30 := Dj.new ho4.ltO hge30
            have hd5_30 := Dj.new ho5.ltO hge30
            have hd9_30 := Dj.new ho9.ltO hge30
            have hd10_30 := Dj.new ho10.ltO hge30
            have hd24_30 := Dj.new ho24.ltO hge30
            refine ⟨Upd.trans hS hXw40, ?_⟩
            have hS := Upd.trans hS hXw40
            have hB := hB.trans hXw40
            have hBc := (by first | exact hBc.trans hXw40 | exact hB0.trans hXw40)
            have hb1 := hb1.up hXw40
            have hb2 := hb2.up hXw40
            have hb3 := hb3.up hXw40
            have ho4 := ho4.up hXw40
            have ho5 := ho5.up hXw40
            have ho9 := ho9.up hXw40
            have ho10 := ho10.up hXw40
            have ho24 := ho24.up hXw40
            refine HP.must rfl rfl (OpK.buildS VV (os := [.tmp 60, .tmp 62, .tmp 64]) [_, _, _] rfl T.sl234 rfl rfl T.zv62 rfl (by intro z hz; first | rfl | (simp only [List.mem_cons, List.not_mem_nil, or_false] at hz; rcases hz with hz | hz | hz <;> subst hz <;> exact (by first | exact Rd.cells1 (by assumption) | exact Osl.cells1 (by assumption) | exact Osn.cells1 (by assumption) | exact Rd.cells1 (NL.rd (by assumption)) | exact Inn.cell1 (by assumption) (by omega) | assumption | rfl))) rfl (fun v31 g31 w41 hXw41 ho31 hge31 => ?_))
            have hl31 := Lo.new hB hge31
            have hv31 := Lo.new hS hge31
            have hd1_31 := Dj.new hb1.ltO hge31
            have hd2_31 := Dj.new hb2.ltO hge31
            have hd3_31 := Dj.new hb3.ltO hge31
            have hd4_31 := Dj.new ho4.ltO hge31
            have hd5_31 := Dj.new ho5.ltO hge31
            have hd9_31 := Dj.new ho9.ltO hge31
            have hd10_31 := Dj.new ho10.ltO hge31
            have hd24_31 := Dj.new ho24.ltO hge31
            have hd30_31 := Dj.new hb30.ltO hge31
            refine ⟨Upd.trans hS hXw41, ?_⟩
            have hS := Upd.trans hS hXw41
            have hB := hB.trans hXw41
            have hBc := (by first | exact hBc.trans hXw41 | exact hB0.trans hXw41)
            have hb1 := hb1.up hXw41
            have hb2 := hb2.up hXw41
            have hb3 := hb3.up hXw41
            have ho4 := ho4.up hXw41
            have ho5 := ho5.up hXw41
            have ho9 := ho9.up hXw41
            have ho10 := ho10.up hXw41
            have ho24 := ho24.up hXw41
            have hb30 := hb30.up hXw41
            refine HP.must rfl rfl (OpK.call rfl T.cf154 rfl (c_slices_Concat_bool_bool (rdSl3 (by assumption) (Osl.rd (by assumption)) (by first | assumption | exact Rd.up (by assumption) hB) (by first | assumption | exact Rd.up (by assumption) hB)) (by simp; omega)) (fun rv10 w42 hR => ?_))
            obtain ⟨hXw42, v32, og32, rfl, ho32, hq32⟩ := hR
            have hl32 := Lo.up hq32 hB
            have hv32 := Lo.up hq32 hS
            have hd1_32 := Dj.lo hb1.ltO hq32
            have hd2_32 := Dj.lo hb2.ltO hq32
            have hd3_32 := Dj.lo hb3.ltO hq32
            have hd4_32 := Dj.lo ho4.ltO hq32
            have hd5_32 := Dj.lo ho5.ltO hq32
            have hd9_32 := Dj.lo ho9.ltO hq32
            have hd10_32 := Dj.lo ho10.ltO hq32
            have hd24_32 := Dj.lo ho24.ltO hq32
            have hd30_32 := Dj.lo hb30.ltO hq32
            have hd31_32 := Dj.lo ho31.ltO hq32
            refine ⟨Upd.trans hS hXw42, ?_⟩
            have hS := Upd.trans hS hXw42
            have hB := hB.trans hXw42
            have hBc := (by first | exact hBc.trans hXw42 | exact hB0.trans hXw42)
            have hb1 := hb1.up hXw42
            have hb2 := hb2.up hXw42
            have hb3 := hb3.up hXw42
            have ho4 := ho4.up hXw42
            have ho5 := ho5.up hXw42
            have ho9 := ho9.up hXw42
            have ho10 := ho10.up hXw42
            have ho24 := ho24.up hXw42
            have hb30 := hb30.up hXw42
            have ho31 := ho31.up hXw42
            refine HP.take rfl rfl rfl rfl hS (fun wS hS1 => PV.build (ks := [0, 1, 2, 3]) (os := [.tmp 43, .tmp 45, .tmp 49, .tmp 66]) (css := [[_], [_], [_], [_]]) (ds := [_, _, _, _]) T.bu88 rfl rfl ⟨rfl, rfl, (by first | exact Rd.cells1 (by assumption) | exact Osl.cells1 (by assumption) | exact Osn.cells1 (by assumption) | exact Rd.cells1 (NL.rd (by assumption)) | exact Inn.cell1 (by assumption) (by omega) | assumption | rfl), (by first | exact Rd.cells1 (by assumption) | exact Osl.cells1 (by assumption) | exact Osn.cells1 (by assumption) | exact Rd.cells1 (NL.rd (by assumption)) | exact Inn.cell1 (by assumption) (by omega) | assumption | rfl), trivial⟩ rfl) ?_
            refine HP.must rfl rfl (OpK.storeA T.sz88 rfl rfl rfl rfl (by simp [Value.oneCell'] <;> first | done | (repeat' apply And.intro) <;> first | rfl | exact Inn.one1 (by assumption) (by omega) | exact Osl.oneCell (by assumption) | exact Osn.oneCell (by assumption) | exact Rd.oneCell (by assumption) | exact Rd.oneCell (NL.rd (by assumption)) | assumption) hb30 (fun w43 hXw43 hb30 => ?_))
            refine ⟨Ext.updL hS hXw43 hv30, ?_⟩
            have hS := Ext.updL hS hXw43 hv30
            have hB := hB.updL hXw43 hl30
            have hBc := hBc.updL hXw43 (Lo.up hv30 hXd)
            have hb1 := hb1.updD hXw43 hd1_30
            have hb2 := hb2.updD hXw43 hd2_30
            have hb3 := hb3.updD hXw43 hd3_30
            have ho4 := ho4.updD hXw43 hd4_30
            have ho5 := ho5.updD hXw43 hd5_30
            have ho9 := ho9.updD hXw43 hd9_30
            have ho10 := ho10.updD hXw43 hd10_30
            have ho24 := ho24.updD hXw43 hd24_30
            have ho31 := ho31.updD hXw43 (Dj.symm hd30_31)
            have ho32 := ho32.updD hXw43 (Dj.symm hd30_32)
            refine HP.done ?_
            exact NQ.cut (ρ := [(8, _)]) ⟨rfl, rfl, rfl, rfl, rfl, trivial⟩ ⟨b30, rv3, og10, rv10, og32, rfl, hBc, (bxE hb30 (by first | rfl | (simp_all; done))), hl30, (osnE ho10 (by first | rfl | (simp_all; done))), hl10, (osE ho32 (by first | rfl | (simp_all; done))), hl32, hd1_30, hd1_10, hd1_32, hd2_30, hd2_10, hd2_32, hd3_30, hd3_10, hd3_32, hd4_30, hd4_10, hd4_32, hd5_30, hd5_10, hd5_32, (Dj.symm hd10_30), hd30_32, hd10_32⟩
        · skip
          refine (OpK.alloc rfl T.zv88 rfl (fun b33 w44 hXw44 hb33 hge33 => ?_))
          have hl33 := Lo.new hB hge33
          have hv33 := Lo.new hS hge33
          have hd1_33 := Dj.new hb1.ltO hge33
          have hd2_33 := Dj.new hb2.ltO hge33
          have hd3_33 := Dj.new hb3.ltO hge33
          have hd4_33 := Dj.new ho4.ltO hge33
          have hd5_33 := Dj.new ho5.ltO hge33
          have hd9_33 := Dj.new ho9.ltO hge33
          have hd10_33 := Dj.new ho10.ltO hge33
          refine ⟨Upd.trans hS hXw44, ?_⟩
          have hS := Upd.trans hS hXw44
          have hB := hB.trans hXw44
          have hBc := (by first | exact hBc.trans hXw44 | exact hB0.trans hXw44)
          have hb1 := hb1.up hXw44
          have hb2 := hb2.up hXw44
          have hb3 := hb3.up hXw44
          have ho4 := ho4.up hXw44
          have ho5 := ho5.up hXw44
          have ho9 := ho9.up hXw44
          have ho10 := ho10.up hXw44
          refine HP.must rfl rfl (OpK.buildS VB (os := [.tmp 59]) [_] rfl T.sl62 rfl rfl T.zv4 rfl (by intro z hz; first | rfl | (simp only [List.mem_cons, List.not_mem_nil, or_false] at hz; subst hz; exact (by first | exact Rd.cells1 (by assumption) | exact Osl.cells1 (by assumption) | exact Osn.cells1 (by assumption) | exact Rd.cells1 (NL.rd (by assumption)) | exact Inn.cell1 (by assumption) (by omega) | assumption | rfl))) rfl (fun v34 g34 w45 hXw45 ho34 hge34 => ?_))
          have hl34 := Lo.new hB hge34
          have hv34 := Lo.new hS hge34
          have hd1_34 := Dj.new hb1.ltO hge34
          have hd2_34 := Dj.new hb2.ltO hge34
          have hd3_34 := Dj.new hb3.ltO hge34
          have hd4_34 := Dj.new ho4.ltO hge34
          have hd5_34 := Dj.new ho5.ltO hge34
          have hd9_34 := Dj.new ho9.ltO hge34
          have hd10_34 := Dj.new ho10.ltO hge34
          have hd33_34 := Dj.new hb33.ltO hge34
          refine ⟨Upd.trans hS hXw45, ?_⟩
          have hS := Upd.trans hS hXw45
          have hB := hB.trans hXw45
          have hBc := (by first | exact hBc.trans hXw45 | exact hB0.trans hXw45)
          have hb1 := hb1.up hXw45
          have hb2 := hb2.up hXw45
          have hb3 := hb3.up hXw45
          have ho4 := ho4.up hXw45
          have ho5 := ho5.up hXw45
          have ho9 := ho9.up hXw45
          have ho10 := ho10.up hXw45
          have hb33 := hb33.up hXw45
          refine HP.must rfl rfl (OpK.buildS VV (os := [.tmp 60, .tmp 62, .tmp 64]) [_, _, _] rfl T.sl234 rfl rfl T.zv62 rfl (by intro z hz; first | rfl | (simp only [List.mem_cons, List.not_mem_nil, or_false] at hz; rcases hz with hz | hz | hz <;> subst hz <;> exact (by first | exact Rd.cells1 (by assumption) | exact Osl.cells1 (by assumption) | exact Osn.cells1 (by assumption) | exact Rd.cells1 (NL.rd (by assumption)) | exact Inn.cell1 (by assumption) (by omega) | assumption | rfl))) rfl (fun v35 g35 w46 hXw46 ho35 hge35 => ?_))
          have hl35 := Lo.new hB hge35
          have hv35 := Lo.new hS hge35
          have hd1_35 := Dj.new hb1.ltO hge35
          have hd2_35 := Dj.new hb2.ltO hge35
          have hd3_35 := Dj.new hb3.ltO hge35
          have hd4_35 := Dj.new ho4.ltO hge35
          have hd5_35 := Dj.new ho5.ltO hge35
          have hd9_35 := Dj.new ho9.ltO hge35
          have hd10_35 := Dj.new ho10.ltO hge35
          have hd33_35 := Dj.new hb33.ltO hge35
          have hd34_35 := Dj.new ho34.ltO hge35
          refine ⟨Upd.trans hS hXw46, ?_⟩
          have hS := Upd.trans hS hXw46
          have hB := hB.trans hXw46
          have hBc := (by first | exact hBc.trans hXw46 | exact hB0.trans hXw46)
          have hb1 := hb1.up hXw46
          have hb2 := hb2.up hXw46
          have hb3 := hb3.up hXw46
          have ho4 := ho4.up hXw46
          have ho5 := ho5.up hXw46
          have ho9 := ho9.up hXw46
          have ho10 := ho10.up hXw46
          have hb33 := hb33.up hXw46
          have ho34 := ho34.up hXw46
          refine HP.must rfl rfl (OpK.call rfl T.cf154 rfl (c_slices_Concat_bool_bool (rdSl3 (by assumption) (Osl.rd (by assumption)) (by first | assumption | exact Rd.up (by assumption) hB) (by first | assumption | exact Rd.up (by assumption) hB)) (by simp; omega)) (fun rv11 w47 hR => ?_))
          obtain ⟨hXw47, v36, og36, rfl, ho36, hq36⟩ := hR
          have hl36 := Lo.up hq36 hB
          have hv36 := Lo.up hq36 hS
          have hd1_36 := Dj.lo hb1.ltO hq36
          have hd2_36 := Dj.lo hb2.ltO hq36
          have hd3_36 := Dj.lo hb3.ltO hq36
          have hd4_36 := Dj.lo ho4.ltO hq36
          have hd5_36 := Dj.lo ho5.ltO hq36
          have hd9_36 := Dj.lo ho9.ltO hq36
          have hd10_36 := Dj.lo ho10.ltO hq36
          have hd33_36 := Dj.lo hb33.ltO hq36
          have hd34_36 := Dj.lo ho34.ltO hq36
          have hd35_36 := Dj.lo ho35.ltO hq36
          refine ⟨Upd.trans hS hXw47, ?_⟩
          have hS := Upd.trans hS hXw47
          have hB := hB.trans hXw47
          have hBc := (by first | exact hBc.trans hXw47 | exact hB0.trans hXw47)
          have hb1 := hb1.up hXw47
          have hb2 := hb2.up hXw47
          have hb3 := hb3.up hXw47
          have ho4 := ho4.up hXw47
          have ho5 := ho5.up hXw47
          have ho9 := ho9.up hXw47
          have ho10 := ho10.up hXw47
          have hb33 := hb33.up hXw47
          have ho34 := ho34.up hXw47
          have ho35 := ho35.up hXw47
          refine HP.take rfl rfl rfl rfl hS (fun wS hS1 => PV.build (ks := [0, 1, 2, 3]) (os := [.tmp 43, .tmp 45, .tmp 49, .tmp 66]) (css := [[_], [_], [_], [_]]) (ds := [_, _, _, _]) T.bu88 rfl rfl ⟨rfl, rfl, (by first | exact Rd.cells1 (by assumption) | exact Osl.cells1 (by assumption) | exact Osn.cells1 (by assumption) | exact Rd.cells1 (NL.rd (by assumption)) | exact Inn.cell1 (by assumption) (by omega) | assumption | rfl), (by first | exact Rd.cells1 (by assumption) | exact Osl.cells1 (by assumption) | exact Osn.cells1 (by assumption) | exact Rd.cells1 (NL.rd (by assumption)) | exact Inn.cell1 (by assumption) (by omega) | assumption | rfl), trivial⟩ rfl) ?_
          refine HP.must rfl rfl (OpK.storeA T.sz88 rfl rfl rfl rfl (by simp [Value.oneCell'] <;> first | done | (repeat' apply And.intro) <;> first | rfl | exact Inn.one1 (by assumption) (by omega) | exact Osl.oneCell (by assumption) | exact Osn.oneCell (by assumption) | exact Rd.oneCell (by assumption) | exact Rd.oneCell (NL.rd (by assumption)) | assumption) hb33 (fun w48 hXw48 hb33 => ?_))
          refine ⟨Ext.updL hS hXw48 hv33, ?_⟩
          have hS := Ext.updL hS hXw48 hv33
          have hB := hB.updL hXw48 hl33
          have hBc := hBc.updL hXw48 (Lo.up hv33 hXd)
          have hb1 := hb1.updD hXw48 hd1_33
          have hb2 := hb2.updD hXw48 hd2_33
          have hb3 := hb3.updD hXw48 hd3_33
          have ho4 := ho4.updD hXw48 hd4_33
          have ho5 := ho5.updD hXw48 hd5_33
          have ho9 := ho9.updD hXw48 hd9_33
          have ho10 := ho10.updD hXw48 hd10_33
          have ho34 := ho34.updD hXw48 (Dj.symm hd33_34)
          have ho35 := ho35.updD hXw48 (Dj.symm hd33_35)
          have ho36 := ho36.updD hXw48 (Dj.symm hd33_36)
          refine HP.done ?_
          exact NQ.cut (ρ := [(8, _)]) ⟨rfl, rfl, rfl, rfl, rfl, trivial⟩ ⟨b33, rv3, og10, rv11, og36, rfl, hBc, (bxE hb33 (by first | rfl | (simp_all; done))), hl33, (osnE ho10 (by first | rfl | (simp_all; done))), hl10, (osE ho36 (by first | rfl | (simp_all; done))), hl36, hd1_33, hd1_10, hd1_36, hd2_33, hd2_10, hd2_36, hd3_33, hd3_10, hd3_36, hd4_33, hd4_10, hd4_36, hd5_33, hd5_10, hd5_36, (Dj.symm hd10_33), hd33_36, hd10_36⟩
      · skip
        refine (OpK.alloc rfl T.zv88 rfl (fun b37 w49 hXw49 hb37 hge37 => ?_))
        have hl37 := Lo.new hB hge37
        have hv37 := Lo.new hS hge37
        have hd1_37 := Dj.new hb1.ltO hge37
        have hd2_37 := Dj.new hb2.ltO hge37
        have hd3_37 := Dj.new hb3.ltO hge37
        have hd4_37 := Dj.new ho4.ltO hge37
        have hd5_37 := Dj.new ho5.ltO hge37
        have hd9_37 := Dj.new ho9.ltO hge37
        refine ⟨Upd.trans hS hXw49, ?_⟩
        have hS := Upd.trans hS hXw49
        have hB := hB.trans hXw49
        have hBc := (by first | exact hBc.trans hXw49 | exact hB0.trans hXw49)
        have hb1 := hb1.up hXw49
        have hb2 := hb2.up hXw49
        have hb3 := hb3.up hXw49
        have ho4 := ho4.up hXw49
        have ho5 := ho5.up hXw49
        have ho9 := ho9.up hXw49
        refine HP.must rfl rfl (OpK.call rfl T.cf153 rfl (c_slices_Concat_impl_PairArc_impl_PairArc (rdSl2 (by assumption) (Osn.rdR (by assumption)) (Osn.rdR (by assumption))) (by simp [movL]; omega)) (fun rv12 w50 hR => ?_))
        obtain ⟨hXw50, v38, og38, rfl, ho38, hq38⟩ := hR
        have hl38 := Lo.up hq38 hB
        have hv38 := Lo.up hq38 hS
        have hd1_38 := Dj.lo hb1.ltO hq38
        have hd2_38 := Dj.lo hb2.ltO hq38
        have hd3_38 := Dj.lo hb3.ltO hq38
        have hd4_38 := Dj.lo ho4.ltO hq38
        have hd5_38 := Dj.lo ho5.ltO hq38
        have hd9_38 := Dj.lo ho9.ltO hq38
        have hd37_38 := Dj.lo hb37.ltO hq38
        refine ⟨Upd.trans hS hXw50, ?_⟩
        have hS := Upd.trans hS hXw50
        have hB := hB.trans hXw50
        have hBc := (by first | exact hBc.trans hXw50 | exact hB0.trans hXw50)
        have hb1 := hb1.up hXw50
        have hb2 := hb2.up hXw50
        have hb3 := hb3.up hXw50
        have ho4 := ho4.up hXw50
        have ho5 := ho5.up hXw50
        have ho9 := ho9.up hXw50
        have hb37 := hb37.up hXw50
        refine HP.take rfl rfl rfl rfl hS (fun wS hS1 => PV.move rfl) ?_
        refine HP.split (t := 54) rfl (fun hc5 => ?_) (fun hc5 => ?_)
        · skip
          try simp only [nq] at hc5
          refine HP.skip rfl rfl rfl rfl rfl rfl hS ?_
          refine HP.skip rfl rfl rfl rfl rfl rfl hS ?_
          refine HP.skip rfl rfl rfl rfl rfl rfl hS ?_
          refine HP.skip rfl rfl rfl rfl rfl rfl hS ?_
          refine HP.take rfl rfl rfl rfl hS (fun wS hS1 => PV.pickT rfl rfl) ?_
          refine HP.must rfl rfl (OpK.buildS VB (os := [.tmp 59]) [_] rfl T.sl62 rfl rfl T.zv4 rfl (by intro z hz; first | rfl | (simp only [List.mem_cons, List.not_mem_nil, or_false] at hz; subst hz; exact (by first | exact Rd.cells1 (by assumption) | exact Osl.cells1 (by assumption) | exact Osn.cells1 (by assumption) | exact Rd.cells1 (NL.rd (by assumption)) | exact Inn.cell1 (by assumption) (by omega) | assumption | rfl))) rfl (fun v39 g39 w51 hXw51 ho39 hge39 => ?_))
          have hl39 := Lo.new hB hge39
          have hv39 := Lo.new hS hge39
          have hd1_39 := Dj.new hb1.ltO hge39
          have hd2_39 := Dj.new hb2.ltO hge39
          have hd3_39 := Dj.new hb3.ltO hge39
          have hd4_39 := Dj.new ho4.ltO hge39
          have hd5_39 := Dj.new ho5.ltO hge39
          have hd9_39 := Dj.new ho9.ltO hge39
          have hd37_39 := Dj.new hb37.ltO hge39
          have hd38_39 := Dj.new ho38.ltO hge39
          refine ⟨Upd.trans hS hXw51, ?_⟩
          have hS := Upd.trans hS hXw51
          have hB := hB.trans hXw51
          have hBc := (by first | exact hBc.trans hXw51 | exact hB0.trans hXw51)
          have hb1 := hb1.up hXw51
          have hb2 := hb2.up hXw51
          have hb3 := hb3.up hXw51
          have ho4 := ho4.up hXw51
          have ho5 := ho5.up hXw51
          have ho9 := ho9.up hXw51
          have hb37 := hb37.up hXw51
          have ho38 := ho38.up hXw51
          refine HP.must rfl rfl (OpK.buildS VV (os := [.tmp 60, .tmp 62, .tmp 64]) [_, _, _] rfl T.sl234 rfl rfl T.zv62 rfl (by intro z hz; first | rfl | (simp only [List.mem_cons, List.not_mem_nil, or_false] at hz; rcases hz with hz | hz | hz <;> subst hz <;> exact (by first | exact Rd.cells1 (by assumption) | exact Osl.cells1 (by assumption) | exact Osn.cells1 (by assumption) | exact Rd.cells1 (NL.rd (by assumption)) | exact Inn.cell1 (by assumption) (by omega) | assumption | rfl))) rfl (fun v40 g40 w52 hXw52 ho40 hge40 => ?_))
          have hl40 := Lo.new hB hge40
          have hv40 := Lo.new hS hge40
          have hd1_40 := Dj.new hb1.ltO hge40
          have hd2_40 := Dj.new hb2.ltO hge40
          have hd3_40 := Dj.new hb3.ltO hge40
          have hd4_40 := Dj.new ho4.ltO hge40
          have hd5_40 := Dj.new ho5.ltO hge40
          have hd9_40 := Dj.new ho9.ltO hge40
          have hd37_40 := Dj.new hb37.ltO hge40
          have hd38_40 := Dj.new ho38.ltO hge40
          have hd39_40 := Dj.new ho39.ltO hge40
          refine ⟨Upd.trans hS hXw52, ?_⟩
          have hS := Upd.trans hS hXw52
          have hB := hB.trans hXw52
          have hBc := (by first | exact hBc.trans hXw52 | exact hB0.trans hXw52)
          have hb1 := hb1.up hXw52
          have hb2 := hb2.up hXw52
          have hb3 := hb3.up hXw52
          have ho4 := ho4.up hXw52
          have ho5 := ho5.up hXw52
          have ho9 := ho9.up hXw52
          have hb37 := hb37.up hXw52
          have ho38 := ho38.up hXw52
          have ho39 := ho39.up hXw52
          refine HP.must rfl rfl (OpK.call rfl T.cf154 rfl (c_slices_Concat_bool_bool (rdSl3 (by assumption) (Osl.rd (by assumption)) (by first | assumption | exact Rd.up (by assumption) hB) (by first | assumption | exact Rd.up (by assumption) hB)) (by simp; omega)) (fun rv13 w53 hR => ?_))
          obtain ⟨hXw53, v41, og41, rfl, ho41, hq41⟩ := hR
          have hl41 := Lo.up hq41 hB
          have hv41 := Lo.up hq41 hS
          have hd1_41 := Dj.lo hb1.ltO hq41
          have hd2_41 := Dj.lo hb2.ltO hq41
          have hd3_41 := Dj.lo hb3.ltO hq41
          have hd4_41 := Dj.lo ho4.ltO hq41
          have hd5_41 := Dj.lo ho5.ltO hq41
          have hd9_41 := Dj.lo ho9.ltO hq41
          have hd37_41 := Dj.lo hb37.ltO hq41
          have hd38_41 := Dj.lo ho38.ltO hq41
          have hd39_41 := Dj.lo ho39.ltO hq41
          have hd40_41 := Dj.lo ho40.ltO hq41
          refine ⟨Upd.trans hS hXw53, ?_⟩
          have hS := Upd.trans hS hXw53
          have hB := hB.trans hXw53
          have hBc := (by first | exact hBc.trans hXw53 | exact hB0.trans hXw53)
          have hb1 := hb1.up hXw53
          have hb2 := hb2.up hXw53
          have hb3 := hb3.up hXw53
          have ho4 := ho4.up hXw53
          have ho5 := ho5.up hXw53
          have ho9 := ho9.up hXw53
          have hb37 := hb37.up hXw53
          have ho38 := ho38.up hXw53
          have ho39 := ho39.up hXw53
          have ho40 := ho40.up hXw53
          refine HP.take rfl rfl rfl rfl hS (fun wS hS1 => PV.build (ks := [0, 1, 2, 3]) (os := [.tmp 43, .tmp 45, .tmp 49, .tmp 66]) (css := [[_], [_], [_], [_]]) (ds := [_, _, _, _]) T.bu88 rfl rfl ⟨rfl, rfl, (by first | exact Rd.cells1 (by assumption) | exact Osl.cells1 (by assumption) | exact Osn.cells1 (by assumption) | exact Rd.cells1 (NL.rd (by assumption)) | exact Inn.cell1 (by assumption) (by omega) | assumption | rfl), (by first | exact Rd.cells1 (by assumption) | exact Osl.cells1 (by assumption) | exact Osn.cells1 (by assumption) | exact Rd.cells1 (NL.rd (by assumption)) | exact Inn.cell1 (by assumption) (by omega) | assumption | rfl), trivial⟩ rfl) ?_
          refine HP.must rfl rfl (OpK.storeA T.sz88 rfl rfl rfl rfl (by simp [Value.oneCell'] <;> first | done | (repeat' apply And.intro) <;> first | rfl | exact Inn.one1 (by assumption) (by omega) | exact Osl.oneCell (by assumption) | exact Osn.oneCell (by assumption) | exact Rd.oneCell (by assumption) | exact Rd.oneCell (NL.rd (by assumption)) | assumption) hb37 (fun w54 hXw54 hb37 => ?_))
          refine ⟨Ext.updL hS hXw54 hv37, ?_⟩
          have hS := Ext.updL hS hXw54 hv37
          have hB := hB.updL hXw54 hl37
          have hBc := hBc.updL hXw54 (Lo.up hv37 hXd)
          have hb1 := hb1.updD hXw54 hd1_37
          have hb2 := hb2.updD hXw54 hd2_37
          have hb3 := hb3.updD hXw54 hd3_37
          have ho4 := ho4.updD hXw54 hd4_37
          have ho5 := ho5.updD hXw54 hd5_37
          have ho9 := ho9.updD hXw54 hd9_37
          have ho38 := ho38.updD hXw54 (Dj.symm hd37_38)
          have ho39 := ho39.updD hXw54 (Dj.symm hd37_39)
          have ho40 := ho40.updD hXw54 (Dj.symm hd37_40)
          have ho41 := ho41.updD hXw54 (Dj.symm hd37_41)
          refine HP.done ?_
          exact NQ.cut (ρ := [(8, _)]) ⟨rfl, rfl, rfl, rfl, rfl, trivial⟩ ⟨b37, rv12, og38, rv13, og41, rfl, hBc, (bxE hb37 (by first | rfl | (simp_all; done))), hl37, (osnE ho38 (by first | rfl | (simp_all; done))), hl38, (osE ho41 (by first | rfl | (simp_all; done))), hl41, hd1_37, hd1_38, hd1_41, hd2_37, hd2_38, hd2_41, hd3_37, hd3_38, hd3_41, hd4_37, hd4_38, hd4_41, hd5_37, hd5_38, hd5_41, hd37_38, hd37_41, hd38_41⟩
        try simp only [nq] at hc5
        refine HP.takeG rfl rfl rfl rfl rfl rfl hS (fun wS hS1 => PV.fieldAddr T.fl88_3 rfl hb2.cells) ?_
        refine HP.takeG rfl rfl rfl rfl rfl rfl hS (fun wS hS1 => PV.load1 T.na62 rfl (Bx.cells (Bx.updD (by assumption) hS1 (Dj.nlR _))) (Ext.refl _) rfl) ?_
        first
          | refine HP.at (x := .tmp 56) (y := .const (.int .i64 0)) (E := EB) (false) rfl rfl (by first | assumption | exact Inn.rd (by assumption) (by omega)) (by first | omega | (simp only [List.length_set]; omega) | (simp only [List.length_append, List.length_take, List.length_replicate, List.length_drop]; omega)) (fun p3 csp3 hpp3 hcp3 hq => ?_)
          | refine HP.atZ (x := .tmp 56) (y := .const (.int .i64 0)) (E := EB) (false) rfl rfl (by first | assumption | exact Inn.rd (by assumption) (by omega)) (by first | omega | (simp only [List.length_set]; omega) | (simp only [List.length_append, List.length_take, List.length_replicate, List.length_drop]; omega)) (fun p3 csp3 hpp3 hzp3 hcp3 hq => ?_)
        cases hq
        refine HP.takeG rfl rfl rfl rfl rfl rfl hS (fun wS hS1 => (by first | exact PV.indexAddr hpp3 rfl rfl T.sl62 | exact PV.indexAddr hpp3 rfl (by rw [← hzp3]; rfl) T.sl62)) ?_
        refine HP.takeG rfl rfl rfl rfl rfl rfl hS (fun wS hS1 => (by first | exact PV.load0 T.na4 rfl (by first | exact Cells.up (by assumption) (hBr.trans hS1) | exact Bx.cells (Bx.updD (by assumption) hS1 (Dj.nlR _)) | exact Cells.upd (by assumption) hS1 (by simp)) (Ext.refl _) rfl | exact PV.load1 T.na4 rfl (by first | exact Cells.up (by assumption) (hBr.trans hS1) | exact Bx.cells (Bx.updD (by assumption) hS1 (Dj.nlR _)) | exact Cells.upd (by assumption) hS1 (by simp)) (Ext.refl _) rfl)) ?_
        refine HP.take rfl rfl rfl rfl hS (fun wS hS1 => PV.pickF rfl rfl) ?_
        refine HP.must rfl rfl (OpK.buildS VB (os := [.tmp 59]) [_] rfl T.sl62 rfl rfl T.zv4 rfl (by intro z hz; first | rfl | (simp only [List.mem_cons, List.not_mem_nil, or_false] at hz; subst hz; exact (by first | exact Rd.cells1 (by assumption) | exact Osl.cells1 (by assumption) | exact Osn.cells1 (by assumption) | exact Rd.cells1 (NL.rd (by assumption)) | exact Inn.cell1 (by assumption) (by omega) | assumption | rfl))) rfl (fun v42 g42 w55 hXw55 ho42 hge42 => ?_))
        have hl42 := Lo.new hB hge42
        have hv42 := Lo.new hS hge42
        have hd1_42 := Dj.new hb1.ltO hge42
        have hd2_42 := Dj.new hb2.ltO hge42
        have hd3_42 := Dj.new hb3.ltO hge42
        have hd4_42 := Dj.new ho4.ltO hge42
        have hd5_42 := Dj.new ho5.ltO hge42
        have hd9_42 := Dj.new ho9.ltO hge42
        have hd37_42 := Dj.new hb37.ltO hge42
        have hd38_42 := Dj.new ho38.ltO hge42
        refine ⟨Upd.trans hS hXw55, ?_⟩
        have hS := Upd.trans hS hXw55
        have hB := hB.trans hXw55
        have hBc := (by first | exact hBc.trans hXw55 | exact hB0.trans hXw55)
        have hb1 := hb1.up hXw55
        have hb2 := hb2.up hXw55
        have hb3 := hb3.up hXw55
        have ho4 := ho4.up hXw55
        have ho5 := ho5.up hXw55
        have ho9 := ho9.up hXw55
        have hb37 := hb37.up hXw55
        have ho38 := ho38.up hXw55
        refine HP.must rfl rfl (OpK.buildS VV (os := [.tmp 60, .tmp 62, .tmp 64]) [_, _, _] rfl T.sl234 rfl rfl T.zv62 rfl (by intro z hz; first | rfl | (simp only [List.mem_cons, List.not_mem_nil, or_false] at hz; rcases hz with hz | hz | hz <;> subst hz <;> exact (by first | exact Rd.cells1 (by assumption) | exact Osl.cells1 (by assumption) | exact Osn.cells1 (by assumption) | exact Rd.cells1 (NL.rd (by assumption)) | exact Inn.cell1 (by assumption) (by omega) | assumption | rfl))) rfl (fun v43 g43 w56 hXw56 ho43 hge43 => ?_))
        have hl43 := Lo.new hB hge43
        have hv43 := Lo.new hS hge43
        have hd1_43 := Dj.new hb1.ltO hge43
        have hd2_43 := Dj.new hb2.ltO hge43
        have hd3_43 := Dj.new hb3.ltO hge43
        have hd4_43 := Dj.new ho4.ltO hge43
        have hd5_43 := Dj.new ho5.ltO hge43
        have hd9_43 := Dj.new ho9.ltO hge43
        have hd37_43 := Dj.new hb37.ltO hge43
        have hd38_43 := Dj.new ho38.ltO hge43
        have hd42_43 := Dj.new ho42.ltO hge43
        refine ⟨Upd.trans hS hXw56, ?_⟩
        have hS := Upd.trans hS hXw56
        have hB := hB.trans hXw56
        have hBc := (by first | exact hBc.trans hXw56 | exact hB0.trans hXw56)
        have hb1 := hb1.up hXw56
        have hb2 := hb2.up hXw56
        have hb3 := hb3.up hXw56
        have ho4 := ho4.up hXw56
        have ho5 := ho5.up hXw56
        have ho9 := ho9.up hXw56
        have hb37 := hb37.up hXw56
        have ho38 := ho38.up hXw56
        have ho42 := ho42.up hXw56
        refine HP.must rfl rfl (OpK.call rfl T.cf154 rfl (c_slices_Concat_bool_bool (rdSl3 (by assumption) (Osl.rd (by assumption)) (by first | assumption | exact Rd.up (by assumption) hB) (by first | assumption | exact Rd.up (by assumption) hB)) (by simp; omega)) (fun rv14 w57 hR => ?_))
        obtain ⟨hXw57, v44, og44, rfl, ho44, hq44⟩ := hR
        have hl44 := Lo.up hq44 hB
        have hv44 := Lo.up hq44 hS
        have hd1_44 := Dj.lo hb1.ltO hq44
        have hd2_44 := Dj.lo hb2.ltO hq44
        have hd3_44 := Dj.lo hb3.ltO hq44
        have hd4_44 := Dj.lo ho4.ltO hq44
        have hd5_44 := Dj.lo ho5.ltO hq44
        have hd9_44 := Dj.lo ho9.ltO hq44
        have hd37_44 := Dj.lo hb37.ltO hq44
        have hd38_44 := Dj.lo ho38.ltO hq44
        have hd42_44 := Dj.lo ho42.ltO hq44
        have hd43_44 := Dj.lo ho43.ltO hq44
        refine ⟨Upd.trans hS hXw57, ?_⟩
        have hS := Upd.trans hS hXw57
        have hB := hB.trans hXw57
        have hBc := (by first | exact hBc.trans hXw57 | exact hB0.trans hXw57)
        have hb1 := hb1.up hXw57
        have hb2 := hb2.up hXw57
        have hb3 := hb3.up hXw57
        have ho4 := ho4.up hXw57
        have ho5 := ho5.up hXw57
        have ho9 := ho9.up hXw57
        have hb37 := hb37.up hXw57
        have ho38 := ho38.up hXw57
        have ho42 := ho42.up hXw57
        have ho43 := ho43.up hXw57
        refine HP.take rfl rfl rfl rfl hS (fun wS hS1 => PV.build (ks := [0, 1, 2, 3]) (os := [.tmp 43, .tmp 45, .tmp 49, .tmp 66]) (css := [[_], [_], [_], [_]]) (ds := [_, _, _, _]) T.bu88 rfl rfl ⟨rfl, rfl, (by first | exact Rd.cells1 (by assumption) | exact Osl.cells1 (by assumption) | exact Osn.cells1 (by assumption) | exact Rd.cells1 (NL.rd (by assumption)) | exact Inn.cell1 (by assumption) (by omega) | assumption | rfl), (by first | exact Rd.cells1 (by assumption) | exact Osl.cells1 (by assumption) | exact Osn.cells1 (by assumption) | exact Rd.cells1 (NL.rd (by assumption)) | exact Inn.cell1 (by assumption) (by omega) | assumption | rfl), trivial⟩ rfl) ?_
        refine HP.must rfl rfl (OpK.storeA T.sz88 rfl rfl rfl rfl (by simp [Value.oneCell'] <;> first | done | (repeat' apply And.intro) <;> first | rfl | exact Inn.one1 (by assumption) (by omega) | exact Osl.oneCell (by assumption) | exact Osn.oneCell (by assumption) | exact Rd.oneCell (by assumption) | exact Rd.oneCell (NL.rd (by assumption)) | assumption) hb37 (fun w58 hXw58 hb37 => ?_))
        refine ⟨Ext.updL hS hXw58 hv37, ?_⟩
        have hS := Ext.updL hS hXw58 hv37
        have hB := hB.updL hXw58 hl37
        have hBc := hBc.updL hXw58 (Lo.up hv37 hXd)
        have hb1 := hb1.updD hXw58 hd1_37
        have hb2 := hb2.updD hXw58 hd2_37
        have hb3 := hb3.updD hXw58 hd3_37
        have ho4 := ho4.updD hXw58 hd4_37
        have ho5 := ho5.updD hXw58 hd5_37
        have ho9 := ho9.updD hXw58 hd9_37
        have ho38 := ho38.updD hXw58 (Dj.symm hd37_38)
        have ho42 := ho42.updD hXw58 (Dj.symm hd37_42)
        have ho43 := ho43.updD hXw58 (Dj.symm hd37_43)
        have ho44 := ho44.updD hXw58 (Dj.symm hd37_44)
        refine HP.done ?_
        exact NQ.cut (ρ := [(8, _)]) ⟨rfl, rfl, rfl, rfl, rfl, trivial⟩ ⟨b37, rv12, og38, rv14, og44, rfl, hBc, (bxE hb37 (by first | rfl | (simp_all; done))), hl37, (osnE ho38 (by first | rfl | (simp_all; done))), hl38, (osE ho44 (by first | rfl | (simp_all; done))), hl44, hd1_37, hd1_38, hd1_44, hd2_37, hd2_38, hd2_44, hd3_37, hd3_38, hd3_44, hd4_37, hd4_38, hd4_44, hd5_37, hd5_38, hd5_44, hd37_38, hd37_44, hd38_44⟩
    · skip
      refine (OpK.alloc rfl T.zv88 rfl (fun b45 w59 hXw59 hb45 hge45 => ?_))
      have hl45 := Lo.new hB hge45
      have hv45 := Lo.new hS hge45
      have hd1_45 := Dj.new hb1.ltO hge45
      have hd2_45 := Dj.new hb2.ltO hge45
      have hd3_45 := Dj.new hb3.ltO hge45
      have hd4_45 := Dj.new ho4.ltO hge45
      have hd5_45 := Dj.new ho5.ltO hge45
      refine ⟨Upd.trans hS hXw59, ?_⟩
      have hS := Upd.trans hS hXw59
      have hB := hB.trans hXw59
      have hBc := (by first | exact hBc.trans hXw59 | exact hB0.trans hXw59)
      have hb1 := hb1.up hXw59
      have hb2 := hb2.up hXw59
      have hb3 := hb3.up hXw59
      have ho4 := ho4.up hXw59
      have ho5 := ho5.up hXw59
      refine HP.must rfl rfl (OpK.buildS VV (os := [.tmp 46, .tmp 47]) [_, _] rfl T.sl232 rfl rfl T.zv86 rfl (by intro z hz; first | rfl | (simp only [List.mem_cons, List.not_mem_nil, or_false] at hz; rcases hz with hz | hz <;> subst hz <;> exact (by first | exact Rd.cells1 (by assumption) | exact Osl.cells1 (by assumption) | exact Osn.cells1 (by assumption) | exact Rd.cells1 (NL.rd (by assumption)) | exact Inn.cell1 (by assumption) (by omega) | assumption | rfl))) rfl (fun v46 g46 w60 hXw60 ho46 hge46 => ?_))
      have hl46 := Lo.new hB hge46
      have hv46 := Lo.new hS hge46
      have hd1_46 := Dj.new hb1.ltO hge46
      have hd2_46 := Dj.new hb2.ltO hge46
      have hd3_46 := Dj.new hb3.ltO hge46
      have hd4_46 := Dj.new ho4.ltO hge46
      have hd5_46 := Dj.new ho5.ltO hge46
      have hd45_46 := Dj.new hb45.ltO hge46
      refine ⟨Upd.trans hS hXw60, ?_⟩
      have hS := Upd.trans hS hXw60
      have hB := hB.trans hXw60
      have hBc := (by first | exact hBc.trans hXw60 | exact hB0.trans hXw60)
      have hb1 := hb1.up hXw60
      have hb2 := hb2.up hXw60
      have hb3 := hb3.up hXw60
      have ho4 := ho4.up hXw60
      have ho5 := ho5.up hXw60
      have hb45 := hb45.up hXw60
      refine HP.must rfl rfl (OpK.call rfl T.cf153 rfl (c_slices_Concat_impl_PairArc_impl_PairArc (rdSl2 (by assumption) (Osn.rdR (by assumption)) (Osn.rdR (by assumption))) (by simp [movL]; omega)) (fun rv15 w61 hR => ?_))
      obtain ⟨hXw61, v47, og47, rfl, ho47, hq47⟩ := hR
      have hl47 := Lo.up hq47 hB
      have hv47 := Lo.up hq47 hS
      have hd1_47 := Dj.lo hb1.ltO hq47
      have hd2_47 := Dj.lo hb2.ltO hq47
      have hd3_47 := Dj.lo hb3.ltO hq47
      have hd4_47 := Dj.lo ho4.ltO hq47
      have hd5_47 := Dj.lo ho5.ltO hq47
      have hd45_47 := Dj.lo hb45.ltO hq47
      have hd46_47 := Dj.lo ho46.ltO hq47
      refine ⟨Upd.trans hS hXw61, ?_⟩
      have hS := Upd.trans hS hXw61
      have hB := hB.trans hXw61
      have hBc := (by first | exact hBc.trans hXw61 | exact hB0.trans hXw61)
      have hb1 := hb1.up hXw61
      have hb2 := hb2.up hXw61
      have hb3 := hb3.up hXw61
      have ho4 := ho4.up hXw61
      have ho5 := ho5.up hXw61
      have hb45 := hb45.up hXw61
      have ho46 := ho46.up hXw61
      refine HP.take rfl rfl rfl rfl hS (fun wS hS1 => PV.move rfl) ?_
      refine HP.split (t := 54) rfl (fun hc6 => ?_) (fun hc6 => ?_)
      · skip
        try simp only [nq] at hc6
        refine HP.skip rfl rfl rfl rfl rfl rfl hS ?_
        refine HP.skip rfl rfl rfl rfl rfl rfl hS ?_
        refine HP.skip rfl rfl rfl rfl rfl rfl hS ?_
        refine HP.skip rfl rfl rfl rfl rfl rfl hS ?_
        refine HP.take rfl rfl rfl rfl hS (fun wS hS1 => PV.pickT rfl rfl) ?_
        refine HP.must rfl rfl (OpK.buildS VB (os := [.tmp 59]) [_] rfl T.sl62 rfl rfl T.zv4 rfl (by intro z hz; first | rfl | (simp only [List.mem_cons, List.not_mem_nil, or_false] at hz; subst hz; exact (by first | exact Rd.cells1 (by assumption) | exact Osl.cells1 (by assumption) | exact Osn.cells1 (by assumption) | exact Rd.cells1 (NL.rd (by assumption)) | exact Inn.cell1 (by assumption) (by omega) | assumption | rfl))) rfl (fun v48 g48 w62 hXw62 ho48 hge48 => ?_))
        have hl48 := Lo.new hB hge48
        have hv48 := Lo.new hS hge48
        have hd1_48 := Dj.new hb1.ltO hge48
        have hd2_48 := Dj.new hb2.ltO hge48
        have hd3_48 := Dj.new hb3.ltO hge48
        have hd4_48 := Dj.new ho4.ltO hge48
        have hd5_48 := Dj.new ho5.ltO hge48
        have hd45_48 := Dj.new hb45.ltO hge48
        have hd46_48 := Dj.new ho46.ltO hge48
        have hd47_48 := Dj.new ho47.ltO hge48
        refine ⟨Upd.trans hS hXw62, ?_⟩
        have hS := Upd.trans hS hXw62
        have hB := hB.trans hXw62
        have hBc := (by first | exact hBc.trans hXw62 | exact hB0.trans hXw62)
        have hb1 := hb1.up hXw62
        have hb2 := hb2.up hXw62
        have hb3 := hb3.up hXw62
        have ho4 := ho4.up hXw62
        have ho5 := ho5.up hXw62
        have hb45 := hb45.up hXw62
        have ho46 := ho46.up hXw62
        have ho47 := ho47.up hXw62
        refine HP.must rfl rfl (OpK.buildS VV (os := [.tmp 60, .tmp 62, .tmp 64]) [_, _, _] rfl T.sl234 rfl rfl T.zv62 rfl (by intro z hz; first | rfl | (simp only [List.mem_cons, List.not_mem_nil, or_false] at hz; rcases hz with hz | hz | hz <;> subst hz <;> exact (by first | exact Rd.cells1 (by assumption) | exact Osl.cells1 (by assumption) | exact Osn.cells1 (by assumption) | exact Rd.cells1 (NL.rd (by assumption)) | exact Inn.cell1 (by assumption) (by omega) | assumption | rfl))) rfl (fun v49 g49 w63 hXw63 ho49 hge49 => ?_))
        have hl49 := Lo.new hB hge49
        have hv49 := Lo.new hS hge49
        have hd1_49 := Dj.new hb1.ltO hge49
        have hd2_49 := Dj.new hb2.ltO hge49
        have hd3_49 := Dj.new hb3.ltO hge49
        have hd4_49 := Dj.new ho4.ltO hge49
        have hd5_49 := Dj.new ho5.ltO hge49
        have hd45_49 := Dj.new hb45.ltO hge49
        have hd46_49 := Dj.new ho46.ltO hge49
        have hd47_49 := Dj.new ho47.ltO hge49
        have hd48_49 := Dj.new ho48.ltO hge49
        refine ⟨Upd.trans hS hXw63, ?_⟩
        have hS := Upd.trans hS hXw63
        have hB := hB.trans hXw63
        have hBc := (by first | exact hBc.trans hXw63 | exact hB0.trans hXw63)
        have hb1 := hb1.up hXw63
        have hb2 := hb2.up hXw63
        have hb3 := hb3.up hXw63
        have ho4 := ho4.up hXw63
        have ho5 := ho5.up hXw63
        have hb45 := hb45.up hXw63
        have ho46 := ho46.up hXw63
        have ho47 := ho47.up hXw63
        have ho48 := ho48.up hXw63
        refine HP.must rfl rfl (OpK.call rfl T.cf154 rfl (c_slices_Concat_bool_bool (rdSl3 (by assumption) (Osl.rd (by assumption)) (by first | assumption | exact Rd.up (by assumption) hB) (by first | assumption | exact Rd.up (by assumption) hB)) (by simp; omega)) (fun rv16 w64 hR => ?_))
        obtain ⟨hXw64, v50, og50, rfl, ho50, hq50⟩ := hR
        have hl50 := Lo.up hq50 hB
        have hv50 := Lo.up hq50 hS
        have hd1_50 := Dj.lo hb1.ltO hq50
        have hd2_50 := Dj.lo hb2.ltO hq50
        have hd3_50 := Dj.lo hb3.ltO hq50
        have hd4_50 := Dj.lo ho4.ltO hq50
        have hd5_50 := Dj.lo ho5.ltO hq50
        have hd45_50 := Dj.lo hb45.ltO hq50
        have hd46_50 := Dj.lo ho46.ltO hq50
        have hd47_50 := Dj.lo ho47.ltO hq50
        have hd48_50 := Dj.lo ho48.ltO hq50
        have hd49_50 := Dj.lo ho49.ltO hq50
        refine ⟨Upd.trans hS hXw64, ?_⟩
        have hS := Upd.trans hS hXw64
        have hB := hB.trans hXw64
        have hBc := (by first | exact hBc.trans hXw64 | exact hB0.trans hXw64)
        have hb1 := hb1.up hXw64
        have hb2 := hb2.up hXw64
        have hb3 := hb3.up hXw64
        have ho4 := ho4.up hXw64
        have ho5 := ho5.up hXw64
        have hb45 := hb45.up hXw64
        have ho46 := ho46.up hXw64
        have ho47 := ho47.up hXw64
        have ho48 := ho48.up hXw64
        have ho49 := ho49.up hXw64
        refine HP.take rfl rfl rfl rfl hS (fun wS hS1 => PV.build (ks := [0, 1, 2, 3]) (os := [.tmp 43, .tmp 45, .tmp 49, .tmp 66]) (css := [[_], [_], [_], [_]]) (ds := [_, _, _, _]) T.bu88 rfl rfl ⟨rfl, rfl, (by first | exact Rd.cells1 (by assumption) | exact Osl.cells1 (by assumption) | exact Osn.cells1 (by assumption) | exact Rd.cells1 (NL.rd (by assumption)) | exact Inn.cell1 (by assumption) (by omega) | assumption | rfl), (by first | exact Rd.cells1 (by assumption) | exact Osl.cells1 (by assumption) | exact Osn.cells1 (by assumption) | exact Rd.cells1 (NL.rd (by assumption)) | exact Inn.cell1 (by assumption) (by omega) | assumption | rfl), trivial⟩ rfl) ?_
        refine HP.must rfl rfl (OpK.storeA T.sz88 rfl rfl rfl rfl (by simp [Value.oneCell'] <;> first | done | (repeat' apply And.intro) <;> first | rfl | exact Inn.one1 (by assumption) (by omega) | exact Osl.oneCell (by assumption) | exact Osn.oneCell (by assumption) | exact Rd.oneCell (by assumption) | exact Rd.oneCell (NL.rd (by assumption)) | assumption) hb45 (fun w65 hXw65 hb45 => ?_))
        refine ⟨Ext.updL hS hXw65 hv45, ?_⟩
        have hS := Ext.updL hS hXw65 hv45
        have hB := hB.updL hXw65 hl45
        have hBc := hBc.updL hXw65 (Lo.up hv45 hXd)
        have hb1 := hb1.updD hXw65 hd1_45
        have hb2 := hb2.updD hXw65 hd2_45
        have hb3 := hb3.updD hXw65 hd3_45
        have ho4 := ho4.updD hXw65 hd4_45
        have ho5 := ho5.updD hXw65 hd5_45
        have ho46 := ho46.updD hXw65 (Dj.symm hd45_46)
        have ho47 := ho47.updD hXw65 (Dj.symm hd45_47)
        have ho48 := ho48.updD hXw65 (Dj.symm hd45_48)
        have ho49 := ho49.updD hXw65 (Dj.symm hd45_49)
        have ho50 := ho50.updD hXw65 (Dj.symm hd45_50)
        refine HP.done ?_
        exact NQ.cut (ρ := [(8, _)]) ⟨rfl, rfl, rfl, rfl, rfl, trivial⟩ ⟨b45, rv15, og47, rv16, og50, rfl, hBc, (bxE hb45 (by first | rfl | (simp_all; done))), hl45, (osnE ho47 (by first | rfl | (simp_all; done))), hl47, (osE ho50 (by first | rfl | (simp_all; done))), hl50, hd1_45, hd1_47, hd1_50, hd2_45, hd2_47, hd2_50, hd3_45, hd3_47, hd3_50, hd4_45, hd4_47, hd4_50, hd5_45, hd5_47, hd5_50, hd45_47, hd45_50, hd47_50⟩
      try simp only [nq] at hc6
      refine HP.takeG rfl rfl rfl rfl rfl rfl hS (fun wS hS1 => PV.fieldAddr T.fl88_3 rfl hb2.cells) ?_
      refine HP.takeG rfl rfl rfl rfl rfl rfl hS (fun wS hS1 => PV.load1 T.na62 rfl (Bx.cells (Bx.updD (by assumption) hS1 (Dj.nlR _))) (Ext.refl _) rfl) ?_
      first
        | refine HP.at (x := .tmp 56) (y := .const (.int .i64 0)) (E := EB) (false) rfl rfl (by first | assumption | exact Inn.rd (by assumption) (by omega)) (by first | omega | (simp only [List.length_set]; omega) | (simp only [List.length_append, List.length_take, List.length_replicate, List.length_drop]; omega)) (fun p4 csp4 hpp4 hcp4 hq => ?_)
        | refine HP.atZ (x := .tmp 56) (y := .const (.int .i64 0)) (E := EB) (false) rfl rfl (by first | assumption | exact Inn.rd (by assumption) (by omega)) (by first | omega | (simp only [List.length_set]; omega) | (simp only [List.length_append, List.length_take, List.length_replicate, List.length_drop]; omega)) (fun p4 csp4 hpp4 hzp4 hcp4 hq => ?_)
      cases hq
      refine HP.takeG rfl rfl rfl rfl rfl rfl hS (fun wS hS1 => (by first | exact PV.indexAddr hpp4 rfl rfl T.sl62 | exact PV.indexAddr hpp4 rfl (by rw [← hzp4]; rfl) T.sl62)) ?_
      refine HP.takeG rfl rfl rfl rfl rfl rfl hS (fun wS hS1 => (by first | exact PV.load0 T.na4 rfl (by first | exact Cells.up (by assumption) (hBr.trans hS1) | exact Bx.cells (Bx.updD (by assumption) hS1 (Dj.nlR _)) | exact Cells.upd (by assumption) hS1 (by simp)) (Ext.refl _) rfl | exact PV.load1 T.na4 rfl (by first | exact Cells.up (by assumption) (hBr.trans hS1) | exact Bx.cells (Bx.updD (by assumption) hS1 (Dj.nlR _)) | exact Cells.upd (by assumption) hS1 (by simp)) (Ext.refl _) rfl)) ?_
      refine HP.take rfl rfl rfl rfl hS (fun wS hS1 => PV.pickF rfl rfl) ?_
      refine HP.must rfl rfl (OpK.buildS VB (os := [.tmp 59]) [_] rfl T.sl62 rfl rfl T.zv4 rfl (by intro z hz; first | rfl | (simp only [List.mem_cons, List.not_mem_nil, or_false] at hz; subst hz; exact (by first | exact Rd.cells1 (by assumption) | exact Osl.cells1 (by assumption) | exact Osn.cells1 (by assumption) | exact Rd.cells1 (NL.rd (by assumption)) | exact Inn.cell1 (by assumption) (by omega) | assumption | rfl))) rfl (fun v51 g51 w66 hXw66 ho51 hge51 => ?_))
      have hl51 := Lo.new hB hge51
      have hv51 := Lo.new hS hge51
      have hd1_51 := Dj.new hb1.ltO hge51
      have hd2_51 := Dj.new hb2.ltO hge51
      have hd3_51 := Dj.new hb3.ltO hge51
      have hd4_51 := Dj.new ho4.ltO hge51
      have hd5_51 := Dj.new ho5.ltO hge51
      have hd45_51 := Dj.new hb45.ltO hge51
      have hd46_51 := Dj.new ho46.ltO hge51
      have hd47_51 := Dj.new ho47.ltO hge51
      refine ⟨Upd.trans hS hXw66, ?_⟩
      have hS := Upd.trans hS hXw66
      have hB := hB.trans hXw66
      have hBc := (by first | exact hBc.trans hXw66 | exact hB0.trans hXw66)
      have hb1 := hb1.up hXw66
      have hb2 := hb2.up hXw66
      have hb3 := hb3.up hXw66
      have ho4 := ho4.up hXw66
      have ho5 := ho5.up hXw66
      have hb45 := hb45.up hXw66
      have ho46 := ho46.up hXw66
      have ho47 := ho47.up hXw66
      refine HP.must rfl rfl (OpK.buildS VV (os := [.tmp 60, .tmp 62, .tmp 64]) [_, _, _] rfl T.sl234 rfl rfl T.zv62 rfl (by intro z hz; first | rfl | (simp only [List.mem_cons, List.not_mem_nil, or_false] at hz; rcases hz with hz | hz | hz <;> subst hz <;> exact (by first | exact Rd.cells1 (by assumption) | exact Osl.cells1 (by assumption) | exact Osn.cells1 (by assumption) | exact Rd.cells1 (NL.rd (by assumption)) | exact Inn.cell1 (by assumption) (by omega) | assumption | rfl))) rfl (fun v52 g52 w67 hXw67 ho52 hge52 => ?_))
      have hl52 := Lo.new hB hge52
      have hv52 := Lo.new hS hge52
      have hd1_52 := Dj.new hb1.ltO hge52
      have hd2_52 := Dj.new hb2.ltO hge52
      have hd3_52 := Dj.new hb3.ltO hge52
      have hd4_52 := Dj.new ho4.ltO hge52
      have hd5_52 := Dj.new ho5.ltO hge52
      have hd45_52 := Dj.new hb45.ltO hge52
      have hd46_52 := Dj.new ho46.ltO hge52
      have hd47_52 := Dj.new ho47.ltO hge52
      have hd51_52 := Dj.new ho51.ltO hge52
      refine ⟨Upd.trans hS hXw67, ?_⟩
      have hS := Upd.trans hS hXw67
      have hB := hB.trans hXw67
      have hBc := (by first | exact hBc.trans hXw67 | exact hB0.trans hXw67)
      have hb1 := hb1.up hXw67
      have hb2 := hb2.up hXw67
      have hb3 := hb3.up hXw67
      have ho4 := ho4.up hXw67
      have ho5 := ho5.up hXw67
      have hb45 := hb45.up hXw67
      have ho46 := ho46.up hXw67
      have ho47 := ho47.up hXw67
      have ho51 := ho51.up hXw67
      refine HP.must rfl rfl (OpK.call rfl T.cf154 rfl (c_slices_Concat_bool_bool (rdSl3 (by assumption) (Osl.rd (by assumption)) (by first | assumption | exact Rd.up (by assumption) hB) (by first | assumption | exact Rd.up (by assumption) hB)) (by simp; omega)) (fun rv17 w68 hR => ?_))
      obtain ⟨hXw68, v53, og53, rfl, ho53, hq53⟩ := hR
      have hl53 := Lo.up hq53 hB
      have hv53 := Lo.up hq53 hS
      have hd1_53 := Dj.lo hb1.ltO hq53
      have hd2_53 := Dj.lo hb2.ltO hq53
      have hd3_53 := Dj.lo hb3.ltO hq53
      have hd4_53 := Dj.lo ho4.ltO hq53
      have hd5_53 := Dj.lo ho5.ltO hq53
      have hd45_53 := Dj.lo hb45.ltO hq53
      have hd46_53 := Dj.lo ho46.ltO hq53
      have hd47_53 := Dj.lo ho47.ltO hq53
      have hd51_53 := Dj.lo ho51.ltO hq53
      have hd52_53 := Dj.lo ho52.ltO hq53
      refine ⟨Upd.trans hS hXw68, ?_⟩
      have hS := Upd.trans hS hXw68
      have hB := hB.trans hXw68
      have hBc := (by first | exact hBc.trans hXw68 | exact hB0.trans hXw68)
      have hb1 := hb1.up hXw68
      have hb2 := hb2.up hXw68
      have hb3 := hb3.up hXw68
      have ho4 := ho4.up hXw68
      have ho5 := ho5.up hXw68
      have hb45 := hb45.up hXw68
      have ho46 := ho46.up hXw68
      have ho47 := ho47.up hXw68
      have ho51 := ho51.up hXw68
      have ho52 := ho52.up hXw68
      refine HP.take rfl rfl rfl rfl hS (fun wS hS1 => PV.build (ks := [0, 1, 2, 3]) (os := [.tmp 43, .tmp 45, .tmp 49, .tmp 66]) (css := [[_], [_], [_], [_]]) (ds := [_, _, _, _]) T.bu88 rfl rfl ⟨rfl, rfl, (by first | exact Rd.cells1 (by assumption) | exact Osl.cells1 (by assumption) | exact Osn.cells1 (by assumption) | exact Rd.cells1 (NL.rd (by assumption)) | exact Inn.cell1 (by assumption) (by omega) | assumption | rfl), (by first | exact Rd.cells1 (by assumption) | exact Osl.cells1 (by assumption) | exact Osn.cells1 (by assumption) | exact Rd.cells1 (NL.rd (by assumption)) | exact Inn.cell1 (by assumption) (by omega) | assumption | rfl), trivial⟩ rfl) ?_
      refine HP.must rfl rfl (OpK.storeA T.sz88 rfl rfl rfl rfl (by simp [Value.oneCell'] <;> first | done | (repeat' apply And.intro) <;> first | rfl | exact Inn.one1 (by assumption) (by omega) | exact Osl.oneCell (by assumption) | exact Osn.oneCell (by assumption) | exact Rd.oneCell (by assumption) | exact Rd.oneCell (NL.rd (by assumption)) | assumption) hb45 (fun w69 hXw69 hb45 => ?_))
      refine ⟨Ext.updL hS hXw69 hv45, ?_⟩
      have hS := Ext.updL hS hXw69 hv45
      have hB := hB.updL hXw69 hl45
      have hBc := hBc.updL hXw69 (Lo.up hv45 hXd)
      have hb1 := hb1.updD hXw69 hd1_45
      have hb2 := hb2.updD hXw69 hd2_45
      have hb3 := hb3.updD hXw69 hd3_45
      have ho4 := ho4.updD hXw69 hd4_45
      have ho5 := ho5.updD hXw69 hd5_45
      have ho46 := ho46.updD hXw69 (Dj.symm hd45_46)
      have ho47 := ho47.updD hXw69 (Dj.symm hd45_47)
      have ho51 := ho51.updD hXw69 (Dj.symm hd45_51)
      have ho52 := ho52.updD hXw69 (Dj.symm hd45_52)
      have ho53 := ho53.updD hXw69 (Dj.symm hd45_53)
      refine HP.done ?_
      exact NQ.cut (ρ := [(8, _)]) ⟨rfl, rfl, rfl, rfl, rfl, trivial⟩ ⟨b45, rv15, og47, rv17, og53, rfl, hBc, (bxE hb45 (by first | rfl | (simp_all; done))), hl45, (osnE ho47 (by first | rfl | (simp_all; done))), hl47, (osE ho53 (by first | rfl | (simp_all; done))), hl53, hd1_45, hd1_47, hd1_53, hd2_45, hd2_47, hd2_53, hd3_45, hd3_47, hd3_53, hd4_45, hd4_47, hd4_53, hd5_45, hd5_47, hd5_53, hd45_47, hd45_53, hd47_53⟩
  rintro _ wc1 ⟨b6, v7, og7, v8, og8, rfl, hXc, hb6, hl6, ho7, hl7, ho8, hl8, hd1_6, hd1_7, hd1_8, hd2_6, hd2_7, hd2_8, hd3_6, hd3_7, hd3_8, hd4_6, hd4_7, hd4_8, hd5_6, hd5_7, hd5_8, hd6_7, hd6_8, hd7_8⟩
  have hB := hB.trans hXc
  have hb1 := hb1.up hXc
  have hb2 := hb2.up hXc
  have hb3 := hb3.up hXc
  have ho4 := ho4.up hXc
  have ho5 := ho5.up hXc
  refine CW.seq ?_
  refine CW.seq ?_
  refine CW.reg ?_
  refine WL.mv rfl rfl ?_
  refine WL.pure rfl rfl rfl ((PV.lenOsn rfl ho4 T.sl86)) ?_
  refine WL.mv rfl rfl ?_
  refine WL.nilS ?_
  refine CW.block ?_
  have hlt1 := hb1.ltO
  have hlt2 := hb2.ltO
  have hlt3 := hb3.ltO
  have hlt4 := ho4.ltO
  have hlt5 := ho5.ltO
  have hlt6 := hb6.ltO
  have hlt7 := ho7.ltO
  have hlt8 := ho8.ltO
  refine CW.loop (σk := [(2, _), (4, _), (7, _), (8, _), (68, _), (69, _)]) (fun ρ wz m => ∃ (v54 : Value) (og54 : Option Nat) (v55 : Value) (og55 : Option Nat) (k : Nat), ρ = [(70, .int .i64 (k : Nat))] ∧ m = (movL 1 xa2).length - k ∧ UpdL [og7, og8, (some b6.block)] wc1 wz ∧ Osn 4 gR wz og54 v54 ([movL 1 xa2, movL (1 + a0) xy2].flatten ++ frL 1 ((movL 1 xa2).take k)) ∧ OgR wc1 og7 og54 ∧ Osl VB wz og55 v55 ([[(xa3.getD (0 : Int).toNat false || xy3.getD (0 : Int).toNat false)], xa3, xy3].flatten) ∧ OgR wc1 og8 og55 ∧ Bx wz b6 [.int .i64 (1 + a0 + y0), .int .i64 a1, v54, v55] ∧ Dj og54 og55 ∧ (k ≤ (movL 1 xa2).length)) (ρ₀ := [(70, _)]) (m₀ := _) ⟨rfl, rfl, rfl, rfl, rfl, rfl, rfl, trivial⟩ ⟨v7, og7, v8, og8, 0, rfl, rfl, (UpdL.refl _ _), osnE ho7 (by simp [frL]), OgR.refl _ _, osE ho8 (by rfl), OgR.refl _ _, bxE hb6 (by first | rfl | (simp_all; done) | (simp_all; omega)), hd7_8, (by first | omega | rfl | (simp; done) | assumption | (simp_all; done))⟩ ?_
  rintro _ wl1 _ ⟨v54, og54, v55, og55, k, rfl, rfl, hU0, ho54, ha54, ho55, ha55, hb6, hd54_55, hk⟩
  have hb1 := hb1.loop hU0 ⟨hd1_7, hd1_8, hd1_6, trivial⟩
  have hb2 := hb2.loop hU0 ⟨hd2_7, hd2_8, hd2_6, trivial⟩
  have hb3 := hb3.loop hU0 ⟨hd3_7, hd3_8, hd3_6, trivial⟩
  have ho4 := ho4.loop hU0 ⟨hd4_7, hd4_8, hd4_6, trivial⟩
  have ho5 := ho5.loop hU0 ⟨hd5_7, hd5_8, hd5_6, trivial⟩
  have hl54 := Lo.ogr hl7 hB ha54
  have hg0_54 := ha54
  have hk0_54 : OkB [og7, og8, (some b6.block)] wc1 og54 := OkB.ogr (OkB.mem (by simp)) (Nat.le_refl _) ha54
  have hd1_54 := Dj.ogr hd1_7 hlt1 ha54
  have hd2_54 := Dj.ogr hd2_7 hlt2 ha54
  have hd3_54 := Dj.ogr hd3_7 hlt3 ha54
  have hd4_54 := Dj.ogr hd4_7 hlt4 ha54
  have hd5_54 := Dj.ogr hd5_7 hlt5 ha54
  have hd6_54 := Dj.ogr hd6_7 hlt6 ha54
  have hl55 := Lo.ogr hl8 hB ha55
  have hg0_55 := ha55
  have hk0_55 : OkB [og7, og8, (some b6.block)] wc1 og55 := OkB.ogr (OkB.mem (by simp)) (Nat.le_refl _) ha55
  have hd1_55 := Dj.ogr hd1_8 hlt1 ha55
  have hd2_55 := Dj.ogr hd2_8 hlt2 ha55
  have hd3_55 := Dj.ogr hd3_8 hlt3 ha55
  have hd4_55 := Dj.ogr hd4_8 hlt4 ha55
  have hd5_55 := Dj.ogr hd5_8 hlt5 ha55
  have hd6_55 := Dj.ogr hd6_8 hlt6 ha55
  have hk0_6 : OkB [og7, og8, (some b6.block)] wc1 (some b6.block) := OkB.mem (by simp)
  have hB := hB.loop hU0 ⟨hl7, hl8, hl6, trivial⟩
  have hfl := frL_lenK 1 (movL 1 xa2) k; have hcl : ([movL 1 xa2, movL (1 + a0) xy2].flatten).length = xa2.length + xy2.length := (by simp [movL]); have hfl1 := frL_len 1 (movL 1 xa2); have hall : ([movL 1 xa2, movL (1 + a0) xy2].flatten ++ frL 1 ((movL 1 xa2).take k)).length ≤ 400 := (by rw [List.length_append]; first | omega | (rw [List.length_append]; omega))
  refine CW.seq ?_
  refine CW.reg ?_
  refine WL.pure rfl rfl rfl (PV.lss rfl rfl) ?_
  refine WL.nilS ?_
  refine CW.seq ?_
  refine CW.cond rfl (fun hc7 => ?_) (fun hc7 => ?_)
  · skip
    try simp only [nq] at hc7
    refine CW.skipS ?_
    refine CW.seq ?_
    refine CW.block ?_
    refine CW.seq ?_
    refine CW.reg ?_
    have hrdp5 := ho4.rdR
    first
      | refine WL.at (x := .tmp 68) (y := .tmp 70) (E := ER) ((0, 0, 0, 0)) rfl rfl hrdp5 (by first | omega | (simp only [List.length_set]; omega) | (simp only [List.length_append, List.length_take, List.length_replicate, List.length_drop]; omega)) (fun p5 csp5 hpp5 hcp5 hq => ?_)
      | refine WL.atZ (x := .tmp 68) (y := .tmp 70) (E := ER) ((0, 0, 0, 0)) rfl rfl hrdp5 (by first | omega | (simp only [List.length_set]; omega) | (simp only [List.length_append, List.length_take, List.length_replicate, List.length_drop]; omega)) (fun p5 csp5 hpp5 hzp5 hcp5 hq => ?_)
    cases hq
    refine WL.pure rfl rfl rfl ((by first | exact PV.indexAddr hpp5 rfl rfl T.sl86 | exact PV.indexAddr hpp5 rfl (by rw [← hzp5]; rfl) T.sl86)) ?_
    refine WL.pure rfl rfl rfl ((by first | exact PV.loadA T.ag178 rfl (by first | exact Cells.up (by assumption) hB | exact Bx.cells (by assumption) | assumption) (Ext.refl _) rfl | exact PV.loadP (ds := [_, _, _, _]) T.ag178 rfl (by first | exact Cells.up (by assumption) hB | exact Bx.cells (by assumption) | assumption) (Ext.refl _) rfl rfl)) ?_
    refine WL.op rfl (OpK.alloc rfl T.zv178 rfl (fun b57 w70 hXw70 hb57 hge57 => ?_))
    have hl57 := Lo.new hB hge57
    have hd1_57 := Dj.new hb1.ltO hge57
    have hd2_57 := Dj.new hb2.ltO hge57
    have hd3_57 := Dj.new hb3.ltO hge57
    have hd4_57 := Dj.new ho4.ltO hge57
    have hd5_57 := Dj.new ho5.ltO hge57
    have hd6_57 := Dj.new hb6.ltO hge57
    have hd54_57 := Dj.new ho54.ltO hge57
    have hd55_57 := Dj.new ho55.ltO hge57
    have hk0_57 := OkN.new hU0 hge57
    have hg0_57 := OgR.new hU0.size hge57
    have hB := hB.trans hXw70
    have hb1 := hb1.up hXw70
    have hb2 := hb2.up hXw70
    have hb3 := hb3.up hXw70
    have ho4 := ho4.up hXw70
    have ho5 := ho5.up hXw70
    have hb6 := hb6.up hXw70
    have ho54 := ho54.up hXw70
    have ho55 := ho55.up hXw70
    have hU0 := hU0.ext hXw70
    refine WL.op rfl (OpK.storeA T.sz178 rfl rfl rfl rfl (by simp [Value.oneCell'] <;> first | done | (repeat' apply And.intro) <;> first | rfl | exact Inn.one1 (by assumption) (by omega) | exact Osl.oneCell (by assumption) | exact Osn.oneCell (by assumption) | exact Rd.oneCell (by assumption) | exact Rd.oneCell (NL.rd (by assumption)) | assumption) hb57 (fun w71 hXw71 hb57 => ?_))
    have hB := hB.updL hXw71 hl57
    have hb1 := hb1.updD hXw71 hd1_57
    have hb2 := hb2.updD hXw71 hd2_57
    have hb3 := hb3.updD hXw71 hd3_57
    have ho4 := ho4.updD hXw71 hd4_57
    have ho5 := ho5.updD hXw71 hd5_57
    have hb6 := hb6.updD hXw71 hd6_57
    have ho54 := ho54.updD hXw71 hd54_57
    have ho55 := ho55.updD hXw71 hd55_57
    have hU0 := hU0.step hXw71 hk0_57
    refine WL.nilS ?_
    refine CW.seq ?_
    refine CW.reg ?_
    refine WL.pure rfl rfl rfl (PV.fieldAddr T.fl178_0 rfl hb57.cells) ?_
    refine WL.pure rfl rfl rfl (PV.load1 T.na2 rfl hb57.cells (Ext.refl _) rfl) ?_
    refine WL.pure rfl rfl rfl (PV.eql rfl rfl) ?_
    refine WL.nilS ?_
    refine CW.cond rfl (fun hc8 => ?_) (fun hc8 => ?_)
    · skip
      try simp only [nq] at hc8
      refine CW.reg ?_
      refine WL.pure rfl rfl rfl (PV.fieldAddr T.fl88_2 rfl hb6.cells) ?_
      refine WL.pure rfl rfl rfl (PV.load1 T.na86 rfl hb6.cells (Ext.refl _) rfl) ?_
      refine WL.pure rfl rfl rfl (PV.fieldAddr T.fl178_1 rfl hb57.cells) ?_
      refine WL.pure rfl rfl rfl (PV.load1 T.na2 rfl hb57.cells (Ext.refl _) rfl) ?_
      refine WL.pure rfl rfl rfl (PV.fieldAddr T.fl178_2 rfl hb57.cells) ?_
      refine WL.pure rfl rfl rfl (PV.load1 T.na2 rfl hb57.cells (Ext.refl _) rfl) ?_
      refine WL.pure rfl rfl rfl (PV.fieldAddr T.fl178_3 rfl hb57.cells) ?_
      refine WL.pure rfl rfl rfl (PV.load1 T.na2 rfl hb57.cells (Ext.refl _) rfl) ?_
      refine WL.pure rfl rfl rfl (PV.build (ks := [0, 1, 2, 3]) (os := [.const (.int .i64 0), .tmp 80, .tmp 82, .tmp 84]) (css := [[_], [_], [_], [_]]) (ds := [_, _, _, _]) T.bu178 rfl rfl ⟨rfl, rfl, rfl, rfl, trivial⟩ rfl) ?_
      refine WL.op rfl (OpK.build4 (os := [.tmp 85]) rfl T.sl86 rfl rfl T.zv178 rfl rfl (fun v58 g58 w72 hXw72 ho58 hge58 => ?_))
      have hl58 := Lo.new hB hge58
      have hd1_58 := Dj.new hb1.ltO hge58
      have hd2_58 := Dj.new hb2.ltO hge58
      have hd3_58 := Dj.new hb3.ltO hge58
      have hd4_58 := Dj.new ho4.ltO hge58
      have hd5_58 := Dj.new ho5.ltO hge58
      have hd6_58 := Dj.new hb6.ltO hge58
      have hd54_58 := Dj.new ho54.ltO hge58
      have hd55_58 := Dj.new ho55.ltO hge58
      have hd57_58 := Dj.new hb57.ltO hge58
      have hk0_58 := OkN.new hU0 hge58
      have hg0_58 := OgR.new hU0.size hge58
      have hB := hB.trans hXw72
      have hb1 := hb1.up hXw72
      have hb2 := hb2.up hXw72
      have hb3 := hb3.up hXw72
      have ho4 := ho4.up hXw72
      have ho5 := ho5.up hXw72
      have hb6 := hb6.up hXw72
      have ho54 := ho54.up hXw72
      have ho55 := ho55.up hXw72
      have hb57 := hb57.up hXw72
      have hU0 := hU0.ext hXw72
      refine WL.op rfl (OpK.appendN (g := gR) rfl T.sl86 T.zv178 rfl rfl ho54 rfl (Osn.src ho58) (by first | (simp only [List.length_cons, List.length_nil]; omega) | (simp_all; omega)) (fun v59 og59 w73 hXw73 ho59 hap59 => ?_))
      have hl59 := Lo.app hl54 hB hap59
      have hd1_59 := Dj.app hd1_54 hb1.ltO hap59
      have hd2_59 := Dj.app hd2_54 hb2.ltO hap59
      have hd3_59 := Dj.app hd3_54 hb3.ltO hap59
      have hd4_59 := Dj.app hd4_54 ho4.ltO hap59
      have hd5_59 := Dj.app hd5_54 ho5.ltO hap59
      have hd6_59 := Dj.app hd6_54 hb6.ltO hap59
      have hd55_59 := Dj.app (Dj.symm hd54_55) ho55.ltO hap59
      have hd57_59 := Dj.app (Dj.symm hd54_57) hb57.ltO hap59
      have hd58_59 := Dj.app (Dj.symm hd54_58) ho58.ltO hap59
      have hk0_59 := OkN.app hU0 hk0_54 hap59
      have hg0_59 := OgR.app hg0_54 hU0.size hap59
      have hB := hB.updL hXw73 hl54
      have hb1 := hb1.updD hXw73 hd1_54
      have hb2 := hb2.updD hXw73 hd2_54
      have hb3 := hb3.updD hXw73 hd3_54
      have ho4 := ho4.updD hXw73 hd4_54
      have ho5 := ho5.updD hXw73 hd5_54
      have hb6 := hb6.updD hXw73 hd6_54
      have ho55 := ho55.updD hXw73 (Dj.symm hd54_55)
      have hb57 := hb57.updD hXw73 (Dj.symm hd54_57)
      have ho58 := ho58.updD hXw73 (Dj.symm hd54_58)
      have hU0 := hU0.step hXw73 hk0_54
      refine WL.pure rfl rfl rfl (PV.fieldAddr T.fl88_2 rfl hb6.cells) ?_
      refine WL.op rfl (OpK.storeB T.sz86 rfl rfl (by first | rfl | exact Inn.one1 (by assumption) (by omega) | exact Osl.oneCell (by assumption) | exact Osn.oneCell (by assumption) | exact Rd.oneCell (by assumption) | exact Rd.oneCell (NL.rd (by assumption)) | assumption) hb6 rfl (fun w74 hXw74 hb6 => ?_))
      have hB := hB.updL hXw74 hl6
      have hb1 := hb1.updD hXw74 hd1_6
      have hb2 := hb2.updD hXw74 hd2_6
      have hb3 := hb3.updD hXw74 hd3_6
      have ho4 := ho4.updD hXw74 hd4_6
      have ho5 := ho5.updD hXw74 hd5_6
      have ho55 := ho55.updD hXw74 (Dj.symm hd6_55)
      have hb57 := hb57.updD hXw74 (Dj.symm hd6_57)
      have ho58 := ho58.updD hXw74 (Dj.symm hd6_58)
      have ho59 := ho59.updD hXw74 (Dj.symm hd6_59)
      have hU0 := hU0.step hXw74 hk0_6
      refine WL.nil ?_
      refine NQ.block ?_
      refine NQ.then ?_
      refine CW.reg ?_
      refine WL.pure rfl rfl rfl (PV.add rfl rfl (by constructor <;> omega)) ?_
      refine WL.mv rfl rfl ?_
      refine WL.nil ?_
      refine NQ.next (ρ := [(70, _)]) ⟨rfl, rfl, rfl, rfl, rfl, rfl, rfl, trivial⟩ ?_
      exact ⟨_, ⟨v59, og59, v55, og55, k + 1, rfl, rfl, hU0, osnE ho59 (by first | exact frL_yes (by omega) (by omega) rfl | exact frL_no (by omega) (by omega)), (by first | exact hg0_59 | exact OgR.weak hg0_59), osE ho55 (by first | rfl | (simp_all; done) | (simp_all; omega)), (by first | exact hg0_55 | exact OgR.weak hg0_55), bxE hb6 (by first | rfl | (simp_all; done) | (simp_all; omega)), (Dj.symm hd55_59), (by first | omega | assumption | (simp_all; done) | (simp_all; omega))⟩, by omega⟩
    try simp only [nq] at hc8
    refine CW.skip ?_
    refine NQ.block ?_
    refine NQ.then ?_
    refine CW.reg ?_
    refine WL.pure rfl rfl rfl (PV.add rfl rfl (by constructor <;> omega)) ?_
    refine WL.mv rfl rfl ?_
    refine WL.nil ?_
    refine NQ.next (ρ := [(70, _)]) ⟨rfl, rfl, rfl, rfl, rfl, rfl, rfl, trivial⟩ ?_
    exact ⟨_, ⟨v54, og54, v55, og55, k + 1, rfl, rfl, hU0, osnE ho54 (by first | exact frL_yes (by omega) (by omega) rfl | exact frL_no (by omega) (by omega)), (by first | exact hg0_54 | exact OgR.weak hg0_54), osE ho55 (by first | rfl | (simp_all; done) | (simp_all; omega)), (by first | exact hg0_55 | exact OgR.weak hg0_55), bxE hb6 (by first | rfl | (simp_all; done) | (simp_all; omega)), hd54_55, (by first | omega | assumption | (simp_all; done) | (simp_all; omega))⟩, by omega⟩
  try simp only [nq] at hc7
  refine CW.exit ?_
  refine XQ.then ?_
  refine XQ.then ?_
  refine XQ.here ?_
  refine NQ.then ?_
  refine CW.seq ?_
  refine CW.seq ?_
  refine CW.reg ?_
  refine WL.mv rfl rfl ?_
  refine WL.pure rfl rfl rfl ((PV.lenOsn rfl ho5 T.sl86)) ?_
  refine WL.mv rfl rfl ?_
  refine WL.nilS ?_
  refine CW.block ?_
  have hlt1 := hb1.ltO
  have hlt2 := hb2.ltO
  have hlt3 := hb3.ltO
  have hlt4 := ho4.ltO
  have hlt5 := ho5.ltO
  have hlt6 := hb6.ltO
  have hlt54 := ho54.ltO
  have hlt55 := ho55.ltO
  refine CW.loop (σk := [(2, _), (4, _), (8, _), (90, _), (91, _)]) (fun ρ wz m => ∃ (v60 : Value) (og60 : Option Nat) (v61 : Value) (og61 : Option Nat) (k : Nat), ρ = [(92, .int .i64 (k : Nat))] ∧ m = (movL (1 + a0) xy2).length - k ∧ UpdL [og54, og55, (some b6.block)] wl1 wz ∧ Osn 4 gR wz og60 v60 ([movL 1 xa2, movL (1 + a0) xy2].flatten ++ frL 1 (movL 1 xa2) ++ frL (1 + a0) ((movL (1 + a0) xy2).take k)) ∧ OgR wl1 og54 og60 ∧ Osl VB wz og61 v61 ([[(xa3.getD (0 : Int).toNat false || xy3.getD (0 : Int).toNat false)], xa3, xy3].flatten) ∧ OgR wl1 og55 og61 ∧ Bx wz b6 [.int .i64 (1 + a0 + y0), .int .i64 a1, v60, v61] ∧ Dj og60 og61 ∧ (k ≤ (movL (1 + a0) xy2).length)) (ρ₀ := [(92, _)]) (m₀ := _) ⟨rfl, rfl, rfl, rfl, rfl, rfl, trivial⟩ ⟨v54, og54, v55, og55, 0, rfl, rfl, (UpdL.refl _ _), osnE ho54 (by rw [List.take_of_length_le (show (movL 1 xa2).length ≤ k from by omega)]; simp [frL]), OgR.refl _ _, osE ho55 (by rfl), OgR.refl _ _, bxE hb6 (by first | rfl | (simp_all; done) | (simp_all; omega)), hd54_55, (by first | omega | rfl | (simp; done) | assumption | (simp_all; done))⟩ ?_
  rintro _ wl2 _ ⟨v60, og60, v61, og61, k, rfl, rfl, hU1, ho60, ha60, ho61, ha61, hb6, hd60_61, hk⟩
  have hb1 := hb1.loop hU1 ⟨hd1_54, hd1_55, hd1_6, trivial⟩
  have hb2 := hb2.loop hU1 ⟨hd2_54, hd2_55, hd2_6, trivial⟩
  have hb3 := hb3.loop hU1 ⟨hd3_54, hd3_55, hd3_6, trivial⟩
  have ho4 := ho4.loop hU1 ⟨hd4_54, hd4_55, hd4_6, trivial⟩
  have ho5 := ho5.loop hU1 ⟨hd5_54, hd5_55, hd5_6, trivial⟩
  have hl60 := Lo.ogr hl54 hB ha60
  have hg1_60 := ha60
  have hk1_60 : OkB [og54, og55, (some b6.block)] wl1 og60 := OkB.ogr (OkB.mem (by simp)) (Nat.le_refl _) ha60
  have hd1_60 := Dj.ogr hd1_54 hlt1 ha60
  have hd2_60 := Dj.ogr hd2_54 hlt2 ha60
  have hd3_60 := Dj.ogr hd3_54 hlt3 ha60
  have hd4_60 := Dj.ogr hd4_54 hlt4 ha60
  have hd5_60 := Dj.ogr hd5_54 hlt5 ha60
  have hd6_60 := Dj.ogr hd6_54 hlt6 ha60
  have hl61 := Lo.ogr hl55 hB ha61
  have hg1_61 := ha61
  have hk1_61 : OkB [og54, og55, (some b6.block)] wl1 og61 := OkB.ogr (OkB.mem (by simp)) (Nat.le_refl _) ha61
  have hd1_61 := Dj.ogr hd1_55 hlt1 ha61
  have hd2_61 := Dj.ogr hd2_55 hlt2 ha61
  have hd3_61 := Dj.ogr hd3_55 hlt3 ha61
  have hd4_61 := Dj.ogr hd4_55 hlt4 ha61
  have hd5_61 := Dj.ogr hd5_55 hlt5 ha61
  have hd6_61 := Dj.ogr hd6_55 hlt6 ha61
  have hk1_6 : OkB [og54, og55, (some b6.block)] wl1 (some b6.block) := OkB.mem (by simp)
  have hB := hB.loop hU1 ⟨hl54, hl55, hl6, trivial⟩
  have hfl := frL_lenK (1 + a0) (movL (1 + a0) xy2) k; have hcl : ([movL 1 xa2, movL (1 + a0) xy2].flatten).length = xa2.length + xy2.length := (by simp [movL]); have hfl1 := frL_len 1 (movL 1 xa2); have hall : ([movL 1 xa2, movL (1 + a0) xy2].flatten ++ frL 1 (movL 1 xa2) ++ frL (1 + a0) ((movL (1 + a0) xy2).take k)).length ≤ 400 := (by rw [List.length_append]; first | omega | (rw [List.length_append]; omega))
  refine CW.seq ?_
  refine CW.reg ?_
  refine WL.pure rfl rfl rfl (PV.lss rfl rfl) ?_
  refine WL.nilS ?_
  refine CW.seq ?_
  refine CW.cond rfl (fun hc9 => ?_) (fun hc9 => ?_)
  · skip
    try simp only [nq] at hc9
    refine CW.skipS ?_
    refine CW.seq ?_
    refine CW.block ?_
    refine CW.seq ?_
    refine CW.reg ?_
    have hrdp6 := ho5.rdR
    first
      | refine WL.at (x := .tmp 90) (y := .tmp 92) (E := ER) ((0, 0, 0, 0)) rfl rfl hrdp6 (by first | omega | (simp only [List.length_set]; omega) | (simp only [List.length_append, List.length_take, List.length_replicate, List.length_drop]; omega)) (fun p6 csp6 hpp6 hcp6 hq => ?_)
      | refine WL.atZ (x := .tmp 90) (y := .tmp 92) (E := ER) ((0, 0, 0, 0)) rfl rfl hrdp6 (by first | omega | (simp only [List.length_set]; omega) | (simp only [List.length_append, List.length_take, List.length_replicate, List.length_drop]; omega)) (fun p6 csp6 hpp6 hzp6 hcp6 hq => ?_)
    cases hq
    refine WL.pure rfl rfl rfl ((by first | exact PV.indexAddr hpp6 rfl rfl T.sl86 | exact PV.indexAddr hpp6 rfl (by rw [← hzp6]; rfl) T.sl86)) ?_
    refine WL.pure rfl rfl rfl ((by first | exact PV.loadA T.ag178 rfl (by first | exact Cells.up (by assumption) hB | exact Bx.cells (by assumption) | assumption) (Ext.refl _) rfl | exact PV.loadP (ds := [_, _, _, _]) T.ag178 rfl (by first | exact Cells.up (by assumption) hB | exact Bx.cells (by assumption) | assumption) (Ext.refl _) rfl rfl)) ?_
    refine WL.op rfl (OpK.alloc rfl T.zv178 rfl (fun b63 w75 hXw75 hb63 hge63 => ?_))
    have hl63 := Lo.new hB hge63
    have hd1_63 := Dj.new hb1.ltO hge63
    have hd2_63 := Dj.new hb2.ltO hge63
    have hd3_63 := Dj.new hb3.ltO hge63
    have hd4_63 := Dj.new ho4.ltO hge63
    have hd5_63 := Dj.new ho5.ltO hge63
    have hd6_63 := Dj.new hb6.ltO hge63
    have hd60_63 := Dj.new ho60.ltO hge63
    have hd61_63 := Dj.new ho61.ltO hge63
    have hk1_63 := OkN.new hU1 hge63
    have hg1_63 := OgR.new hU1.size hge63
    have hB := hB.trans hXw75
    have hb1 := hb1.up hXw75
    have hb2 := hb2.up hXw75
    have hb3 := hb3.up hXw75
    have ho4 := ho4.up hXw75
    have ho5 := ho5.up hXw75
    have hb6 := hb6.up hXw75
    have ho60 := ho60.up hXw75
    have ho61 := ho61.up hXw75
    have hU1 := hU1.ext hXw75
    refine WL.op rfl (OpK.storeA T.sz178 rfl rfl rfl rfl (by simp [Value.oneCell'] <;> first | done | (repeat' apply And.intro) <;> first | rfl | exact Inn.one1 (by assumption) (by omega) | exact Osl.oneCell (by assumption) | exact Osn.oneCell (by assumption) | exact Rd.oneCell (by assumption) | exact Rd.oneCell (NL.rd (by assumption)) | assumption) hb63 (fun w76 hXw76 hb63 => ?_))
    have hB := hB.updL hXw76 hl63
    have hb1 := hb1.updD hXw76 hd1_63
    have hb2 := hb2.updD hXw76 hd2_63
    have hb3 := hb3.updD hXw76 hd3_63
    have ho4 := ho4.updD hXw76 hd4_63
    have ho5 := ho5.updD hXw76 hd5_63
    have hb6 := hb6.updD hXw76 hd6_63
    have ho60 := ho60.updD hXw76 hd60_63
    have ho61 := ho61.updD hXw76 hd61_63
    have hU1 := hU1.step hXw76 hk1_63
    refine WL.nilS ?_
    refine CW.seq ?_
    refine CW.reg ?_
    refine WL.pure rfl rfl rfl (PV.fieldAddr T.fl178_0 rfl hb63.cells) ?_
    refine WL.pure rfl rfl rfl (PV.load1 T.na2 rfl hb63.cells (Ext.refl _) rfl) ?_
    refine WL.pure rfl rfl rfl (PV.fieldAddr T.fl88_0 rfl hb1.cells) ?_
    refine WL.pure rfl rfl rfl (PV.load1 T.na2 rfl hb1.cells (Ext.refl _) rfl) ?_
    refine WL.pure rfl rfl rfl (PV.add rfl rfl (by constructor <;> omega)) ?_
    refine WL.pure rfl rfl rfl (PV.eql rfl rfl) ?_
    refine WL.nilS ?_
    refine CW.cond rfl (fun hc10 => ?_) (fun hc10 => ?_)
    · skip
      try simp only [nq] at hc10
      refine CW.reg ?_
      refine WL.pure rfl rfl rfl (PV.fieldAddr T.fl88_2 rfl hb6.cells) ?_
      refine WL.pure rfl rfl rfl (PV.load1 T.na86 rfl hb6.cells (Ext.refl _) rfl) ?_
      refine WL.pure rfl rfl rfl (PV.fieldAddr T.fl178_1 rfl hb63.cells) ?_
      refine WL.pure rfl rfl rfl (PV.load1 T.na2 rfl hb63.cells (Ext.refl _) rfl) ?_
      refine WL.pure rfl rfl rfl (PV.fieldAddr T.fl178_2 rfl hb63.cells) ?_
      refine WL.pure rfl rfl rfl (PV.load1 T.na2 rfl hb63.cells (Ext.refl _) rfl) ?_
      refine WL.pure rfl rfl rfl (PV.fieldAddr T.fl178_3 rfl hb63.cells) ?_
      refine WL.pure rfl rfl rfl (PV.load1 T.na2 rfl hb63.cells (Ext.refl _) rfl) ?_
      refine WL.pure rfl rfl rfl (PV.build (ks := [0, 1, 2, 3]) (os := [.const (.int .i64 0), .tmp 105, .tmp 107, .tmp 109]) (css := [[_], [_], [_], [_]]) (ds := [_, _, _, _]) T.bu178 rfl rfl ⟨rfl, rfl, rfl, rfl, trivial⟩ rfl) ?_
      refine WL.op rfl (OpK.build4 (os := [.tmp 110]) rfl T.sl86 rfl rfl T.zv178 rfl rfl (fun v64 g64 w77 hXw77 ho64 hge64 => ?_))
      have hl64 := Lo.new hB hge64
      have hd1_64 := Dj.new hb1.ltO hge64
      have hd2_64 := Dj.new hb2.ltO hge64
      have hd3_64 := Dj.new hb3.ltO hge64
      have hd4_64 := Dj.new ho4.ltO hge64
      have hd5_64 := Dj.new ho5.ltO hge64
      have hd6_64 := Dj.new hb6.ltO hge64
      have hd60_64 := Dj.new ho60.ltO hge64
      have hd61_64 := Dj.new ho61.ltO hge64
      have hd63_64 := Dj.new hb63.ltO hge64
      have hk1_64 := OkN.new hU1 hge64
      have hg1_64 := OgR.new hU1.size hge64
      have hB := hB.trans hXw77
      have hb1 := hb1.up hXw77
      have hb2 := hb2.up hXw77
      have hb3 := hb3.up hXw77
      have ho4 := ho4.up hXw77
      have ho5 := ho5.up hXw77
      have hb6 := hb6.up hXw77
      have ho60 := ho60.up hXw77
      have ho61 := ho61.up hXw77
      have hb63 := hb63.up hXw77
      have hU1 := hU1.ext hXw77
      refine WL.op rfl (OpK.appendN (g := gR) rfl T.sl86 T.zv178 rfl rfl ho60 rfl (Osn.src ho64) (by first | (simp only [List.length_cons, List.length_nil]; omega) | (simp_all; omega)) (fun v65 og65 w78 hXw78 ho65 hap65 => ?_))
      have hl65 := Lo.app hl60 hB hap65
      have hd1_65 := Dj.app hd1_60 hb1.ltO hap65
      have hd2_65 := Dj.app hd2_60 hb2.ltO hap65
      have hd3_65 := Dj.app hd3_60 hb3.ltO hap65
      have hd4_65 := Dj.app hd4_60 ho4.ltO hap65
      have hd5_65 := Dj.app hd5_60 ho5.ltO hap65
      have hd6_65 := Dj.app hd6_60 hb6.ltO hap65
      have hd61_65 := Dj.app (Dj.symm hd60_61) ho61.ltO hap65
      have hd63_65 := Dj.app (Dj.symm hd60_63) hb63.ltO hap65
      have hd64_65 := Dj.app (Dj.symm hd60_64) ho64.ltO hap65
      have hk1_65 := OkN.app hU1 hk1_60 hap65
      have hg1_65 := OgR.app hg1_60 hU1.size hap65
      have hB := hB.updL hXw78 hl60
      have hb1 := hb1.updD hXw78 hd1_60
      have hb2 := hb2.updD hXw78 hd2_60
      have hb3 := hb3.updD hXw78 hd3_60
      have ho4 := ho4.updD hXw78 hd4_60
      have ho5 := ho5.updD hXw78 hd5_60
      have hb6 := hb6.updD hXw78 hd6_60
      have ho61 := ho61.updD hXw78 (Dj.symm hd60_61)
      have hb63 := hb63.updD hXw78 (Dj.symm hd60_63)
      have ho64 := ho64.updD hXw78 (Dj.symm hd60_64)
      have hU1 := hU1.step hXw78 hk1_60
      refine WL.pure rfl rfl rfl (PV.fieldAddr T.fl88_2 rfl hb6.cells) ?_
      refine WL.op rfl (OpK.storeB T.sz86 rfl rfl (by first | rfl | exact Inn.one1 (by assumption) (by omega) | exact Osl.oneCell (by assumption) | exact Osn.oneCell (by assumption) | exact Rd.oneCell (by assumption) | exact Rd.oneCell (NL.rd (by assumption)) | assumption) hb6 rfl (fun w79 hXw79 hb6 => ?_))
      have hB := hB.updL hXw79 hl6
      have hb1 := hb1.updD hXw79 hd1_6
      have hb2 := hb2.updD hXw79 hd2_6
      have hb3 := hb3.updD hXw79 hd3_6
      have ho4 := ho4.updD hXw79 hd4_6
      have ho5 := ho5.updD hXw79 hd5_6
      have ho61 := ho61.updD hXw79 (Dj.symm hd6_61)
      have hb63 := hb63.updD hXw79 (Dj.symm hd6_63)
      have ho64 := ho64.updD hXw79 (Dj.symm hd6_64)
      have ho65 := ho65.updD hXw79 (Dj.symm hd6_65)
      have hU1 := hU1.step hXw79 hk1_6
      refine WL.nil ?_
      refine NQ.block ?_
      refine NQ.then ?_
      refine CW.reg ?_
      refine WL.pure rfl rfl rfl (PV.add rfl rfl (by constructor <;> omega)) ?_
      refine WL.mv rfl rfl ?_
      refine WL.nil ?_
      refine NQ.next (ρ := [(92, _)]) ⟨rfl, rfl, rfl, rfl, rfl, rfl, trivial⟩ ?_
      exact ⟨_, ⟨v65, og65, v61, og61, k + 1, rfl, rfl, hU1, osnE ho65 (by first | exact frL_yes (by omega) (by omega) rfl | exact frL_no (by omega) (by omega)), (by first | exact hg1_65 | exact OgR.weak hg1_65), osE ho61 (by first | rfl | (simp_all; done) | (simp_all; omega)), (by first | exact hg1_61 | exact OgR.weak hg1_61), bxE hb6 (by first | rfl | (simp_all; done) | (simp_all; omega)), (Dj.symm hd61_65), (by first | omega | assumption | (simp_all; done) | (simp_all; omega))⟩, by omega⟩
    try simp only [nq] at hc10
    refine CW.skip ?_
    refine NQ.block ?_
    refine NQ.then ?_
    refine CW.reg ?_
    refine WL.pure rfl rfl rfl (PV.add rfl rfl (by constructor <;> omega)) ?_
    refine WL.mv rfl rfl ?_
    refine WL.nil ?_
    refine NQ.next (ρ := [(92, _)]) ⟨rfl, rfl, rfl, rfl, rfl, rfl, trivial⟩ ?_
    exact ⟨_, ⟨v60, og60, v61, og61, k + 1, rfl, rfl, hU1, osnE ho60 (by first | exact frL_yes (by omega) (by omega) rfl | exact frL_no (by omega) (by omega)), (by first | exact hg1_60 | exact OgR.weak hg1_60), osE ho61 (by first | rfl | (simp_all; done) | (simp_all; omega)), (by first | exact hg1_61 | exact OgR.weak hg1_61), bxE hb6 (by first | rfl | (simp_all; done) | (simp_all; omega)), hd60_61, (by first | omega | assumption | (simp_all; done) | (simp_all; omega))⟩, by omega⟩
  try simp only [nq] at hc9
  refine CW.exit ?_
  refine XQ.then ?_
  refine XQ.then ?_
  refine XQ.here ?_
  refine NQ.then ?_
  refine CW.seq ?_
  refine CW.reg ?_
  rw [List.take_of_length_le (show (movL (1 + a0) xy2).length ≤ k from by omega), eA_eq] at ho60; rw [eE_eq' ] at ho61
  refine WL.pure rfl rfl rfl (PV.loadA T.ag88 rfl hb6.cells (Ext.refl _) rfl) ?_
  refine WL.op rfl (OpK.call rfl T.cf149 rfl (c_impl_validSided (Osn.rdR ho60) (Osl.rd ho61)) (fun rv18 w80 hR => ?_))
  rcases hR with ⟨hXw80, ⟨hal, rfl⟩ | ⟨hal, rfl⟩⟩
  · skip
    have hB := hB.trans hXw80
    have hb1 := hb1.up hXw80
    have hb2 := hb2.up hXw80
    have hb3 := hb3.up hXw80
    have ho4 := ho4.up hXw80
    have ho5 := ho5.up hXw80
    have hb6 := hb6.up hXw80
    have ho60 := ho60.up hXw80
    have ho61 := ho61.up hXw80
    refine WL.pure rfl rfl rfl (PV.extract rfl rfl) ?_
    refine WL.pure rfl rfl rfl (PV.extract rfl rfl) ?_
    refine WL.op rfl (OpK.storeA T.sz88 rfl rfl rfl rfl (by simp [Value.oneCell'] <;> first | done | (repeat' apply And.intro) <;> first | rfl | exact Inn.one1 (by assumption) (by omega) | exact Osl.oneCell (by assumption) | exact Osn.oneCell (by assumption) | exact Rd.oneCell (by assumption) | exact Rd.oneCell (NL.rd (by assumption)) | assumption) hb3 (fun w81 hXw81 hb3 => ?_))
    have hB := hB.updL hXw81 hl3
    have hb1 := hb1.updD hXw81 hd1_3
    have hb2 := hb2.updD hXw81 hd2_3
    have ho4 := ho4.updD hXw81 (Dj.symm hd3_4)
    have ho5 := ho5.updD hXw81 (Dj.symm hd3_5)
    have hb6 := hb6.updD hXw81 (Dj.symm hd3_6)
    have ho60 := ho60.updD hXw81 (Dj.symm hd3_60)
    have ho61 := ho61.updD hXw81 (Dj.symm hd3_61)
    refine WL.asg rfl rfl ?_
    refine WL.nilS ?_
    refine CW.ret ?_
    refine RQ.rc1 T.ag88 rfl (by first | exact Cells.up (by assumption) hB | exact Bx.cells (by assumption) | assumption) rfl rfl ?_
    refine ⟨hB, v60, og60, v61, og61, ?_, osnE ho60 ?_, hl60, osE ho61 ?_, hl61, hd60_61⟩
    · skip
      first | (have hn : ¬ (bothB a0 a1 xa2 xa3 y0 y1 xy2 xy3) = true := (by first | exact both_n1 (by assumption) | exact both_n2 (by assumption) | exact both_n3 (by omega) | exact both_n6 (by assumption) | exact both_n4 (by assumption)); first | exact tE2 (by rw [onI_no hn, onI_no hn]) (bE (Bool.eq_false_iff.2 hn).symm) | exact tE2 (by rw [onI_no hn, onI_no hn]; rfl) (bE (Bool.eq_false_iff.2 hn).symm)) | (have hy : (bothB a0 a1 xa2 xa3 y0 y1 xy2 xy3) = true := (both_yes (by assumption) (by assumption) (by omega) (by assumption)); first | exact tE2 (by rw [onI_yes hy, onI_yes hy]; rfl) (bE hy.symm) | exact tE2 (by rw [onI_yes hy, onI_yes hy]) (bE hy.symm))
    · skip
      first | (rw [onT_no (by first | exact both_n1 (by assumption) | exact both_n2 (by assumption) | exact both_n3 (by omega) | exact both_n6 (by assumption) | exact both_n4 (by assumption))]; done) | (rw [onT_yes (both_yes (by assumption) (by assumption) (by omega) (by assumption))]; first | done | rfl)
    · skip
      first | (rw [onT_no (by first | exact both_n1 (by assumption) | exact both_n2 (by assumption) | exact both_n3 (by omega) | exact both_n6 (by assumption) | exact both_n4 (by assumption))]; done) | (rw [onT_yes (both_yes (by assumption) (by assumption) (by omega) (by assumption))]; first | done | rfl)
  · skip
    have hB := hB.trans hXw80
    have hb1 := hb1.up hXw80
    have hb2 := hb2.up hXw80
    have hb3 := hb3.up hXw80
    have ho4 := ho4.up hXw80
    have ho5 := ho5.up hXw80
    have hb6 := hb6.up hXw80
    have ho60 := ho60.up hXw80
    have ho61 := ho61.up hXw80
    refine WL.pure rfl rfl rfl (PV.extract rfl rfl) ?_
    refine WL.pure rfl rfl rfl (PV.extract rfl rfl) ?_
    refine WL.op rfl (OpK.storeA T.sz88 rfl rfl rfl rfl (by simp [Value.oneCell'] <;> first | done | (repeat' apply And.intro) <;> first | rfl | exact Inn.one1 (by assumption) (by omega) | exact Osl.oneCell (by assumption) | exact Osn.oneCell (by assumption) | exact Rd.oneCell (by assumption) | exact Rd.oneCell (NL.rd (by assumption)) | assumption) hb3 (fun w82 hXw82 hb3 => ?_))
    have hB := hB.updL hXw82 hl3
    have hb1 := hb1.updD hXw82 hd1_3
    have hb2 := hb2.updD hXw82 hd2_3
    have ho4 := ho4.updD hXw82 (Dj.symm hd3_4)
    have ho5 := ho5.updD hXw82 (Dj.symm hd3_5)
    have hb6 := hb6.updD hXw82 (Dj.symm hd3_6)
    have ho60 := ho60.updD hXw82 (Dj.symm hd3_60)
    have ho61 := ho61.updD hXw82 (Dj.symm hd3_61)
    refine WL.asg rfl rfl ?_
    refine WL.nilS ?_
    refine CW.ret ?_
    refine RQ.rc1 T.ag88 rfl (by first | exact Cells.up (by assumption) hB | exact Bx.cells (by assumption) | assumption) rfl rfl ?_
    refine ⟨hB, (.slice none 0 0), none, (.slice none 0 0), none, ?_, osnE (Osn.nil gR_ok _) ?_, Lo.nl _, osE (Osl.nil _ _) ?_, Lo.nl _, (Dj.nl _)⟩
    · skip
      first | (have hn : ¬ (bothB a0 a1 xa2 xa3 y0 y1 xy2 xy3) = true := (by first | exact both_n1 (by assumption) | exact both_n2 (by assumption) | exact both_n3 (by omega) | exact both_n6 (by assumption) | exact both_n4 (by assumption)); first | exact tE2 (by rw [onI_no hn, onI_no hn]) (bE (Bool.eq_false_iff.2 hn).symm) | exact tE2 (by rw [onI_no hn, onI_no hn]; rfl) (bE (Bool.eq_false_iff.2 hn).symm)) | (have hy : (bothB a0 a1 xa2 xa3 y0 y1 xy2 xy3) = true := (both_yes (by assumption) (by assumption) (by omega) (by assumption)); first | exact tE2 (by rw [onI_yes hy, onI_yes hy]; rfl) (bE hy.symm) | exact tE2 (by rw [onI_yes hy, onI_yes hy]) (bE hy.symm))
    · skip
      first | (rw [onT_no (by first | exact both_n1 (by assumption) | exact both_n2 (by assumption) | exact both_n3 (by omega) | exact both_n6 (by assumption) | exact both_n4 (by assumption))]; done) | (rw [onT_yes (both_yes (by assumption) (by assumption) (by omega) (by assumption))]; first | done | rfl)
    · skip
      first | (rw [onT_no (by first | exact both_n1 (by assumption) | exact both_n2 (by assumption) | exact both_n3 (by omega) | exact both_n6 (by assumption) | exact both_n4 (by assumption))]; done) | (rw [onT_yes (both_yes (by assumption) (by assumption) (by omega) (by assumption))]; first | done | rfl)
theorem c_spec_l05Moved {w : World} {va : Value} {xs : List R4} {q : Int} (ha : Rd ER w va xs) (hv : ∀ i : Nat, i < xs.length → (0 ≤ (xs.getD i (0, 0, 0, 0)).1 ∧ (xs.getD i (0, 0, 0, 0)).1 ≤ 7) ∧ (0 ≤ (xs.getD i (0, 0, 0, 0)).2.1 ∧ (xs.getD i (0, 0, 0, 0)).2.1 ≤ 7)) (hq : 0 ≤ q ∧ q ≤ 9) (hl : xs.length ≤ 48) : Calls Try.prog 155 #[va, .int .i64 q] w (Ret1 (fun v w' => Ext w w' ∧ ∃ u og_u, v = u ∧ Osn 4 gR w' og_u u (movL q xs) ∧ Lo w og_u)) := by
  have hB : Ext w w := Ext.refl w
  have hla := ha.leI
  refine callsOf (vs := [_, _]) Try.func155 rfl Try.ntmps155 rfl rfl ?_
  refine CW.seq ?_
  refine CW.reg ?_
  refine WL.asg rfl rfl ?_
  refine WL.nilS ?_
  refine CW.seq ?_
  refine CW.reg ?_
  refine WL.op rfl (OpK.buildN (g := gR) (os := []) [] gR_ok rfl T.sl86 rfl rfl T.zv178 rfl rfl (fun v1 g1 w1 hXw1 ho1 hge1 => ?_))
  have hl1 := Lo.new hB hge1
  have hB := hB.trans hXw1
  refine WL.asg rfl rfl ?_
  refine WL.nilS ?_
  refine CW.seq ?_
  refine CW.seq ?_
  refine CW.reg ?_
  refine WL.mv rfl rfl ?_
  refine WL.pure rfl rfl rfl ((by first | exact PV.len rfl (by assumption) T.sl86 | exact PV.lenOs rfl (by assumption) T.sl86 | exact PV.len rfl (NL.rd (by assumption)) T.sl86 | exact PV.len rfl (Inn.rd (by assumption) (by omega)) T.sl86)) ?_
  refine WL.mv rfl rfl ?_
  refine WL.nilS ?_
  refine CW.block ?_
  have hlt1 := ho1.ltO
  refine CW.loop (σk := [(0, _), (1, _), (10, _)]) (fun ρ wz m => ∃ (v2 : Value) (og2 : Option Nat) (k : Nat), ρ = [(5, v2), (11, .int .i64 (k : Nat))] ∧ m = xs.length - k ∧ UpdL [(some g1)] w1 wz ∧ Osn 4 gR wz og2 v2 (movL q (xs.take k)) ∧ OgR w1 (some g1) og2 ∧ (k ≤ xs.length)) (ρ₀ := [(5, _), (11, _)]) (m₀ := _) ⟨rfl, rfl, rfl, rfl, rfl, trivial⟩ ⟨v1, (some g1), 0, rfl, rfl, (UpdL.refl _ _), osnE ho1 (by rfl), OgR.refl _ _, (by first | omega | rfl | (simp; done) | assumption | (simp_all; done))⟩ ?_
  rintro _ wl1 _ ⟨v2, og2, k, rfl, rfl, hU0, ho2, ha2, hk⟩
  have hl2 := Lo.ogr hl1 hB ha2
  have hg0_2 := ha2
  have hk0_2 : OkB [(some g1)] w1 og2 := OkB.ogr (OkB.mem (by simp)) (Nat.le_refl _) ha2
  have hB := hB.loop hU0 ⟨hl1, trivial⟩
  have hml := movL_lenK q xs k
  refine CW.seq ?_
  refine CW.reg ?_
  refine WL.pure rfl rfl rfl (PV.lss rfl rfl) ?_
  refine WL.nilS ?_
  refine CW.seq ?_
  refine CW.cond rfl (fun hc1 => ?_) (fun hc1 => ?_)
  · skip
    try simp only [nq] at hc1
    refine CW.skipS ?_
    refine CW.seq ?_
    refine CW.block ?_
    refine CW.seq ?_
    refine CW.reg ?_
    refine WL.mv rfl rfl ?_
    refine WL.asg rfl rfl ?_
    refine WL.nilS ?_
    refine CW.seq ?_
    refine CW.reg ?_
    refine WL.mv rfl rfl ?_
    refine WL.mv rfl rfl ?_
    first
      | refine WL.at (x := .tmp 14) (y := .tmp 15) (E := ER) ((0, 0, 0, 0)) rfl rfl (by first | assumption | exact Inn.rd (by assumption) (by omega)) (by first | omega | (simp only [List.length_set]; omega) | (simp only [List.length_append, List.length_take, List.length_replicate, List.length_drop]; omega)) (fun p1 csp1 hpp1 hcp1 hq => ?_)
      | refine WL.atZ (x := .tmp 14) (y := .tmp 15) (E := ER) ((0, 0, 0, 0)) rfl rfl (by first | assumption | exact Inn.rd (by assumption) (by omega)) (by first | omega | (simp only [List.length_set]; omega) | (simp only [List.length_append, List.length_take, List.length_replicate, List.length_drop]; omega)) (fun p1 csp1 hpp1 hzp1 hcp1 hq => ?_)
    cases hq
    refine WL.pure rfl rfl rfl ((by first | exact PV.indexAddr hpp1 rfl rfl T.sl86 | exact PV.indexAddr hpp1 rfl (by rw [← hzp1]; rfl) T.sl86)) ?_
    refine WL.pure rfl rfl rfl ((by first | exact PV.loadA T.ag178 rfl (by first | exact Cells.up (by assumption) hB | exact Bx.cells (by assumption) | assumption) (Ext.refl _) rfl | exact PV.loadP (ds := [_, _, _, _]) T.ag178 rfl (by first | exact Cells.up (by assumption) hB | exact Bx.cells (by assumption) | assumption) (Ext.refl _) rfl rfl)) ?_
    refine WL.op rfl (OpK.alloc rfl T.zv178 rfl (fun b3 w2 hXw2 hb3 hge3 => ?_))
    have hl3 := Lo.new hB hge3
    have hd2_3 := Dj.new ho2.ltO hge3
    have hk0_3 := OkN.new hU0 hge3
    have hg0_3 := OgR.new hU0.size hge3
    have hB := hB.trans hXw2
    have ho2 := ho2.up hXw2
    have hU0 := hU0.ext hXw2
    refine WL.op rfl (OpK.storeA T.sz178 rfl rfl rfl rfl (by simp [Value.oneCell'] <;> first | done | (repeat' apply And.intro) <;> first | rfl | exact Inn.one1 (by assumption) (by omega) | exact Osl.oneCell (by assumption) | exact Osn.oneCell (by assumption) | exact Rd.oneCell (by assumption) | exact Rd.oneCell (NL.rd (by assumption)) | assumption) hb3 (fun w3 hXw3 hb3 => ?_))
    have hB := hB.updL hXw3 hl3
    have ho2 := ho2.updD hXw3 hd2_3
    have hU0 := hU0.step hXw3 hk0_3
    refine WL.nilS ?_
    refine CW.reg ?_
    have hok := hv k (by omega)
    refine WL.mv rfl rfl ?_
    refine WL.pure rfl rfl rfl (PV.fieldAddr T.fl178_0 rfl hb3.cells) ?_
    refine WL.pure rfl rfl rfl (PV.load1 T.na2 rfl hb3.cells (Ext.refl _) rfl) ?_
    refine WL.mv rfl rfl ?_
    refine WL.pure rfl rfl rfl (PV.add rfl rfl (by constructor <;> omega)) ?_
    refine WL.pure rfl rfl rfl (PV.fieldAddr T.fl178_1 rfl hb3.cells) ?_
    refine WL.pure rfl rfl rfl (PV.load1 T.na2 rfl hb3.cells (Ext.refl _) rfl) ?_
    refine WL.mv rfl rfl ?_
    refine WL.pure rfl rfl rfl (PV.add rfl rfl (by constructor <;> omega)) ?_
    refine WL.pure rfl rfl rfl (PV.fieldAddr T.fl178_2 rfl hb3.cells) ?_
    refine WL.pure rfl rfl rfl (PV.load1 T.na2 rfl hb3.cells (Ext.refl _) rfl) ?_
    refine WL.pure rfl rfl rfl (PV.fieldAddr T.fl178_3 rfl hb3.cells) ?_
    refine WL.pure rfl rfl rfl (PV.load1 T.na2 rfl hb3.cells (Ext.refl _) rfl) ?_
    refine WL.pure rfl rfl rfl (PV.build (ks := [0, 1, 2, 3]) (os := [.tmp 22, .tmp 26, .tmp 28, .tmp 30]) (css := [[_], [_], [_], [_]]) (ds := [_, _, _, _]) T.bu178 rfl rfl ⟨rfl, rfl, rfl, rfl, trivial⟩ rfl) ?_
    refine WL.op rfl (OpK.build4 (os := [.tmp 31]) rfl T.sl86 rfl rfl T.zv178 rfl rfl (fun v4 g4 w4 hXw4 ho4 hge4 => ?_))
    have hl4 := Lo.new hB hge4
    have hd2_4 := Dj.new ho2.ltO hge4
    have hd3_4 := Dj.new hb3.ltO hge4
    have hk0_4 := OkN.new hU0 hge4
    have hg0_4 := OgR.new hU0.size hge4
    have hB := hB.trans hXw4
    have ho2 := ho2.up hXw4
    have hb3 := hb3.up hXw4
    have hU0 := hU0.ext hXw4
    refine WL.op rfl (OpK.appendN (g := gR) rfl T.sl86 T.zv178 rfl rfl ho2 rfl (Osn.src ho4) (by first | (simp only [List.length_cons, List.length_nil]; omega) | (simp_all; omega)) (fun v5 og5 w5 hXw5 ho5 hap5 => ?_))
    have hl5 := Lo.app hl2 hB hap5
    have hd3_5 := Dj.app (Dj.symm hd2_3) hb3.ltO hap5
    have hd4_5 := Dj.app (Dj.symm hd2_4) ho4.ltO hap5
    have hk0_5 := OkN.app hU0 hk0_2 hap5
    have hg0_5 := OgR.app hg0_2 hU0.size hap5
    have hB := hB.updL hXw5 hl2
    have hb3 := hb3.updD hXw5 (Dj.symm hd2_3)
    have ho4 := ho4.updD hXw5 (Dj.symm hd2_4)
    have hU0 := hU0.step hXw5 hk0_2
    refine WL.asg rfl rfl ?_
    refine WL.nil ?_
    refine NQ.block ?_
    refine NQ.then ?_
    refine CW.reg ?_
    refine WL.pure rfl rfl rfl (PV.add rfl rfl (by constructor <;> omega)) ?_
    refine WL.mv rfl rfl ?_
    refine WL.nil ?_
    refine NQ.next (ρ := [(5, _), (11, _)]) ⟨rfl, rfl, rfl, rfl, rfl, trivial⟩ ?_
    exact ⟨_, ⟨v5, og5, k + 1, rfl, rfl, hU0, osnE ho5 (by exact movL_put (by omega) rfl), (by first | exact hg0_5 | exact OgR.weak hg0_5), (by first | omega | assumption | (simp_all; done) | (simp_all; omega))⟩, by omega⟩
  try simp only [nq] at hc1
  refine CW.exit ?_
  refine XQ.then ?_
  refine XQ.then ?_
  refine XQ.here ?_
  refine NQ.then ?_
  refine CW.seq ?_
  refine CW.reg ?_
  refine WL.mv rfl rfl ?_
  refine WL.asg rfl rfl ?_
  refine WL.nilS ?_
  refine CW.ret ?_
  refine RQ.r1 rfl ?_
  refine ⟨hB, v2, og2, ?_, osnE ho2 ?_, hl2⟩
  · skip
    rfl
  · skip
    exact movL_all (by omega)

end Go.Proofs.Ythemmoceomdccaa
