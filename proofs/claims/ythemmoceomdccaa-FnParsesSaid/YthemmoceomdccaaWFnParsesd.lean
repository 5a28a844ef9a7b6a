/- Walks of the functions that the law FnParses reaches: each says what its function computes. No condition. -/
import Derived.Test.YthemmoceomdccaaProg
import Derived.Test.YthemmoceomdccaaLibM
import Derived.Test.YthemmoceomdccaaPlA
import Derived.Test.YthemmoceomdccaaLibN
import Derived.Test.YthemmoceomdccaaLibO
import Derived.Test.YthemmoceomdccaaLibG2
import Derived.Test.YthemmoceomdccaaPlG
import Derived.Test.YthemmoceomdccaaPlX
import Derived.Test.YthemmoceomdccaaLibR
import Derived.Test.YthemmoceomdccaaPlD
import Derived.Test.YthemmoceomdccaaPlB
import Derived.Test.YthemmoceomdccaaPlH
import Derived.Test.YthemmoceomdccaaPlI
import Derived.Test.YthemmoceomdccaaPlJ
import Derived.Test.YthemmoceomdccaaPlE
import Derived.Test.YthemmoceomdccaaPlC
import Derived.Test.YthemmoceomdccaaPlW
import Derived.Test.YthemmoceomdccaaPlU
import Derived.Test.YthemmoceomdccaaPlY
import Derived.Test.YthemmoceomdccaaPlR
import Derived.Test.YthemmoceomdccaaPlDq
import Derived.Test.YthemmoceomdccaaPlRa
import Derived.Test.YthemmoceomdccaaPlPa
import Derived.Test.YthemmoceomdccaaPlPb
import Derived.Test.YthemmoceomdccaaPlPc
import Derived.Test.YthemmoceomdccaaPlPd
import Derived.Test.YthemmoceomdccaaPlPe
import Derived.Test.YthemmoceomdccaaPlPf
import Derived.Test.YthemmoceomdccaaPlPg
import Derived.Test.YthemmoceomdccaaWFnParsesc
namespace Go.Proofs.Ythemmoceomdccaa
open Go Go.WX Go.Proofs
set_option linter.unusedSimpArgs false
set_option linter.unusedVariables false

theorem c_impl_CheapWord {w : World} {a0 : Int} {a1 : Int} {va2 : Value} {xa2 : List R4}  (ha2 : Rd ER w va2 xa2) : Calls Try.prog 35 #[.agg #[.int .i64 a0, .int .i64 a1, va2]] w (Ret1 (fun v w' => Ext w w' ∧ ∃ u og_u, v = .tuple #[u, .int .i64 (onI (cheapB a0 a1 xa2) ((allC a0 xa2).2.getD (0 : Int).toNat 0)), .bool (cheapB a0 a1 xa2)] ∧ Osl VI w' og_u u (onT (cheapB a0 a1 xa2) (wordW xa2 (allC a0 xa2).1 0)) ∧ Lo w og_u)) := by
  have hB : Ext w w := Ext.refl w
  have hla2 := ha2.leI
  refine callsOf (vs := [_]) Try.func35 rfl Try.ntmps35 rfl rfl ?_
  refine CW.seq ?_
  refine CW.reg ?_
  refine WL.op rfl (OpK.box rfl rfl (by first | exact Rd.cells1 (by assumption) | exact Osl.cells1 (by assumption) | exact Osn.cells1 (by assumption) | exact Rd.cells1 (NL.rd (by assumption)) | exact Inn.cell1 (by assumption) (by omega) | assumption | rfl) (fun b1 w1 hXw1 hb1 hge1 => ?_))
  have hl1 := Lo.new hB hge1
  have hB := hB.trans hXw1
  refine WL.asg rfl rfl ?_
  refine WL.asg rfl rfl ?_
  refine WL.asg rfl rfl ?_
  refine WL.nilS ?_
  refine CW.seq ?_
  refine CW.seq ?_
  refine CW.reg ?_
  refine WL.pure rfl rfl rfl (PV.loadA T.ag33 rfl hb1.cells (Ext.refl _) rfl) ?_
  refine WL.op rfl (OpK.callR rfl T.cf103 rfl (c_impl_ValidGrammar (by first | assumption | exact Rd.up (by assumption) hB | exact Osl.rd (by assumption) | exact Osn.rdR (by assumption))) (fun w2 hXw2 => ?_))
  have hB := hB.trans hXw2
  have hb1 := hb1.up hXw2
  refine WL.pure rfl rfl rfl (PV.not rfl) ?_
  refine WL.nilS ?_
  refine CW.cond rfl (fun hc1 => ?_) (fun hc1 => ?_)
  · skip
    try simp only [nq] at hc1
    refine CW.seq ?_
    refine CW.reg ?_
    refine WL.asg rfl rfl ?_
    refine WL.asg rfl rfl ?_
    refine WL.asg rfl rfl ?_
    refine WL.nilS ?_
    refine CW.ret ?_
    refine RQ.then ?_
    refine RQ.r3 rfl rfl rfl ?_
    refine ⟨hB, (.slice none 0 0), none, ?_, osE (Osl.nil _ _) ?_, Lo.nl _⟩
    · skip
      first | (exact t3E rfl (by rw [onI_no (by first | exact cheap_n1 (by assumption) | exact cheap_n2 (by omega) | exact cheap_n3 (by omega))]) (bE (Bool.eq_false_iff.2 (by first | exact cheap_n1 (by assumption) | exact cheap_n2 (by omega) | exact cheap_n3 (by omega))).symm)) | (exact t3E rfl (by first | (rw [onI_yes (cheap_yes (by assumption) (by omega) (by omega))]; done) | (rw [onI_yes (cheap_yes (by assumption) (by omega) (by omega))]; rfl)) (bE (cheap_yes (by assumption) (by omega) (by omega)).symm))
    · skip
      first | (rw [onT_no (by first | exact cheap_n1 (by assumption) | exact cheap_n2 (by omega) | exact cheap_n3 (by omega))]; done) | (rw [onT_yes (cheap_yes (by assumption) (by omega) (by omega))]; first | done | rfl | (rw [List.take_of_length_le (by simp only [List.nil_append]; omega)]; rfl))
  try simp only [nq] at hc1
  refine CW.skipS ?_
  refine CW.seq ?_
  refine CW.reg ?_
  refine WL.pure rfl rfl rfl (PV.loadA T.ag33 rfl hb1.cells (Ext.refl _) rfl) ?_
  refine WL.op rfl (OpK.call rfl T.cf118 rfl (c_impl_Grammar_cheapest (by first | assumption | exact Rd.up (by assumption) hB | exact Osl.rd (by assumption) | exact Osn.rdR (by assumption)) (by first | assumption | omega | (simp only [marks_len]; omega))) (fun rv1 w3 hR => ?_))
  obtain ⟨hXw3, v2, og2, v3, og3, rfl, ho2, hq2, ho3, hq3, hd2_3⟩ := hR
  have hl2 := Lo.up hq2 hB
  have hd1_2 := Dj.lo hb1.ltO hq2
  have hl3 := Lo.up hq3 hB
  have hd1_3 := Dj.lo hb1.ltO hq3
  have hB := hB.trans hXw3
  have hb1 := hb1.up hXw3
  refine WL.mv rfl rfl ?_
  refine WL.pure rfl rfl rfl (PV.extract rfl rfl) ?_
  refine WL.pure rfl rfl rfl (PV.extract rfl rfl) ?_
  refine WL.asg rfl rfl ?_
  refine WL.asg rfl rfl ?_
  refine WL.nilS ?_
  refine CW.seq ?_
  refine CW.seq ?_
  refine CW.reg ?_
  have hg : gramV a0 a1 xa2 := (by assumption); have hg1 := hg.1; obtain ⟨tc, hI⟩ := allC_inv hg; have hs0 := hI.same (0 : Int).toNat (by omega); have hL1 := hI.l1; have hL2 := hI.l2; obtain ⟨dd, hD⟩ := dagC hg; have hdle := hD.le 0; have hp8 := pow_le256 (k := dd 0) (by omega)
  refine WL.mv rfl rfl ?_
  first
    | refine WL.atO (x := .tmp 16) (y := .const (.int .i64 0)) (f := VI) (0) rfl rfl ho3 (by omega) (fun p1 hpp1 hcp1 => ?_)
    | refine WL.atOZ (x := .tmp 16) (y := .const (.int .i64 0)) (f := VI) (0) rfl rfl ho3 (by omega) (fun p1 hpp1 hzp1 hcp1 => ?_)
  refine WL.pure rfl rfl rfl ((by first | exact PV.indexAddr hpp1 rfl rfl T.sl28 | exact PV.indexAddr hpp1 rfl (by rw [← hzp1]; rfl) T.sl28)) ?_
  refine WL.pure rfl rfl rfl ((by first | exact PV.load0 T.na2 rfl (by first | exact Cells.up (by assumption) hB | exact Bx.cells (by assumption) | assumption) (Ext.refl _) rfl | exact PV.load1 T.na2 rfl (by first | exact Cells.up (by assumption) hB | exact Bx.cells (by assumption) | assumption) (Ext.refl _) rfl)) ?_
  refine WL.pure rfl rfl rfl (PV.lss rfl rfl) ?_
  refine WL.nilS ?_
  refine CW.cond rfl (fun hc2 => ?_) (fun hc2 => ?_)
  · skip
    try simp only [nq] at hc2
    refine CW.seq ?_
    refine CW.reg ?_
    refine WL.asg rfl rfl ?_
    refine WL.asg rfl rfl ?_
    refine WL.asg rfl rfl ?_
    refine WL.nilS ?_
    refine CW.ret ?_
    refine RQ.then ?_
    refine RQ.r3 rfl rfl rfl ?_
    refine ⟨hB, (.slice none 0 0), none, ?_, osE (Osl.nil _ _) ?_, Lo.nl _⟩
    · skip
      first | (exact t3E rfl (by rw [onI_no (by first | exact cheap_n1 (by assumption) | exact cheap_n2 (by omega) | exact cheap_n3 (by omega))]) (bE (Bool.eq_false_iff.2 (by first | exact cheap_n1 (by assumption) | exact cheap_n2 (by omega) | exact cheap_n3 (by omega))).symm)) | (exact t3E rfl (by first | (rw [onI_yes (cheap_yes (by assumption) (by omega) (by omega))]; done) | (rw [onI_yes (cheap_yes (by assumption) (by omega) (by omega))]; rfl)) (bE (cheap_yes (by assumption) (by omega) (by omega)).symm))
    · skip
      first | (rw [onT_no (by first | exact cheap_n1 (by assumption) | exact cheap_n2 (by omega) | exact cheap_n3 (by omega))]; done) | (rw [onT_yes (cheap_yes (by assumption) (by omega) (by omega))]; first | done | rfl | (rw [List.take_of_length_le (by simp only [List.nil_append]; omega)]; rfl))
  try simp only [nq] at hc2
  refine CW.skipS ?_
  refine CW.seq ?_
  refine CW.reg ?_
  have hru3 := Osl.rd ho2; have hrr3 := Rd.up ha2 hB
  refine WL.pure rfl rfl rfl (PV.loadA T.ag33 rfl hb1.cells (Ext.refl _) rfl) ?_
  refine WL.mv rfl rfl ?_
  have ho5 : Osl VI w3 none (.slice none 0 0) [] := (Osl.nil _ _)
  have hl5 : Lo w none := Lo.nl _
  have hd1_5 : Dj (some b1.block) none := Dj.nlR _
  have hd2_5 : Dj og2 none := Dj.nlR _
  have hd3_5 : Dj og3 none := Dj.nlR _
  refine WL.op rfl (OpK.call rfl T.cf119 rfl (c_impl_Grammar_wordOf (b := w3) (Ext.refl _) ho5 (Lo.nl _) hrr3 hru3 hD (by omega) (by omega) (by show 0 ≤ (allC a0 xa2).1.getD (0 : Int).toNat 0; omega) (by simp; omega)) (fun rv2 w4 hR => ?_))
  have hlt1 := hb1.ltO
  have hlt2 := ho2.ltO
  have hlt3 := ho3.ltO
  have hlt5 := ho5.ltO
  obtain ⟨hUC4, v6, og6, rfl, ho6, hr6⟩ := hR
  have hl6 := Lo.ogr hl5 hB hr6
  have hd1_6 := Dj.ogr hd1_5 hlt1 hr6
  have hd2_6 := Dj.ogr hd2_5 hlt2 hr6
  have hd3_6 := Dj.ogr hd3_5 hlt3 hr6
  have hb1 := hb1.loop hUC4 ⟨hd1_5, trivial⟩
  have ho2 := ho2.loop hUC4 ⟨hd2_5, trivial⟩
  have ho3 := ho3.loop hUC4 ⟨hd3_5, trivial⟩
  have hB := hB.loop hUC4 ⟨hl5, trivial⟩
  refine WL.asg rfl rfl ?_
  refine WL.nilS ?_
  refine CW.seq ?_
  refine CW.seq ?_
  refine CW.reg ?_
  have hcm : ([] ++ (wordW xa2 (allC a0 xa2).1 0) : List Int).length = (wordW xa2 (allC a0 xa2).1 0).length := by simp
  refine WL.mv rfl rfl ?_
  refine WL.pure rfl rfl rfl ((PV.lenOs rfl ho6 T.sl28)) ?_
  refine WL.pure rfl rfl rfl (PV.gtr rfl rfl) ?_
  refine WL.nilS ?_
  refine CW.cond rfl (fun hc3 => ?_) (fun hc3 => ?_)
  · skip
    try simp only [nq] at hc3
    refine CW.seq ?_
    refine CW.reg ?_
    refine WL.asg rfl rfl ?_
    refine WL.asg rfl rfl ?_
    refine WL.asg rfl rfl ?_
    refine WL.nilS ?_
    refine CW.ret ?_
    refine RQ.then ?_
    refine RQ.r3 rfl rfl rfl ?_
    refine ⟨hB, (.slice none 0 0), none, ?_, osE (Osl.nil _ _) ?_, Lo.nl _⟩
    · skip
      first | (exact t3E rfl (by rw [onI_no (by first | exact cheap_n1 (by assumption) | exact cheap_n2 (by omega) | exact cheap_n3 (by omega))]) (bE (Bool.eq_false_iff.2 (by first | exact cheap_n1 (by assumption) | exact cheap_n2 (by omega) | exact cheap_n3 (by omega))).symm)) | (exact t3E rfl (by first | (rw [onI_yes (cheap_yes (by assumption) (by omega) (by omega))]; done) | (rw [onI_yes (cheap_yes (by assumption) (by omega) (by omega))]; rfl)) (bE (cheap_yes (by assumption) (by omega) (by omega)).symm))
    · skip
      first | (rw [onT_no (by first | exact cheap_n1 (by assumption) | exact cheap_n2 (by omega) | exact cheap_n3 (by omega))]; done) | (rw [onT_yes (cheap_yes (by assumption) (by omega) (by omega))]; first | done | rfl | (rw [List.take_of_length_le (by simp only [List.nil_append]; omega)]; rfl))
  try simp only [nq] at hc3
  refine CW.skipS ?_
  refine CW.seq ?_
  refine CW.draw T.mixed (by kernel_rfl) (fun _ _ _ _ _ h => h) (fun w8 w9 => Upd none w8 w9) 7 (.take 0 (.take 1 (.take 2 (.take 3 (.take 4 (.take 5 (.take 6 .done))))))) (by kernel_rfl) (fun w5 hXd => ?_)
  have hB := hB.trans hXd
  have hb1 := hb1.up hXd
  have ho2 := ho2.up hXd
  have ho3 := ho3.up hXd
  have ho6 := ho6.up hXd
  have hBr := hB
  have hS : Upd none w5 w5 := Ext.toUpd (Ext.refl _)
  refine HP.take rfl rfl rfl rfl hS (fun wS hS1 => PV.move rfl) ?_
  refine HP.take rfl rfl rfl rfl hS (fun wS hS1 => PV.move rfl) ?_
  first
    | refine HP.atO (wb := w5) (x := .tmp 27) (y := .const (.int .i64 0)) (f := VI) (0) rfl rfl (by assumption) (by omega) (fun p2 hpp2 hcp2 => ?_)
    | refine HP.atOZ (wb := w5) (x := .tmp 27) (y := .const (.int .i64 0)) (f := VI) (0) rfl rfl (by assumption) (by omega) (fun p2 hpp2 hzp2 hcp2 => ?_)
  refine HP.take rfl rfl rfl rfl hS (fun wS hS1 => (by first | exact PV.indexAddr hpp2 rfl rfl T.sl28 | exact PV.indexAddr hpp2 rfl (by rw [← hzp2]; rfl) T.sl28)) ?_
  refine HP.take rfl rfl rfl rfl hS (fun wS hS1 => (by first | exact PV.load0 T.na2 rfl (by first | exact Cells.up (by assumption) (hBr.trans hS1) | exact Bx.cells (Bx.updD (by assumption) hS1 (Dj.nlR _)) | exact Cells.upd (by assumption) hS1 (by simp)) (Ext.refl _) rfl | exact PV.load1 T.na2 rfl (by first | exact Cells.up (by assumption) (hBr.trans hS1) | exact Bx.cells (Bx.updD (by assumption) hS1 (Dj.nlR _)) | exact Cells.upd (by assumption) hS1 (by simp)) (Ext.refl _) rfl)) ?_
  refine HP.take rfl rfl rfl rfl hS (fun wS hS1 => PV.assign rfl) ?_
  refine HP.take rfl rfl rfl rfl hS (fun wS hS1 => PV.assign rfl) ?_
  refine HP.take rfl rfl rfl rfl hS (fun wS hS1 => PV.assign rfl) ?_
  refine HP.doneS ?_
  refine CW.ret ?_
  refine RQ.r3 rfl rfl rfl ?_
  refine ⟨hB, rv2, og6, ?_, osE ho6 ?_, hl6⟩
  · skip
    first | (exact t3E rfl (by rw [onI_no (by first | exact cheap_n1 (by assumption) | exact cheap_n2 (by omega) | exact cheap_n3 (by omega))]) (bE (Bool.eq_false_iff.2 (by first | exact cheap_n1 (by assumption) | exact cheap_n2 (by omega) | exact cheap_n3 (by omega))).symm)) | (exact t3E rfl (by first | (rw [onI_yes (cheap_yes (by assumption) (by omega) (by omega))]; done) | (rw [onI_yes (cheap_yes (by assumption) (by omega) (by omega))]; rfl)) (bE (cheap_yes (by assumption) (by omega) (by omega)).symm))
  · skip
    first | (rw [onT_no (by first | exact cheap_n1 (by assumption) | exact cheap_n2 (by omega) | exact cheap_n3 (by omega))]; done) | (rw [onT_yes (cheap_yes (by assumption) (by omega) (by omega))]; first | done | rfl | (rw [List.take_of_length_le (by simp only [List.nil_append]; omega)]; rfl))
theorem c_impl_UsefulRules_1 {w : World} {a0 a1 a2 a3 : Int} {pc : Addr} {vc : Value} {co : List Int} (hbc : Cells w pc [vc]) (hc : Rd EI w vc co) (h1 : 0 ≤ a2 → (0 ≤ a1 ∧ a1 < co.length) ∧ a2 < co.length) : Calls Try.prog 120 #[.agg #[.int .i64 a0, .int .i64 a1, .int .i64 a2, .int .i64 a3], .pointer (some pc)] w (Ret1 (RQt (.bool (worksC co (a0, a1, a2, a3))) w)) := by
  have hB : Ext w w := Ext.refl w
  refine callsOf (vs := [_, _]) Try.func120 rfl Try.ntmps120 rfl rfl ?_
  refine CW.seq ?_
  refine CW.reg ?_
  refine WL.op rfl (OpK.box rfl rfl (by first | exact Rd.cells1 (by assumption) | exact Osl.cells1 (by assumption) | exact Osn.cells1 (by assumption) | exact Rd.cells1 (NL.rd (by assumption)) | exact Inn.cell1 (by assumption) (by omega) | assumption | rfl) (fun b1 w1 hXw1 hb1 hge1 => ?_))
  have hl1 := Lo.new hB hge1
  have hB := hB.trans hXw1
  refine WL.asg rfl rfl ?_
  refine WL.nilS ?_
  refine CW.seq ?_
  refine CW.reg ?_
  refine WL.pure rfl rfl rfl (PV.fieldAddr T.fl56_2 rfl hb1.cells) ?_
  refine WL.pure rfl rfl rfl (PV.load1 T.na2 rfl hb1.cells (Ext.refl _) rfl) ?_
  refine WL.pure rfl rfl rfl (PV.lss rfl rfl) ?_
  refine WL.mv rfl rfl ?_
  refine WL.split (t := 7) rfl (fun hc1 => ?_) (fun hc1 => ?_)
  · skip
    try simp only [nq] at hc1
    refine WL.skip rfl rfl rfl rfl rfl ?_
    refine WL.skip rfl rfl rfl rfl rfl ?_
    refine WL.skip rfl rfl rfl rfl rfl ?_
    refine WL.skip rfl rfl rfl rfl rfl ?_
    refine WL.skip rfl rfl rfl rfl rfl ?_
    refine WL.skip rfl rfl rfl rfl rfl ?_
    refine WL.skip rfl rfl rfl rfl rfl ?_
    refine WL.skipU rfl rfl rfl rfl rfl ?_
    refine WL.skipU rfl rfl rfl rfl rfl ?_
    refine WL.skipU rfl rfl rfl rfl rfl ?_
    refine WL.skipU rfl rfl rfl rfl rfl ?_
    refine WL.skipU rfl rfl rfl rfl rfl ?_
    refine WL.skipU rfl rfl rfl rfl rfl ?_
    refine WL.skip rfl rfl rfl rfl rfl ?_
    refine WL.pure rfl rfl rfl (PV.pickT rfl rfl) ?_
    refine WL.asg rfl rfl ?_
    refine WL.nilS ?_
    refine CW.ret ?_
    refine RQ.r1 rfl ?_
    refine ⟨?_, hB⟩
    first | exact bE (worksC_yes (r := (a0, a1, a2, a3)) (show a2 < 0 ∨ (0 ≤ co.getD a1.toNat 0 ∧ 0 ≤ co.getD a2.toNat 0) by omega)).symm | exact bE (decide_eq_false (p := (a2 < 0 ∨ (0 ≤ co.getD a1.toNat 0 ∧ 0 ≤ co.getD a2.toNat 0))) (by omega)).symm | exact bE (by unfold worksC; rw [decide_eq_decide]; show _ ↔ (a2 < 0 ∨ (0 ≤ co.getD a1.toNat 0 ∧ 0 ≤ co.getD a2.toNat 0)); omega)
  try simp only [nq] at hc1
  refine WL.pureG rfl rfl rfl rfl rfl ((by first | exact PV.load0 T.na28 rfl (by first | exact Cells.up (by assumption) hB | exact Bx.cells (by assumption) | assumption) (Ext.refl _) rfl | exact PV.load1 T.na28 rfl (by first | exact Cells.up (by assumption) hB | exact Bx.cells (by assumption) | assumption) (Ext.refl _) rfl)) ?_
  refine WL.pureG rfl rfl rfl rfl rfl (PV.fieldAddr T.fl56_1 rfl hb1.cells) ?_
  refine WL.pureG rfl rfl rfl rfl rfl (PV.load1 T.na2 rfl hb1.cells (Ext.refl _) rfl) ?_
  first
    | refine WL.at (x := .tmp 8) (y := .tmp 10) (E := EI) (0) rfl rfl (by first | assumption | exact Inn.rd (by assumption) (by omega)) (by omega) (fun p1 csp1 hpp1 hcp1 hq => ?_)
    | refine WL.atZ (x := .tmp 8) (y := .tmp 10) (E := EI) (0) rfl rfl (by first | assumption | exact Inn.rd (by assumption) (by omega)) (by omega) (fun p1 csp1 hpp1 hzp1 hcp1 hq => ?_)
  cases hq
  refine WL.pureG rfl rfl rfl rfl rfl ((by first | exact PV.indexAddr hpp1 rfl rfl T.sl28 | exact PV.indexAddr hpp1 rfl (by rw [← hzp1]; rfl) T.sl28)) ?_
  refine WL.pureG rfl rfl rfl rfl rfl ((by first | exact PV.load0 T.na2 rfl (by first | exact Cells.up (by assumption) hB | exact Bx.cells (by assumption) | assumption) (Ext.refl _) rfl | exact PV.load1 T.na2 rfl (by first | exact Cells.up (by assumption) hB | exact Bx.cells (by assumption) | assumption) (Ext.refl _) rfl)) ?_
  refine WL.pureG rfl rfl rfl rfl rfl (PV.geq rfl rfl) ?_
  refine WL.pureG rfl rfl rfl rfl rfl (PV.move rfl) ?_
  refine WL.split (t := 14) rfl (fun hc2 => ?_) (fun hc2 => ?_)
  rotate_left
  · skip
    try simp only [nq] at hc2
    refine WL.skip rfl rfl rfl rfl rfl ?_
    refine WL.skip rfl rfl rfl rfl rfl ?_
    refine WL.skip rfl rfl rfl rfl rfl ?_
    refine WL.skip rfl rfl rfl rfl rfl ?_
    refine WL.skip rfl rfl rfl rfl rfl ?_
    refine WL.skip rfl rfl rfl rfl rfl ?_
    refine WL.pureG rfl rfl rfl rfl rfl (PV.pickF rfl rfl) ?_
    refine WL.pure rfl rfl rfl (PV.pickF rfl rfl) ?_
    refine WL.asg rfl rfl ?_
    refine WL.nilS ?_
    refine CW.ret ?_
    refine RQ.r1 rfl ?_
    refine ⟨?_, hB⟩
    first | exact bE (worksC_yes (r := (a0, a1, a2, a3)) (show a2 < 0 ∨ (0 ≤ co.getD a1.toNat 0 ∧ 0 ≤ co.getD a2.toNat 0) by omega)).symm | exact bE (decide_eq_false (p := (a2 < 0 ∨ (0 ≤ co.getD a1.toNat 0 ∧ 0 ≤ co.getD a2.toNat 0))) (by omega)).symm | exact bE (by unfold worksC; rw [decide_eq_decide]; show _ ↔ (a2 < 0 ∨ (0 ≤ co.getD a1.toNat 0 ∧ 0 ≤ co.getD a2.toNat 0)); omega)
  try simp only [nq] at hc2
  refine WL.pureG rfl rfl rfl rfl rfl ((by first | exact PV.load0 T.na28 rfl (by first | exact Cells.up (by assumption) hB | exact Bx.cells (by assumption) | assumption) (Ext.refl _) rfl | exact PV.load1 T.na28 rfl (by first | exact Cells.up (by assumption) hB | exact Bx.cells (by assumption) | assumption) (Ext.refl _) rfl)) ?_
  refine WL.pureG rfl rfl rfl rfl rfl (PV.fieldAddr T.fl56_2 rfl hb1.cells) ?_
  refine WL.pureG rfl rfl rfl rfl rfl (PV.load1 T.na2 rfl hb1.cells (Ext.refl _) rfl) ?_
  first
    | refine WL.at (x := .tmp 15) (y := .tmp 17) (E := EI) (0) rfl rfl (by first | assumption | exact Inn.rd (by assumption) (by omega)) (by omega) (fun p2 csp2 hpp2 hcp2 hq => ?_)
    | refine WL.atZ (x := .tmp 15) (y := .tmp 17) (E := EI) (0) rfl rfl (by first | assumption | exact Inn.rd (by assumption) (by omega)) (by omega) (fun p2 csp2 hpp2 hzp2 hcp2 hq => ?_)
  cases hq
  refine WL.pureG rfl rfl rfl rfl rfl ((by first | exact PV.indexAddr hpp2 rfl rfl T.sl28 | exact PV.indexAddr hpp2 rfl (by rw [← hzp2]; rfl) T.sl28)) ?_
  refine WL.pureG rfl rfl rfl rfl rfl ((by first | exact PV.load0 T.na2 rfl (by first | exact Cells.up (by assumption) hB | exact Bx.cells (by assumption) | assumption) (Ext.refl _) rfl | exact PV.load1 T.na2 rfl (by first | exact Cells.up (by assumption) hB | exact Bx.cells (by assumption) | assumption) (Ext.refl _) rfl)) ?_
  refine WL.pureG rfl rfl rfl rfl rfl (PV.geq rfl rfl) ?_
  refine WL.pureG rfl rfl rfl rfl rfl (PV.pickT rfl rfl) ?_
  refine WL.pure rfl rfl rfl (PV.pickF rfl rfl) ?_
  refine WL.asg rfl rfl ?_
  refine WL.nilS ?_
  refine CW.ret ?_
  refine RQ.r1 rfl ?_
  refine ⟨?_, hB⟩
  first | exact bE (worksC_yes (r := (a0, a1, a2, a3)) (show a2 < 0 ∨ (0 ≤ co.getD a1.toNat 0 ∧ 0 ≤ co.getD a2.toNat 0) by omega)).symm | exact bE (decide_eq_false (p := (a2 < 0 ∨ (0 ≤ co.getD a1.toNat 0 ∧ 0 ≤ co.getD a2.toNat 0))) (by omega)).symm | exact bE (by unfold worksC; rw [decide_eq_decide]; show _ ↔ (a2 < 0 ∨ (0 ≤ co.getD a1.toNat 0 ∧ 0 ≤ co.getD a2.toNat 0)); omega)
theorem c_impl_UsefulRules {w : World} {a0 : Int} {a1 : Int} {va2 : Value} {xa2 : List R4}  (ha2 : Rd ER w va2 xa2) : Calls Try.prog 36 #[.agg #[.int .i64 a0, .int .i64 a1, va2]] w (Ret1 (fun v w' => Ext w w' ∧ ∃ u og_u, v = .tuple #[u, .bool (gramB a0 a1 xa2)] ∧ Osl VI w' og_u u (onT (gramB a0 a1 xa2) (usefL a0 xa2)) ∧ Lo w og_u)) := by
  have hB : Ext w w := Ext.refl w
  have hla2 := ha2.leI
  refine callsOf (vs := [_]) Try.func36 rfl Try.ntmps36 rfl rfl ?_
  refine CW.seq ?_
  refine CW.reg ?_
  refine WL.op rfl (OpK.box rfl rfl (by first | exact Rd.cells1 (by assumption) | exact Osl.cells1 (by assumption) | exact Osn.cells1 (by assumption) | exact Rd.cells1 (NL.rd (by assumption)) | exact Inn.cell1 (by assumption) (by omega) | assumption | rfl) (fun b1 w1 hXw1 hb1 hge1 => ?_))
  have hl1 := Lo.new hB hge1
  have hB := hB.trans hXw1
  refine WL.asg rfl rfl ?_
  refine WL.asg rfl rfl ?_
  refine WL.nilS ?_
  refine CW.seq ?_
  refine CW.seq ?_
  refine CW.reg ?_
  refine WL.pure rfl rfl rfl (PV.loadA T.ag33 rfl hb1.cells (Ext.refl _) rfl) ?_
  refine WL.op rfl (OpK.callR rfl T.cf103 rfl (c_impl_ValidGrammar (by first | assumption | exact Rd.up (by assumption) hB | exact Osl.rd (by assumption) | exact Osn.rdR (by assumption))) (fun w2 hXw2 => ?_))
  have hB := hB.trans hXw2
  have hb1 := hb1.up hXw2
  refine WL.pure rfl rfl rfl (PV.not rfl) ?_
  refine WL.nilS ?_
  refine CW.cond rfl (fun hc1 => ?_) (fun hc1 => ?_)
  · skip
    try simp only [nq] at hc1
    refine CW.seq ?_
    refine CW.reg ?_
    refine WL.asg rfl rfl ?_
    refine WL.asg rfl rfl ?_
    refine WL.nilS ?_
    refine CW.ret ?_
    refine RQ.then ?_
    refine RQ.r2 rfl rfl ?_
    refine ⟨hB, (.slice none 0 0), none, ?_, osE (Osl.nil _ _) ?_, Lo.nl _⟩
    · skip
      first | exact tE2 rfl (bE (gramB_yes (by assumption)).symm) | exact tE2 rfl (bE (Bool.eq_false_iff.2 (gramB_no (by assumption))).symm)
    · skip
      first | (rw [onT_no (gramB_no (by assumption))]; done) | (rw [onT_yes (gramB_yes (by assumption))]; unfold usefL; first | done | rfl)
  try simp only [nq] at hc1
  refine CW.skipS ?_
  refine CW.seq ?_
  refine CW.reg ?_
  refine WL.pure rfl rfl rfl (PV.loadA T.ag33 rfl hb1.cells (Ext.refl _) rfl) ?_
  refine WL.op rfl (OpK.call rfl T.cf118 rfl (c_impl_Grammar_cheapest (by first | assumption | exact Rd.up (by assumption) hB | exact Osl.rd (by assumption) | exact Osn.rdR (by assumption)) (by first | assumption | omega | (simp only [marks_len]; omega))) (fun rv1 w3 hR => ?_))
  obtain ⟨hXw3, v2, og2, v3, og3, rfl, ho2, hq2, ho3, hq3, hd2_3⟩ := hR
  have hl2 := Lo.up hq2 hB
  have hd1_2 := Dj.lo hb1.ltO hq2
  have hl3 := Lo.up hq3 hB
  have hd1_3 := Dj.lo hb1.ltO hq3
  have hB := hB.trans hXw3
  have hb1 := hb1.up hXw3
  refine WL.mv rfl rfl ?_
  refine WL.pure rfl rfl rfl (PV.extract rfl rfl) ?_
  refine WL.pure rfl rfl rfl (PV.extract rfl rfl) ?_
  refine WL.op rfl (OpK.alloc rfl T.zv28 rfl (fun b4 w4 hXw4 hb4 hge4 => ?_))
  have hl4 := Lo.new hB hge4
  have hd1_4 := Dj.new hb1.ltO hge4
  have hd2_4 := Dj.new ho2.ltO hge4
  have hd3_4 := Dj.new ho3.ltO hge4
  have hB := hB.trans hXw4
  have hb1 := hb1.up hXw4
  have ho2 := ho2.up hXw4
  have ho3 := ho3.up hXw4
  refine WL.asg rfl rfl ?_
  refine WL.op rfl (OpK.storeB0 T.sz28 rfl rfl (by first | rfl | exact Osl.oneCell (by assumption) | exact Osn.oneCell (by assumption) | exact Rd.oneCell (by assumption) | exact Rd.oneCell (NL.rd (by assumption)) | assumption) hb4 (fun w5 hXw5 hb4 => ?_))
  have hB := hB.updL hXw5 hl4
  have hb1 := hb1.updD hXw5 hd1_4
  have ho2 := ho2.updD hXw5 hd2_4
  have ho3 := ho3.updD hXw5 hd3_4
  refine WL.nilS ?_
  refine CW.seq ?_
  refine CW.reg ?_
  refine WL.pure rfl rfl rfl (PV.makeFunc (fs := []) (cs := [.tmp 5]) rfl rfl) ?_
  refine WL.asg rfl rfl ?_
  refine WL.nilS ?_
  refine CW.seq ?_
  refine CW.reg ?_
  have hg : gramV a0 a1 xa2 := (by assumption); have hg1 := hg.1; have hg3 := hg.2.2.1; obtain ⟨tc, hI⟩ := allC_inv hg; have hsm := hI.same; have hL1 := hI.l1; have hL2 := hI.l2
  refine WL.pure rfl rfl rfl (PV.fieldAddr T.fl33_0 rfl hb1.cells) ?_
  refine WL.pure rfl rfl rfl (PV.load1 T.na2 rfl hb1.cells (Ext.refl _) rfl) ?_
  first
    | refine WL.op rfl (OpK.makeS VB (false) rfl T.sl62 T.zv4 rfl rfl rfl (by constructor <;> omega) (fun v5 g5 w6 hXw6 ho5 hge5 => ?_))
    | refine WL.op rfl (OpK.makeSZ VB (false) rfl T.sl62 T.zv4 rfl rfl rfl (by omega) (by constructor <;> omega) (fun v5 g5 w6 hXw6 ho5 hge5 => ?_))
  have hl5 := Lo.new hB hge5
  have hd1_5 := Dj.new hb1.ltO hge5
  have hd2_5 := Dj.new ho2.ltO hge5
  have hd3_5 := Dj.new ho3.ltO hge5
  have hd4_5 := Dj.new hb4.ltO hge5
  have hB := hB.trans hXw6
  have hb1 := hb1.up hXw6
  have ho2 := ho2.up hXw6
  have ho3 := ho3.up hXw6
  have hb4 := hb4.up hXw6
  refine WL.asg rfl rfl ?_
  refine WL.nilS ?_
  refine CW.seq ?_
  refine CW.reg ?_
  refine WL.mv rfl rfl ?_
  first
    | refine WL.atO (x := .tmp 25) (y := .const (.int .i64 0)) (f := VB) (false) rfl rfl ho5 (by simp; omega) (fun p1 hpp1 hcp1 => ?_)
    | refine WL.atOZ (x := .tmp 25) (y := .const (.int .i64 0)) (f := VB) (false) rfl rfl ho5 (by simp; omega) (fun p1 hpp1 hzp1 hcp1 => ?_)
  refine WL.pure rfl rfl rfl ((by first | exact PV.indexAddr hpp1 rfl rfl T.sl62 | exact PV.indexAddr hpp1 rfl (by rw [← hzp1]; rfl) T.sl62)) ?_
  refine WL.op rfl (OpK.storeS VB T.sz4 rfl rfl rfl hpp1 ho5 (fun w7 hXw7 ho5 => ?_))
  have hB := hB.updL hXw7 hl5
  have hb1 := hb1.updD hXw7 hd1_5
  have ho2 := ho2.updD hXw7 hd2_5
  have ho3 := ho3.updD hXw7 hd3_5
  have hb4 := hb4.updD hXw7 hd4_5
  refine WL.nilS ?_
  refine CW.seq ?_
  refine CW.seq ?_
  refine CW.reg ?_
  refine WL.pure rfl rfl rfl (PV.fieldAddr T.fl33_0 rfl hb1.cells) ?_
  refine WL.pure rfl rfl rfl (PV.load1 T.na2 rfl hb1.cells (Ext.refl _) rfl) ?_
  refine WL.mv rfl rfl ?_
  refine WL.nilS ?_
  refine CW.block ?_
  have hlt1 := hb1.ltO
  have hlt2 := ho2.ltO
  have hlt3 := ho3.ltO
  have hlt4 := hb4.ltO
  have hlt5 := ho5.ltO
  refine CW.loop (σk := [(1, _), (6, _), (7, _), (28, _)]) (fun ρ wz m => ∃ (t : Nat), ρ = [(29, .int .i64 (t : Nat))] ∧ m = a0.toNat - t ∧ UpdL [(some g5)] w7 wz ∧ Osl VB wz (some g5) v5 (allU (allC a0 xa2).2 xa2 a0.toNat t) ∧ ((t : Int) ≤ a0)) (ρ₀ := [(29, _)]) (m₀ := _) ⟨rfl, rfl, rfl, rfl, rfl, trivial⟩ ⟨0, rfl, rfl, (UpdL.refl _ _), osE ho5 (by rfl), (by first | omega | rfl | (simp; done) | assumption | (simp_all; done))⟩ ?_
  rintro _ wl1 _ ⟨t, rfl, rfl, hU0, ho5, ht⟩
  have hb1 := hb1.loop hU0 ⟨hd1_5, trivial⟩
  have ho2 := ho2.loop hU0 ⟨hd2_5, trivial⟩
  have ho3 := ho3.loop hU0 ⟨hd3_5, trivial⟩
  have hb4 := hb4.loop hU0 ⟨hd4_5, trivial⟩
  have hk0_5 : OkB [(some g5)] w7 (some g5) := OkB.mem (by simp)
  have hB := hB.loop hU0 ⟨hl5, trivial⟩
  have hul := allU_len (allC a0 xa2).2 xa2 a0.toNat t
  refine CW.seq ?_
  refine CW.reg ?_
  refine WL.pure rfl rfl rfl (PV.lss rfl rfl) ?_
  refine WL.nilS ?_
  refine CW.seq ?_
  refine CW.cond rfl (fun hc2 => ?_) (fun hc2 => ?_)
  · skip
    try simp only [nq] at hc2
    refine CW.skipS ?_
    refine CW.seq ?_
    refine CW.block ?_
    refine CW.seq ?_
    refine CW.reg ?_
    refine WL.pure rfl rfl rfl (PV.fieldAddr T.fl33_2 rfl hb1.cells) ?_
    refine WL.pure rfl rfl rfl (PV.load1 T.na31 rfl hb1.cells (Ext.refl _) rfl) ?_
    refine WL.pure rfl rfl rfl ((by first | exact PV.len rfl (by assumption) T.sl31 | exact PV.lenOs rfl (by assumption) T.sl31 | exact PV.len rfl (NL.rd (by assumption)) T.sl31 | exact PV.len rfl (Inn.rd (by assumption) (by omega)) T.sl31)) ?_
    refine WL.mv rfl rfl ?_
    refine WL.nilS ?_
    refine CW.block ?_
    have hlt1 := hb1.ltO
    have hlt2 := ho2.ltO
    have hlt3 := ho3.ltO
    have hlt4 := hb4.ltO
    have hlt5 := ho5.ltO
    refine CW.loop (σk := [(1, _), (6, _), (7, _), (28, _), (29, _), (32, _), (33, _)]) (fun ρ wz m => ∃ (k : Nat), ρ = [(34, .int .i64 (k : Nat))] ∧ m = xa2.length - k ∧ UpdL [(some g5)] wl1 wz ∧ Osl VB wz (some g5) v5 (rowU (allC a0 xa2).2 xa2 k (allU (allC a0 xa2).2 xa2 a0.toNat t)) ∧ (k ≤ xa2.length)) (ρ₀ := [(34, _)]) (m₀ := _) ⟨rfl, rfl, rfl, rfl, rfl, rfl, rfl, rfl, trivial⟩ ⟨0, rfl, rfl, (UpdL.refl _ _), osE ho5 (by rfl), (by first | omega | rfl | (simp; done) | assumption | (simp_all; done))⟩ ?_
    rintro _ wl2 _ ⟨k, rfl, rfl, hU1, ho5, hk⟩
    have hU0 := hU0.trans hU1 ⟨hk0_5, trivial⟩
    have hb1 := hb1.loop hU1 ⟨hd1_5, trivial⟩
    have ho2 := ho2.loop hU1 ⟨hd2_5, trivial⟩
    have ho3 := ho3.loop hU1 ⟨hd3_5, trivial⟩
    have hb4 := hb4.loop hU1 ⟨hd4_5, trivial⟩
    have hk1_5 : OkB [(some g5)] wl1 (some g5) := OkB.mem (by simp)
    have hB := hB.loop hU1 ⟨hl5, trivial⟩
    have hrl := rowU_len (allC a0 xa2).2 xa2 k (allU (allC a0 xa2).2 xa2 a0.toNat t)
    refine CW.seq ?_
    refine CW.reg ?_
    refine WL.pure rfl rfl rfl (PV.lss rfl rfl) ?_
    refine WL.nilS ?_
    refine CW.seq ?_
    refine CW.cond rfl (fun hc3 => ?_) (fun hc3 => ?_)
    · skip
      try simp only [nq] at hc3
      refine CW.skipS ?_
      refine CW.seq ?_
      refine CW.block ?_
      refine CW.seq ?_
      refine CW.reg ?_
      first
        | refine WL.at (x := .tmp 32) (y := .tmp 34) (E := ER) ((0, 0, 0, 0)) rfl rfl (by first | assumption | exact Inn.rd (by assumption) (by omega)) (by first | omega | (simp only [List.length_set]; omega) | (simp only [List.length_append, List.length_take, List.length_replicate, List.length_drop]; omega)) (fun p2 csp2 hpp2 hcp2 hq => ?_)
        | refine WL.atZ (x := .tmp 32) (y := .tmp 34) (E := ER) ((0, 0, 0, 0)) rfl rfl (by first | assumption | exact Inn.rd (by assumption) (by omega)) (by first | omega | (simp only [List.length_set]; omega) | (simp only [List.length_append, List.length_take, List.length_replicate, List.length_drop]; omega)) (fun p2 csp2 hpp2 hzp2 hcp2 hq => ?_)
      cases hq
      refine WL.pure rfl rfl rfl ((by first | exact PV.indexAddr hpp2 rfl rfl T.sl31 | exact PV.indexAddr hpp2 rfl (by rw [← hzp2]; rfl) T.sl31)) ?_
      refine WL.pure rfl rfl rfl ((by first | exact PV.loadA T.ag56 rfl (by first | exact Cells.up (by assumption) hB | exact Bx.cells (by assumption) | assumption) (Ext.refl _) rfl | exact PV.loadP (ds := [_, _, _, _]) T.ag56 rfl (by first | exact Cells.up (by assumption) hB | exact Bx.cells (by assumption) | assumption) (Ext.refl _) rfl rfl)) ?_
      refine WL.op rfl (OpK.alloc rfl T.zv56 rfl (fun b8 w8 hXw8 hb8 hge8 => ?_))
      have hl8 := Lo.new hB hge8
      have hd1_8 := Dj.new hb1.ltO hge8
      have hd2_8 := Dj.new ho2.ltO hge8
      have hd3_8 := Dj.new ho3.ltO hge8
      have hd4_8 := Dj.new hb4.ltO hge8
      have hd5_8 := Dj.new ho5.ltO hge8
      have hk0_8 := OkN.new hU0 hge8
      have hg0_8 := OgR.new hU0.size hge8
      have hk1_8 := OkN.new hU1 hge8
      have hg1_8 := OgR.new hU1.size hge8
      have hB := hB.trans hXw8
      have hb1 := hb1.up hXw8
      have ho2 := ho2.up hXw8
      have ho3 := ho3.up hXw8
      have hb4 := hb4.up hXw8
      have ho5 := ho5.up hXw8
      have hU0 := hU0.ext hXw8
      have hU1 := hU1.ext hXw8
      refine WL.op rfl (OpK.storeA T.sz56 rfl rfl rfl rfl (by simp [Value.oneCell'] <;> first | done | (repeat' apply And.intro) <;> first | rfl | exact Osl.oneCell (by assumption) | exact Osn.oneCell (by assumption) | exact Rd.oneCell (by assumption) | exact Rd.oneCell (NL.rd (by assumption)) | assumption) hb8 (fun w9 hXw9 hb8 => ?_))
      have hB := hB.updL hXw9 hl8
      have hb1 := hb1.updD hXw9 hd1_8
      have ho2 := ho2.updD hXw9 hd2_8
      have ho3 := ho3.updD hXw9 hd3_8
      have hb4 := hb4.updD hXw9 hd4_8
      have ho5 := ho5.updD hXw9 hd5_8
      have hU0 := hU0.step hXw9 hk0_8
      have hU1 := hU1.step hXw9 hk1_8
      refine WL.nilS ?_
      refine CW.seq ?_
      refine CW.reg ?_
      have hok := hg.2.2.2 k (by omega); have ok1 := hok.1; have ok2 := hok.2.1; have ok4 := hok.2.2.2.1; have ok5 := hok.2.2.2.2; have hs2 : 0 ≤ (xa2.getD k (0, 0, 0, 0)).2.2.1 → (((allC a0 xa2).1.getD (xa2.getD k (0, 0, 0, 0)).2.1.toNat 0 < 0 ↔ (allC a0 xa2).2.getD (xa2.getD k (0, 0, 0, 0)).2.1.toNat 0 < 0) ∧ ((allC a0 xa2).1.getD (xa2.getD k (0, 0, 0, 0)).2.2.1.toNat 0 < 0 ↔ (allC a0 xa2).2.getD (xa2.getD k (0, 0, 0, 0)).2.2.1.toNat 0 < 0)) := fun h => ⟨hsm _ (by omega), hsm _ (by omega)⟩
      refine WL.mv rfl rfl ?_
      refine WL.pure rfl rfl rfl (PV.fieldAddr T.fl56_0 rfl hb8.cells) ?_
      refine WL.pure rfl rfl rfl (PV.load1 T.na2 rfl hb8.cells (Ext.refl _) rfl) ?_
      first
        | refine WL.atO (x := .tmp 38) (y := .tmp 40) (f := VB) (false) rfl rfl ho5 (by omega) (fun p3 hpp3 hcp3 => ?_)
        | refine WL.atOZ (x := .tmp 38) (y := .tmp 40) (f := VB) (false) rfl rfl ho5 (by omega) (fun p3 hpp3 hzp3 hcp3 => ?_)
      refine WL.pure rfl rfl rfl ((by first | exact PV.indexAddr hpp3 rfl rfl T.sl62 | exact PV.indexAddr hpp3 rfl (by rw [← hzp3]; rfl) T.sl62)) ?_
      refine WL.pure rfl rfl rfl ((by first | exact PV.load0 T.na4 rfl (by first | exact Cells.up (by assumption) hB | exact Bx.cells (by assumption) | assumption) (Ext.refl _) rfl | exact PV.load1 T.na4 rfl (by first | exact Cells.up (by assumption) hB | exact Bx.cells (by assumption) | assumption) (Ext.refl _) rfl)) ?_
      refine WL.mv rfl rfl ?_
      refine WL.split (t := 43) rfl (fun hc4 => ?_) (fun hc4 => ?_)
      rotate_left
      · skip
        try simp only [nq] at hc4
        refine WL.skip rfl rfl rfl rfl rfl ?_
        refine WL.skip rfl rfl rfl rfl rfl ?_
        refine WL.skip rfl rfl rfl rfl rfl ?_
        refine WL.pure rfl rfl rfl (PV.pickF rfl rfl) ?_
        refine WL.mv rfl rfl ?_
        refine WL.skip rfl rfl rfl rfl rfl ?_
        refine WL.skip rfl rfl rfl rfl rfl ?_
        refine WL.skip rfl rfl rfl rfl rfl ?_
        refine WL.pure rfl rfl rfl (PV.pickF rfl rfl) ?_
        refine WL.nilS ?_
        refine CW.condF rfl ?_
        refine CW.skip ?_
        refine NQ.block ?_
        refine NQ.then ?_
        refine CW.reg ?_
        refine WL.pure rfl rfl rfl (PV.add rfl rfl (by constructor <;> omega)) ?_
        refine WL.mv rfl rfl ?_
        refine WL.nil ?_
        refine NQ.next (ρ := [(34, _)]) ⟨rfl, rfl, rfl, rfl, rfl, rfl, rfl, rfl, trivial⟩ ?_
        exact ⟨_, ⟨k + 1, rfl, rfl, hU1, osE ho5 (by refine rowU_succ ?_; first | exact stepU_yes (by assumption) (by omega) (by first | assumption | exact worksC_yes (by omega)) | exact stepU_n1 (by assumption) | exact stepU_n2 (by omega) | exact stepU_n3 (by first | assumption | exact decide_eq_false (by omega))), (by first | omega | assumption | (simp_all; done) | (simp_all; omega))⟩, by omega⟩
      try simp only [nq] at hc4
      refine WL.pureG rfl rfl rfl rfl rfl (PV.fieldAddr T.fl56_2 rfl hb8.cells) ?_
      refine WL.pureG rfl rfl rfl rfl rfl (PV.load1 T.na2 rfl hb8.cells (Ext.refl _) rfl) ?_
      refine WL.pureG rfl rfl rfl rfl rfl (PV.geq rfl rfl) ?_
      refine WL.pure rfl rfl rfl (PV.pickT rfl rfl) ?_
      refine WL.mv rfl rfl ?_
      refine WL.split (t := 48) rfl (fun hc5 => ?_) (fun hc5 => ?_)
      rotate_left
      · skip
        try simp only [nq] at hc5
        refine WL.skip rfl rfl rfl rfl rfl ?_
        refine WL.skip rfl rfl rfl rfl rfl ?_
        refine WL.skip rfl rfl rfl rfl rfl ?_
        refine WL.pure rfl rfl rfl (PV.pickF rfl rfl) ?_
        refine WL.nilS ?_
        refine CW.condF rfl ?_
        refine CW.skip ?_
        refine NQ.block ?_
        refine NQ.then ?_
        refine CW.reg ?_
        refine WL.pure rfl rfl rfl (PV.add rfl rfl (by constructor <;> omega)) ?_
        refine WL.mv rfl rfl ?_
        refine WL.nil ?_
        refine NQ.next (ρ := [(34, _)]) ⟨rfl, rfl, rfl, rfl, rfl, rfl, rfl, rfl, trivial⟩ ?_
        exact ⟨_, ⟨k + 1, rfl, rfl, hU1, osE ho5 (by refine rowU_succ ?_; first | exact stepU_yes (by assumption) (by omega) (by first | assumption | exact worksC_yes (by omega)) | exact stepU_n1 (by assumption) | exact stepU_n2 (by omega) | exact stepU_n3 (by first | assumption | exact decide_eq_false (by omega))), (by first | omega | assumption | (simp_all; done) | (simp_all; omega))⟩, by omega⟩
      try simp only [nq] at hc5
      refine WL.pureG rfl rfl rfl rfl rfl (PV.move rfl) ?_
      refine WL.pureG rfl rfl rfl rfl rfl (PV.loadA T.ag56 rfl hb8.cells (Ext.refl _) rfl) ?_
      refine WL.opG rfl rfl rfl (OpK.callV rfl T.cf120 rfl rfl (c_impl_UsefulRules_1 (by first | exact Bx.cells (by assumption) | exact Cells.up (by assumption) hB | assumption | exact Cells.add (Bx.cells (by assumption)) _ | exact Cells.add (Cells.up (by assumption) hB) _) (by first | assumption | exact Rd.up (by assumption) hB | exact Osl.rd (by assumption) | exact Osn.rdR (by assumption)) (by first | assumption | omega | (simp only [marks_len]; omega))) (fun w10 hXw10 => ?_))
      have hB := hB.trans hXw10
      have hb1 := hb1.up hXw10
      have ho2 := ho2.up hXw10
      have ho3 := ho3.up hXw10
      have hb4 := hb4.up hXw10
      have ho5 := ho5.up hXw10
      have hb8 := hb8.up hXw10
      have hU0 := hU0.ext hXw10
      have hU1 := hU1.ext hXw10
      refine WL.pure rfl rfl rfl (PV.pickT rfl rfl) ?_
      refine WL.nilS ?_
      refine CW.cond rfl (fun hc6 => ?_) (fun hc6 => ?_)
      · skip
        try simp only [nq] at hc6
        refine CW.draw T.mixed (by kernel_rfl) (fun _ _ _ _ _ h => h) (fun w8 w9 => Upd (some g5) w8 w9) 10 (.take 0 (.take 1 (.take 2 (.take 3 (.take 4 (.take 5 (.take 6 (.must 7 (.take 8 (.must 9 .done)))))))))) (by kernel_rfl) (fun w11 hXd => ?_)
        have hB := hB.trans hXd
        have hb1 := hb1.up hXd
        have ho2 := ho2.up hXd
        have ho3 := ho3.up hXd
        have hb4 := hb4.up hXd
        have ho5 := ho5.up hXd
        have hb8 := hb8.up hXd
        have hU0 := hU0.ext hXd
        have hU1 := hU1.ext hXd
        have hBr := hB
        have hS : Upd (some g5) w11 w11 := Ext.toUpd (Ext.refl _)
        refine HP.take rfl rfl rfl rfl hS (fun wS hS1 => PV.move rfl) ?_
        refine HP.take rfl rfl rfl rfl hS (fun wS hS1 => PV.fieldAddr T.fl56_1 rfl hb8.cells) ?_
        refine HP.take rfl rfl rfl rfl hS (fun wS hS1 => PV.load1 T.na2 rfl (Bx.cells (Bx.updD (by assumption) hS1 (by first | assumption | exact Dj.symm (by assumption)))) (Ext.refl _) rfl) ?_
        refine HP.take rfl rfl rfl rfl hS (fun wS hS1 => PV.move rfl) ?_
        refine HP.take rfl rfl rfl rfl hS (fun wS hS1 => PV.fieldAddr T.fl56_2 rfl hb8.cells) ?_
        refine HP.take rfl rfl rfl rfl hS (fun wS hS1 => PV.load1 T.na2 rfl (Bx.cells (Bx.updD (by assumption) hS1 (by first | assumption | exact Dj.symm (by assumption)))) (Ext.refl _) rfl) ?_
        first
          | refine HP.atO (wb := w11) (x := .tmp 53) (y := .tmp 55) (f := VB) (false) rfl rfl (by assumption) (by omega) (fun p4 hpp4 hcp4 => ?_)
          | refine HP.atOZ (wb := w11) (x := .tmp 53) (y := .tmp 55) (f := VB) (false) rfl rfl (by assumption) (by omega) (fun p4 hpp4 hzp4 hcp4 => ?_)
        refine HP.take rfl rfl rfl rfl hS (fun wS hS1 => (by first | exact PV.indexAddr hpp4 rfl rfl T.sl62 | exact PV.indexAddr hpp4 rfl (by rw [← hzp4]; rfl) T.sl62)) ?_
        refine HP.must rfl rfl (OpK.storeS VB T.sz4 rfl rfl rfl hpp4 ho5 (fun w12 hXw12 ho5 => ?_))
        refine ⟨Upd.trans hS hXw12, ?_⟩
        have hS := Upd.trans hS hXw12
        have hB := hB.updL hXw12 hl5
        have hb1 := hb1.updD hXw12 hd1_5
        have ho2 := ho2.updD hXw12 hd2_5
        have ho3 := ho3.updD hXw12 hd3_5
        have hb4 := hb4.updD hXw12 hd4_5
        have hb8 := hb8.updD hXw12 (Dj.symm hd5_8)
        have hU0 := hU0.step hXw12 hk0_5
        have hU1 := hU1.step hXw12 hk1_5
        first
          | refine HP.atO (wb := w11) (x := .tmp 56) (y := .tmp 58) (f := VB) (false) rfl rfl (by assumption) (by first | omega | (rw [List.length_set]; omega)) (fun p5 hpp5 hcp5 => ?_)
          | refine HP.atOZ (wb := w11) (x := .tmp 56) (y := .tmp 58) (f := VB) (false) rfl rfl (by assumption) (by first | omega | (rw [List.length_set]; omega)) (fun p5 hpp5 hzp5 hcp5 => ?_)
        refine HP.take rfl rfl rfl rfl hS (fun wS hS1 => (by first | exact PV.indexAddr hpp5 rfl rfl T.sl62 | exact PV.indexAddr hpp5 rfl (by rw [← hzp5]; rfl) T.sl62)) ?_
        refine HP.must rfl rfl (OpK.storeS VB T.sz4 rfl rfl rfl hpp5 ho5 (fun w13 hXw13 ho5 => ?_))
        refine ⟨Upd.trans hS hXw13, ?_⟩
        have hS := Upd.trans hS hXw13
        have hB := hB.updL hXw13 hl5
        have hb1 := hb1.updD hXw13 hd1_5
        have ho2 := ho2.updD hXw13 hd2_5
        have ho3 := ho3.updD hXw13 hd3_5
        have hb4 := hb4.updD hXw13 hd4_5
        have hb8 := hb8.updD hXw13 (Dj.symm hd5_8)
        have hU0 := hU0.step hXw13 hk0_5
        have hU1 := hU1.step hXw13 hk1_5
        refine HP.done ?_
        refine NQ.block ?_
        refine NQ.then ?_
        refine CW.reg ?_
        refine WL.pure rfl rfl rfl (PV.add rfl rfl (by constructor <;> omega)) ?_
        refine WL.mv rfl rfl ?_
        refine WL.nil ?_
        refine NQ.next (ρ := [(34, _)]) ⟨rfl, rfl, rfl, rfl, rfl, rfl, rfl, rfl, trivial⟩ ?_
        exact ⟨_, ⟨k + 1, rfl, rfl, hU1, osE ho5 (by refine rowU_succ ?_; first | exact stepU_yes (by assumption) (by omega) (by first | assumption | exact worksC_yes (by omega)) | exact stepU_n1 (by assumption) | exact stepU_n2 (by omega) | exact stepU_n3 (by first | assumption | exact decide_eq_false (by omega))), (by first | omega | assumption | (simp_all; done) | (simp_all; omega))⟩, by omega⟩
      try simp only [nq] at hc6
      refine CW.skip ?_
      refine NQ.block ?_
      refine NQ.then ?_
      refine CW.reg ?_
      refine WL.pure rfl rfl rfl (PV.add rfl rfl (by constructor <;> omega)) ?_
      refine WL.mv rfl rfl ?_
      refine WL.nil ?_
      refine NQ.next (ρ := [(34, _)]) ⟨rfl, rfl, rfl, rfl, rfl, rfl, rfl, rfl, trivial⟩ ?_
      exact ⟨_, ⟨k + 1, rfl, rfl, hU1, osE ho5 (by refine rowU_succ ?_; first | exact stepU_yes (by assumption) (by omega) (by first | assumption | exact worksC_yes (by omega)) | exact stepU_n1 (by assumption) | exact stepU_n2 (by omega) | exact stepU_n3 (by first | assumption | exact decide_eq_false (by omega))), (by first | omega | assumption | (simp_all; done) | (simp_all; omega))⟩, by omega⟩
    try simp only [nq] at hc3
    refine CW.exit ?_
    refine XQ.then ?_
    refine XQ.then ?_
    refine XQ.here ?_
    refine NQ.block ?_
    refine NQ.then ?_
    refine CW.reg ?_
    refine WL.pure rfl rfl rfl (PV.add rfl rfl (by constructor <;> omega)) ?_
    refine WL.mv rfl rfl ?_
    refine WL.nil ?_
    refine NQ.next (ρ := [(29, _)]) ⟨rfl, rfl, rfl, rfl, rfl, trivial⟩ ?_
    exact ⟨_, ⟨t + 1, rfl, rfl, hU0, osE ho5 (by exact allU_succ (by omega)), (by first | omega | assumption | (simp_all; done) | (simp_all; omega))⟩, by omega⟩
  try simp only [nq] at hc2
  refine CW.exit ?_
  refine XQ.then ?_
  refine XQ.then ?_
  refine XQ.here ?_
  refine NQ.then ?_
  refine CW.seq ?_
  refine CW.reg ?_
  obtain rfl : t = a0.toNat := (by omega)
  refine WL.op rfl (OpK.buildS VI (os := []) [] rfl T.sl28 rfl rfl T.zv2 rfl (by intro z hz; cases hz) rfl (fun v9 g9 w14 hXw14 ho9 hge9 => ?_))
  have hl9 := Lo.new hB hge9
  have hd1_9 := Dj.new hb1.ltO hge9
  have hd2_9 := Dj.new ho2.ltO hge9
  have hd3_9 := Dj.new ho3.ltO hge9
  have hd4_9 := Dj.new hb4.ltO hge9
  have hd5_9 := Dj.new ho5.ltO hge9
  have hB := hB.trans hXw14
  have hb1 := hb1.up hXw14
  have ho2 := ho2.up hXw14
  have ho3 := ho3.up hXw14
  have hb4 := hb4.up hXw14
  have ho5 := ho5.up hXw14
  refine WL.asg rfl rfl ?_
  refine WL.nilS ?_
  refine CW.seq ?_
  refine CW.seq ?_
  refine CW.reg ?_
  refine WL.pure rfl rfl rfl (PV.fieldAddr T.fl33_2 rfl hb1.cells) ?_
  refine WL.pure rfl rfl rfl (PV.load1 T.na31 rfl hb1.cells (Ext.refl _) rfl) ?_
  refine WL.pure rfl rfl rfl ((by first | exact PV.len rfl (by assumption) T.sl31 | exact PV.lenOs rfl (by assumption) T.sl31 | exact PV.len rfl (NL.rd (by assumption)) T.sl31 | exact PV.len rfl (Inn.rd (by assumption) (by omega)) T.sl31)) ?_
  refine WL.mv rfl rfl ?_
  refine WL.nilS ?_
  refine CW.block ?_
  have hlt1 := hb1.ltO
  have hlt2 := ho2.ltO
  have hlt3 := ho3.ltO
  have hlt4 := hb4.ltO
  have hlt5 := ho5.ltO
  have hlt9 := ho9.ltO
  refine CW.loop (σk := [(6, _), (7, _), (65, _), (66, _)]) (fun ρ wz m => ∃ (v10 : Value) (og10 : Option Nat) (k : Nat), ρ = [(10, v10), (67, .int .i64 (k : Nat))] ∧ m = xa2.length - k ∧ UpdL [(some g9)] w14 wz ∧ Osl VI wz og10 v10 (outU (allC a0 xa2).2 (allU (allC a0 xa2).2 xa2 a0.toNat a0.toNat) xa2 k) ∧ OgR w14 (some g9) og10 ∧ (k ≤ xa2.length)) (ρ₀ := [(10, _), (67, _)]) (m₀ := _) ⟨rfl, rfl, rfl, rfl, rfl, rfl, trivial⟩ ⟨v9, (some g9), 0, rfl, rfl, (UpdL.refl _ _), osE ho9 (by rfl), OgR.refl _ _, (by first | omega | rfl | (simp; done) | assumption | (simp_all; done))⟩ ?_
  rintro _ wl3 _ ⟨v10, og10, k, rfl, rfl, hU2, ho10, ha10, hk⟩
  have hb1 := hb1.loop hU2 ⟨hd1_9, trivial⟩
  have ho2 := ho2.loop hU2 ⟨hd2_9, trivial⟩
  have ho3 := ho3.loop hU2 ⟨hd3_9, trivial⟩
  have hb4 := hb4.loop hU2 ⟨hd4_9, trivial⟩
  have ho5 := ho5.loop hU2 ⟨hd5_9, trivial⟩
  have hl10 := Lo.ogr hl9 hB ha10
  have hg2_10 := ha10
  have hk2_10 : OkB [(some g9)] w14 og10 := OkB.ogr (OkB.mem (by simp)) (Nat.le_refl _) ha10
  have hd1_10 := Dj.ogr hd1_9 hlt1 ha10
  have hd2_10 := Dj.ogr hd2_9 hlt2 ha10
  have hd3_10 := Dj.ogr hd3_9 hlt3 ha10
  have hd4_10 := Dj.ogr hd4_9 hlt4 ha10
  have hd5_10 := Dj.ogr hd5_9 hlt5 ha10
  have hB := hB.loop hU2 ⟨hl9, trivial⟩
  have hol := outU_len (allC a0 xa2).2 (allU (allC a0 xa2).2 xa2 a0.toNat a0.toNat) xa2 k; have hul := allU_len (allC a0 xa2).2 xa2 a0.toNat a0.toNat
  refine CW.seq ?_
  refine CW.reg ?_
  refine WL.pure rfl rfl rfl (PV.lss rfl rfl) ?_
  refine WL.nilS ?_
  refine CW.seq ?_
  refine CW.cond rfl (fun hc7 => ?_) (fun hc7 => ?_)
  · skip
    try simp only [nq] at hc7
    refine CW.skipS ?_
    refine CW.seq ?_
    refine CW.block ?_
    refine CW.seq ?_
    refine CW.reg ?_
    refine WL.mv rfl rfl ?_
    first
      | refine WL.at (x := .tmp 65) (y := .tmp 67) (E := ER) ((0, 0, 0, 0)) rfl rfl (by first | assumption | exact Inn.rd (by assumption) (by omega)) (by first | omega | (simp only [List.length_set]; omega) | (simp only [List.length_append, List.length_take, List.length_replicate, List.length_drop]; omega)) (fun p6 csp6 hpp6 hcp6 hq => ?_)
      | refine WL.atZ (x := .tmp 65) (y := .tmp 67) (E := ER) ((0, 0, 0, 0)) rfl rfl (by first | assumption | exact Inn.rd (by assumption) (by omega)) (by first | omega | (simp only [List.length_set]; omega) | (simp only [List.length_append, List.length_take, List.length_replicate, List.length_drop]; omega)) (fun p6 csp6 hpp6 hzp6 hcp6 hq => ?_)
    cases hq
    refine WL.pure rfl rfl rfl ((by first | exact PV.indexAddr hpp6 rfl rfl T.sl31 | exact PV.indexAddr hpp6 rfl (by rw [← hzp6]; rfl) T.sl31)) ?_
    refine WL.pure rfl rfl rfl ((by first | exact PV.loadA T.ag56 rfl (by first | exact Cells.up (by assumption) hB | exact Bx.cells (by assumption) | assumption) (Ext.refl _) rfl | exact PV.loadP (ds := [_, _, _, _]) T.ag56 rfl (by first | exact Cells.up (by assumption) hB | exact Bx.cells (by assumption) | assumption) (Ext.refl _) rfl rfl)) ?_
    refine WL.op rfl (OpK.alloc rfl T.zv56 rfl (fun b11 w15 hXw15 hb11 hge11 => ?_))
    have hl11 := Lo.new hB hge11
    have hd1_11 := Dj.new hb1.ltO hge11
    have hd2_11 := Dj.new ho2.ltO hge11
    have hd3_11 := Dj.new ho3.ltO hge11
    have hd4_11 := Dj.new hb4.ltO hge11
    have hd5_11 := Dj.new ho5.ltO hge11
    have hd10_11 := Dj.new ho10.ltO hge11
    have hk2_11 := OkN.new hU2 hge11
    have hg2_11 := OgR.new hU2.size hge11
    have hB := hB.trans hXw15
    have hb1 := hb1.up hXw15
    have ho2 := ho2.up hXw15
    have ho3 := ho3.up hXw15
    have hb4 := hb4.up hXw15
    have ho5 := ho5.up hXw15
    have ho10 := ho10.up hXw15
    have hU2 := hU2.ext hXw15
    refine WL.asg rfl rfl ?_
    refine WL.op rfl (OpK.storeA T.sz56 rfl rfl rfl rfl (by simp [Value.oneCell'] <;> first | done | (repeat' apply And.intro) <;> first | rfl | exact Osl.oneCell (by assumption) | exact Osn.oneCell (by assumption) | exact Rd.oneCell (by assumption) | exact Rd.oneCell (NL.rd (by assumption)) | assumption) hb11 (fun w16 hXw16 hb11 => ?_))
    have hB := hB.updL hXw16 hl11
    have hb1 := hb1.updD hXw16 hd1_11
    have ho2 := ho2.updD hXw16 hd2_11
    have ho3 := ho3.updD hXw16 hd3_11
    have hb4 := hb4.updD hXw16 hd4_11
    have ho5 := ho5.updD hXw16 hd5_11
    have ho10 := ho10.updD hXw16 hd10_11
    have hU2 := hU2.step hXw16 hk2_11
    refine WL.nilS ?_
    refine CW.seq ?_
    refine CW.reg ?_
    have hok := hg.2.2.2 k (by omega); have ok1 := hok.1; have ok2 := hok.2.1; have ok4 := hok.2.2.2.1; have ok5 := hok.2.2.2.2; have hs2 : 0 ≤ (xa2.getD k (0, 0, 0, 0)).2.2.1 → (((allC a0 xa2).1.getD (xa2.getD k (0, 0, 0, 0)).2.1.toNat 0 < 0 ↔ (allC a0 xa2).2.getD (xa2.getD k (0, 0, 0, 0)).2.1.toNat 0 < 0) ∧ ((allC a0 xa2).1.getD (xa2.getD k (0, 0, 0, 0)).2.2.1.toNat 0 < 0 ↔ (allC a0 xa2).2.getD (xa2.getD k (0, 0, 0, 0)).2.2.1.toNat 0 < 0)) := fun h => ⟨hsm _ (by omega), hsm _ (by omega)⟩
    refine WL.mv rfl rfl ?_
    refine WL.pure rfl rfl rfl (PV.fieldAddr T.fl56_0 rfl hb11.cells) ?_
    refine WL.pure rfl rfl rfl (PV.load1 T.na2 rfl hb11.cells (Ext.refl _) rfl) ?_
    first
      | refine WL.atO (x := .tmp 72) (y := .tmp 74) (f := VB) (false) rfl rfl ho5 (by omega) (fun p7 hpp7 hcp7 => ?_)
      | refine WL.atOZ (x := .tmp 72) (y := .tmp 74) (f := VB) (false) rfl rfl ho5 (by omega) (fun p7 hpp7 hzp7 hcp7 => ?_)
    refine WL.pure rfl rfl rfl ((by first | exact PV.indexAddr hpp7 rfl rfl T.sl62 | exact PV.indexAddr hpp7 rfl (by rw [← hzp7]; rfl) T.sl62)) ?_
    refine WL.pure rfl rfl rfl ((by first | exact PV.load0 T.na4 rfl (by first | exact Cells.up (by assumption) hB | exact Bx.cells (by assumption) | assumption) (Ext.refl _) rfl | exact PV.load1 T.na4 rfl (by first | exact Cells.up (by assumption) hB | exact Bx.cells (by assumption) | assumption) (Ext.refl _) rfl)) ?_
    refine WL.mv rfl rfl ?_
    refine WL.split (t := 77) rfl (fun hc8 => ?_) (fun hc8 => ?_)
    rotate_left
    · skip
      try simp only [nq] at hc8
      refine WL.skip rfl rfl rfl rfl rfl ?_
      refine WL.skip rfl rfl rfl rfl rfl ?_
      refine WL.skip rfl rfl rfl rfl rfl ?_
      refine WL.pure rfl rfl rfl (PV.pickF rfl rfl) ?_
      refine WL.nilS ?_
      refine CW.condF rfl ?_
      refine CW.skip ?_
      refine NQ.block ?_
      refine NQ.then ?_
      refine CW.reg ?_
      refine WL.pure rfl rfl rfl (PV.add rfl rfl (by constructor <;> omega)) ?_
      refine WL.mv rfl rfl ?_
      refine WL.nil ?_
      refine NQ.next (ρ := [(10, _), (67, _)]) ⟨rfl, rfl, rfl, rfl, rfl, rfl, trivial⟩ ?_
      exact ⟨_, ⟨v10, og10, k + 1, rfl, rfl, hU2, osE ho10 (by first | exact outU_yes (by assumption) (by first | assumption | exact worksC_yes (by omega)) | exact outU_n1 (by assumption) | exact outU_n2 (by first | assumption | exact decide_eq_false (by omega))), (by first | exact hg2_10 | exact OgR.weak hg2_10), (by first | omega | assumption | (simp_all; done) | (simp_all; omega))⟩, by omega⟩
    try simp only [nq] at hc8
    refine WL.pureG rfl rfl rfl rfl rfl (PV.move rfl) ?_
    refine WL.pureG rfl rfl rfl rfl rfl (PV.loadA T.ag56 rfl hb11.cells (Ext.refl _) rfl) ?_
    refine WL.opG rfl rfl rfl (OpK.callV rfl T.cf120 rfl rfl (c_impl_UsefulRules_1 (by first | exact Bx.cells (by assumption) | exact Cells.up (by assumption) hB | assumption | exact Cells.add (Bx.cells (by assumption)) _ | exact Cells.add (Cells.up (by assumption) hB) _) (by first | assumption | exact Rd.up (by assumption) hB | exact Osl.rd (by assumption) | exact Osn.rdR (by assumption)) (by first | assumption | omega | (simp only [marks_len]; omega))) (fun w17 hXw17 => ?_))
    have hB := hB.trans hXw17
    have hb1 := hb1.up hXw17
    have ho2 := ho2.up hXw17
    have ho3 := ho3.up hXw17
    have hb4 := hb4.up hXw17
    have ho5 := ho5.up hXw17
    have ho10 := ho10.up hXw17
    have hb11 := hb11.up hXw17
    have hU2 := hU2.ext hXw17
    refine WL.pure rfl rfl rfl (PV.pickT rfl rfl) ?_
    refine WL.nilS ?_
    refine CW.cond rfl (fun hc9 => ?_) (fun hc9 => ?_)
    · skip
      try simp only [nq] at hc9
      refine CW.reg ?_
      refine WL.mv rfl rfl ?_
      refine WL.mv rfl rfl ?_
      refine WL.op rfl (OpK.buildS VI (os := [.tmp 83]) [_] rfl T.sl28 rfl rfl T.zv2 rfl (by intro z hz; first | rfl | (simp only [List.mem_cons, List.not_mem_nil, or_false] at hz; subst hz; exact (by first | exact Rd.cells1 (by assumption) | exact Osl.cells1 (by assumption) | exact Osn.cells1 (by assumption) | exact Rd.cells1 (NL.rd (by assumption)) | exact Inn.cell1 (by assumption) (by omega) | assumption | rfl))) rfl (fun v12 g12 w18 hXw18 ho12 hge12 => ?_))
      have hl12 := Lo.new hB hge12
      have hd1_12 := Dj.new hb1.ltO hge12
      have hd2_12 := Dj.new ho2.ltO hge12
      have hd3_12 := Dj.new ho3.ltO hge12
      have hd4_12 := Dj.new hb4.ltO hge12
      have hd5_12 := Dj.new ho5.ltO hge12
      have hd10_12 := Dj.new ho10.ltO hge12
      have hd11_12 := Dj.new hb11.ltO hge12
      have hk2_12 := OkN.new hU2 hge12
      have hg2_12 := OgR.new hU2.size hge12
      have hB := hB.trans hXw18
      have hb1 := hb1.up hXw18
      have ho2 := ho2.up hXw18
      have ho3 := ho3.up hXw18
      have hb4 := hb4.up hXw18
      have ho5 := ho5.up hXw18
      have ho10 := ho10.up hXw18
      have hb11 := hb11.up hXw18
      have hU2 := hU2.ext hXw18
      refine WL.op rfl (OpK.appendS (f := VI) rfl T.sl28 T.zv2 rfl rfl ho10 rfl (Osl.src ho12 (fun _ => rfl)) (by first | (simp only [List.length_cons, List.length_nil]; omega) | (simp only [List.length_cons, List.length_nil]; omega)) (fun v13 og13 w19 hXw19 ho13 hap13 => ?_))
      have hl13 := Lo.app hl10 hB hap13
      have hd1_13 := Dj.app hd1_10 hb1.ltO hap13
      have hd2_13 := Dj.app hd2_10 ho2.ltO hap13
      have hd3_13 := Dj.app hd3_10 ho3.ltO hap13
      have hd4_13 := Dj.app hd4_10 hb4.ltO hap13
      have hd5_13 := Dj.app hd5_10 ho5.ltO hap13
      have hd11_13 := Dj.app (Dj.symm hd10_11) hb11.ltO hap13
      have hd12_13 := Dj.app (Dj.symm hd10_12) ho12.ltO hap13
      have hk2_13 := OkN.app hU2 hk2_10 hap13
      have hg2_13 := OgR.app hg2_10 hU2.size hap13
      have hB := hB.updL hXw19 hl10
      have hb1 := hb1.updD hXw19 hd1_10
      have ho2 := ho2.updD hXw19 hd2_10
      have ho3 := ho3.updD hXw19 hd3_10
      have hb4 := hb4.updD hXw19 hd4_10
      have ho5 := ho5.updD hXw19 hd5_10
      have hb11 := hb11.updD hXw19 (Dj.symm hd10_11)
      have ho12 := ho12.updD hXw19 (Dj.symm hd10_12)
      have hU2 := hU2.step hXw19 hk2_10
      refine WL.asg rfl rfl ?_
      refine WL.nil ?_
      refine NQ.block ?_
      refine NQ.then ?_
      refine CW.reg ?_
      refine WL.pure rfl rfl rfl (PV.add rfl rfl (by constructor <;> omega)) ?_
      refine WL.mv rfl rfl ?_
      refine WL.nil ?_
      refine NQ.next (ρ := [(10, _), (67, _)]) ⟨rfl, rfl, rfl, rfl, rfl, rfl, trivial⟩ ?_
      exact ⟨_, ⟨v13, og13, k + 1, rfl, rfl, hU2, osE ho13 (by first | exact outU_yes (by assumption) (by first | assumption | exact worksC_yes (by omega)) | exact outU_n1 (by assumption) | exact outU_n2 (by first | assumption | exact decide_eq_false (by omega))), (by first | exact hg2_13 | exact OgR.weak hg2_13), (by first | omega | assumption | (simp_all; done) | (simp_all; omega))⟩, by omega⟩
    try simp only [nq] at hc9
    refine CW.skip ?_
    refine NQ.block ?_
    refine NQ.then ?_
    refine CW.reg ?_
    refine WL.pure rfl rfl rfl (PV.add rfl rfl (by constructor <;> omega)) ?_
    refine WL.mv rfl rfl ?_
    refine WL.nil ?_
    refine NQ.next (ρ := [(10, _), (67, _)]) ⟨rfl, rfl, rfl, rfl, rfl, rfl, trivial⟩ ?_
    exact ⟨_, ⟨v10, og10, k + 1, rfl, rfl, hU2, osE ho10 (by first | exact outU_yes (by assumption) (by first | assumption | exact worksC_yes (by omega)) | exact outU_n1 (by assumption) | exact outU_n2 (by first | assumption | exact decide_eq_false (by omega))), (by first | exact hg2_10 | exact OgR.weak hg2_10), (by first | omega | assumption | (simp_all; done) | (simp_all; omega))⟩, by omega⟩
  try simp only [nq] at hc7
  refine CW.exit ?_
  refine XQ.then ?_
  refine XQ.then ?_
  refine XQ.here ?_
  refine NQ.then ?_
  refine CW.seq ?_
  refine CW.reg ?_
  obtain rfl : k = xa2.length := (by omega)
  refine WL.mv rfl rfl ?_
  refine WL.asg rfl rfl ?_
  refine WL.asg rfl rfl ?_
  refine WL.nilS ?_
  refine CW.ret ?_
  refine RQ.r2 rfl rfl ?_
  refine ⟨hB, v10, og10, ?_, osE ho10 ?_, hl10⟩
  · skip
    first | exact tE2 rfl (bE (gramB_yes (by assumption)).symm) | exact tE2 rfl (bE (Bool.eq_false_iff.2 (gramB_no (by assumption))).symm)
  · skip
    first | (rw [onT_no (gramB_no (by assumption))]; done) | (rw [onT_yes (gramB_yes (by assumption))]; unfold usefL; first | done | rfl)
theorem c_laws_r8Has {w : World} {va : Value} {xs : List Int} {x : Int} (ha : Rd EI w va xs) (hx : x ∈ xs) : Calls Try.prog 37 #[va, .int .i64 x] w (Ret1 (RQt (.bool true) w)) := by
  have hB : Ext w w := Ext.refl w
  have hla := ha.leI
  refine callsOf (vs := [_, _]) Try.func37 rfl Try.ntmps37 rfl rfl ?_
  refine CW.seq ?_
  refine CW.reg ?_
  refine WL.asg rfl rfl ?_
  refine WL.nilS ?_
  refine CW.seq ?_
  refine CW.seq ?_
  refine CW.reg ?_
  refine WL.asg rfl rfl ?_
  refine WL.nilS ?_
  refine CW.block ?_
  refine CW.loop (σk := [(0, _), (1, _)]) (fun ρ wz m => ∃ (k : Nat), ρ = [(5, .int .i64 (k : Nat))] ∧ m = xs.length - k ∧ UpdL [] w wz ∧ (k ≤ xs.length) ∧ (∀ j : Nat, j < k → xs.getD j 0 ≠ x)) (ρ₀ := [(5, _)]) (m₀ := _) ⟨rfl, rfl, rfl, trivial⟩ ⟨0, rfl, rfl, (UpdL.refl _ _), (by first | omega | rfl | (simp; done) | assumption | (simp_all; done)), (by intro j h; omega)⟩ ?_
  rintro _ wl1 _ ⟨k, rfl, rfl, hU0, hk, hno⟩
  have hB := hB.loop hU0 trivial
  refine CW.seq ?_
  refine CW.seq ?_
  refine CW.reg ?_
  refine WL.mv rfl rfl ?_
  refine WL.mv rfl rfl ?_
  refine WL.pure rfl rfl rfl ((by first | exact PV.len rfl (by assumption) T.sl28 | exact PV.lenOs rfl (by assumption) T.sl28 | exact PV.len rfl (NL.rd (by assumption)) T.sl28 | exact PV.len rfl (Inn.rd (by assumption) (by omega)) T.sl28)) ?_
  refine WL.pure rfl rfl rfl (PV.lss rfl rfl) ?_
  refine WL.nilS ?_
  refine CW.cond rfl (fun hc1 => ?_) (fun hc1 => ?_)
  · skip
    try simp only [nq] at hc1
    refine CW.skipS ?_
    refine CW.seq ?_
    refine CW.block ?_
    refine CW.seq ?_
    refine CW.reg ?_
    refine WL.mv rfl rfl ?_
    refine WL.mv rfl rfl ?_
    first
      | refine WL.at (x := .tmp 12) (y := .tmp 13) (E := EI) (0) rfl rfl (by first | assumption | exact Inn.rd (by assumption) (by omega)) (by first | omega | (simp only [List.length_set]; omega) | (simp only [List.length_append, List.length_take, List.length_replicate, List.length_drop]; omega)) (fun p1 csp1 hpp1 hcp1 hq => ?_)
      | refine WL.atZ (x := .tmp 12) (y := .tmp 13) (E := EI) (0) rfl rfl (by first | assumption | exact Inn.rd (by assumption) (by omega)) (by first | omega | (simp only [List.length_set]; omega) | (simp only [List.length_append, List.length_take, List.length_replicate, List.length_drop]; omega)) (fun p1 csp1 hpp1 hzp1 hcp1 hq => ?_)
    cases hq
    refine WL.pure rfl rfl rfl ((by first | exact PV.indexAddr hpp1 rfl rfl T.sl28 | exact PV.indexAddr hpp1 rfl (by rw [← hzp1]; rfl) T.sl28)) ?_
    refine WL.pure rfl rfl rfl ((by first | exact PV.load0 T.na2 rfl (by first | exact Cells.up (by assumption) hB | exact Bx.cells (by assumption) | assumption) (Ext.refl _) rfl | exact PV.load1 T.na2 rfl (by first | exact Cells.up (by assumption) hB | exact Bx.cells (by assumption) | assumption) (Ext.refl _) rfl)) ?_
    refine WL.mv rfl rfl ?_
    refine WL.pure rfl rfl rfl (PV.eql rfl rfl) ?_
    refine WL.nilS ?_
    refine CW.cond rfl (fun hc2 => ?_) (fun hc2 => ?_)
    · skip
      try simp only [nq] at hc2
      refine CW.seq ?_
      refine CW.reg ?_
      refine WL.asg rfl rfl ?_
      refine WL.nilS ?_
      refine CW.ret ?_
      refine RQ.block ?_
      refine RQ.then ?_
      refine RQ.then ?_
      refine RQ.block ?_
      refine RQ.then ?_
      refine RQ.r1 rfl ?_
      refine ⟨?_, hB⟩
      first | rfl | exact absurd hx (has_not (by omega) hno)
    try simp only [nq] at hc2
    refine CW.skip ?_
    refine NQ.block ?_
    refine NQ.then ?_
    refine CW.reg ?_
    refine WL.mv rfl rfl ?_
    refine WL.pure rfl rfl rfl (PV.add rfl rfl (by constructor <;> omega)) ?_
    refine WL.asg rfl rfl ?_
    refine WL.nil ?_
    refine NQ.next (ρ := [(5, _)]) ⟨rfl, rfl, rfl, trivial⟩ ?_
    exact ⟨_, ⟨k + 1, rfl, rfl, hU0, (by first | omega | assumption | (simp_all; done) | (simp_all; omega)), (by intro j h; rcases Nat.lt_succ_iff_lt_or_eq.1 h with h | rfl; exact hno j h; assumption)⟩, by omega⟩
  try simp only [nq] at hc1
  refine CW.exit ?_
  refine XQ.then ?_
  refine XQ.then ?_
  refine XQ.here ?_
  refine NQ.then ?_
  refine CW.seq ?_
  refine CW.reg ?_
  refine WL.asg rfl rfl ?_
  refine WL.nilS ?_
  refine CW.ret ?_
  refine RQ.r1 rfl ?_
  refine ⟨?_, hB⟩
  first | rfl | exact absurd hx (has_not (by omega) hno)
theorem c_spec_l02DrawPlainSides {w : World} {b : World} {ps : Addr} {vc : Value} {bs : List Int} {at_ : Nat} {sd : Int} {S L : Int} (hB0 : Ext b w) (htb_ps : Bx w ps [vc, .int .i64 ((at_ : Nat) : Int), .int .u64 sd]) (htl_ps : Lo b (some ps.block)) (ha : Rd EU8 b vc bs) (hg : ∀ x ∈ bs, 0 ≤ x ∧ x ≤ 255) (hat : at_ ≤ 900) (hsd : 0 ≤ sd ∧ sd < 18446744073709551616) (hS2 : 1 ≤ S ∧ S ≤ 4) (hL2 : 1 ≤ L ∧ L ≤ 2) : Calls Try.prog 121 #[.pointer (some ps), .int .i64 S, .int .i64 L] w (Ret1 (fun v w' => UpdL [some ps.block] w w' ∧ ∃ (x2 : List Int) (x3 : List Bool) (at2 : Nat) (sd2 : Int) (u2 : Value) (og_u2 : Option Nat) (u3 : Value) (og_u3 : Option Nat), v = .agg #[.int .i64 S, .int .i64 L, u2, u3] ∧ ((x2.length : Int) = S * L ∧ (x3.length : Int) = S) ∧ (∀ y ∈ x2, 0 ≤ y ∧ y ≤ S - 1) ∧ (at2 ≤ at_ + 40 ∧ 0 ≤ sd2 ∧ sd2 < 18446744073709551616) ∧ Bx w' ps [vc, .int .i64 ((at2 : Nat) : Int), .int .u64 sd2] ∧ Osl VI w' og_u2 u2 (x2) ∧ Lo w og_u2 ∧ Osl VB w' og_u3 u3 (x3) ∧ Lo w og_u3 ∧ Dj og_u2 og_u3)) := by
  have hB := hB0
  have hla := ha.leI; have hsq := sl8 (s := S) (l := L) (by omega) (by omega)
  refine callsOf (vs := [_, _, _]) Try.func121 rfl Try.ntmps121 rfl rfl ?_
  have hUB : UpdL [(some ps.block)] w w := UpdL.refl _ _
  have hb1 := htb_ps
  have hl1 := htl_ps
  have hkB_1 : OkB [(some ps.block)] w (some ps.block) := OkB.mem (by simp)
  have hgB_1 := OgR.refl w (some ps.block)
  refine CW.seq ?_
  refine CW.reg ?_
  refine WL.op rfl (OpK.alloc rfl T.zv64 rfl (fun b2 w1 hXw1 hb2 hge2 => ?_))
  have hl2 := Lo.new hB hge2
  have hd1_2 := Dj.new hb1.ltO hge2
  have hkB_2 := OkN.new hUB hge2
  have hgB_2 := OgR.new hUB.size hge2
  have hB := hB.trans hXw1
  have hb1 := hb1.up hXw1
  have hUB := hUB.ext hXw1
  refine WL.nilS ?_
  refine CW.seq ?_
  refine CW.reg ?_
  refine WL.mv rfl rfl ?_
  refine WL.mv rfl rfl ?_
  refine WL.pure rfl rfl rfl (PV.build (ks := [0, 1]) (os := [.tmp 10, .tmp 11]) (css := [[_], [_]]) (ds := [_, _, _, _]) T.bu64 rfl rfl ⟨rfl, rfl, trivial⟩ rfl) ?_
  refine WL.op rfl (OpK.alloc rfl T.zv64 rfl (fun b3 w2 hXw2 hb3 hge3 => ?_))
  have hl3 := Lo.new hB hge3
  have hd1_3 := Dj.new hb1.ltO hge3
  have hd2_3 := Dj.new hb2.ltO hge3
  have hkB_3 := OkN.new hUB hge3
  have hgB_3 := OgR.new hUB.size hge3
  have hB := hB.trans hXw2
  have hb1 := hb1.up hXw2
  have hb2 := hb2.up hXw2
  have hUB := hUB.ext hXw2
  refine WL.op rfl (OpK.storeA T.sz64 rfl rfl rfl rfl (by simp [Value.oneCell'] <;> first | done | (repeat' apply And.intro) <;> first | rfl | exact Osl.oneCell (by assumption) | exact Osn.oneCell (by assumption) | exact Rd.oneCell (by assumption) | exact Rd.oneCell (NL.rd (by assumption)) | assumption) hb3 (fun w3 hXw3 hb3 => ?_))
  have hB := hB.updL hXw3 hl3
  have hb1 := hb1.updD hXw3 hd1_3
  have hb2 := hb2.updD hXw3 hd2_3
  have hUB := hUB.step hXw3 hkB_3
  refine WL.nilS ?_
  refine CW.seq ?_
  refine CW.seq ?_
  refine CW.reg ?_
  refine WL.mv rfl rfl ?_
  refine WL.mv rfl rfl ?_
  refine WL.pure rfl rfl rfl (PV.mul rfl rfl (by constructor <;> omega)) ?_
  refine WL.asg rfl rfl ?_
  refine WL.nilS ?_
  refine CW.block ?_
  have ho4 : Osl VI w3 none (.slice none 0 0) [] := (Osl.nil _ _)
  have hl4 : Lo b none := Lo.nl _
  have hd1_4 : Dj (some ps.block) none := Dj.nlR _
  have hd2_4 : Dj (some b2.block) none := Dj.nlR _
  have hd3_4 : Dj (some b3.block) none := Dj.nlR _
  have hkB_4 := OkN.nl hUB
  have hgB_4 := OgR.lo hUB.size (Lo.nl _)
  have ho5 : Osl VB w3 none (.slice none 0 0) [] := (Osl.nil _ _)
  have hl5 : Lo b none := Lo.nl _
  have hd1_5 : Dj (some ps.block) none := Dj.nlR _
  have hd2_5 : Dj (some b2.block) none := Dj.nlR _
  have hd3_5 : Dj (some b3.block) none := Dj.nlR _
  have hd4_5 : Dj none none := Dj.nlR _
  have hkB_5 := OkN.nl hUB
  have hgB_5 := OgR.lo hUB.size (Lo.nl _)
  have hlt1 := hb1.ltO
  have hlt2 := hb2.ltO
  have hlt3 := hb3.ltO
  have hlt4 := ho4.ltO
  have hlt5 := ho5.ltO
  refine CW.loop (σk := [(0, _), (1, _), (6, _), (7, _)]) (fun ρ wz m => ∃ (v6 : Value) (og6 : Option Nat) (v7 : Value) (og7 : Option Nat) (k : Nat) (x2 : List Int) (aq : Nat) (sq : Int), ρ = [(8, .int .i64 (S * L - (k : Nat)))] ∧ m = (S * L).toNat - k ∧ UpdL [none, none, (some b3.block), (some ps.block)] w3 wz ∧ Osl VI wz og6 v6 (x2) ∧ OgR w3 none og6 ∧ Osl VB wz og7 v7 (([] : List Bool)) ∧ OgR w3 none og7 ∧ Bx wz b3 [.int .i64 S, .int .i64 L, v6, v7] ∧ Bx wz ps [vc, .int .i64 ((aq : Nat) : Int), .int .u64 sq] ∧ Dj og6 og7 ∧ ((k : Int) ≤ S * L) ∧ (x2.length = k) ∧ (∀ y ∈ x2, 0 ≤ y ∧ y ≤ S - 1) ∧ (aq ≤ at_ + k ∧ 0 ≤ sq ∧ sq < 18446744073709551616)) (ρ₀ := [(8, _)]) (m₀ := _) ⟨rfl, rfl, rfl, rfl, rfl, trivial⟩ ⟨(.slice none 0 0), none, (.slice none 0 0), none, 0, [], at_, sd, (by simp), rfl, (UpdL.refl _ _), osE ho4 (by rfl), OgR.refl _ _, osE ho5 (by rfl), OgR.refl _ _, bxE hb3 (by first | rfl | (simp_all; done) | (simp_all; omega)), bxE hb1 (by rfl), hd4_5, (by first | omega | rfl | (simp; done) | assumption | (simp_all; done)), (by rfl), (by intro y h; cases h), (by omega)⟩ ?_
  rintro _ wl1 _ ⟨v6, og6, v7, og7, k, x2, aq, sq, rfl, rfl, hU0, ho6, ha6, ho7, ha7, hb3, hb1, hd6_7, hk, hxl2, hx2, hs⟩
  have hUB := hUB.trans hU0 ⟨hkB_4, hkB_5, hkB_3, hkB_1, trivial⟩
  have hb2 := hb2.loop hU0 ⟨hd2_4, hd2_5, hd2_3, (Dj.symm hd1_2), trivial⟩
  have hl6 := Lo.ogr hl4 hB ha6
  have hg0_6 := ha6
  have hk0_6 : OkB [none, none, (some b3.block), (some ps.block)] w3 og6 := OkB.ogr (OkB.mem (by simp)) (Nat.le_refl _) ha6
  have hkB_6 := OkB.ogr hkB_4 (by first | assumption | exact UpdL.size (by assumption)) ha6
  have hgB_6 := OgR.trans hgB_4 (by first | assumption | exact UpdL.size (by assumption)) ha6
  have hd1_6 := Dj.ogr hd1_4 hlt1 ha6
  have hd2_6 := Dj.ogr hd2_4 hlt2 ha6
  have hd3_6 := Dj.ogr hd3_4 hlt3 ha6
  have hl7 := Lo.ogr hl5 hB ha7
  have hg0_7 := ha7
  have hk0_7 : OkB [none, none, (some b3.block), (some ps.block)] w3 og7 := OkB.ogr (OkB.mem (by simp)) (Nat.le_refl _) ha7
  have hkB_7 := OkB.ogr hkB_5 (by first | assumption | exact UpdL.size (by assumption)) ha7
  have hgB_7 := OgR.trans hgB_5 (by first | assumption | exact UpdL.size (by assumption)) ha7
  have hd1_7 := Dj.ogr hd1_5 hlt1 ha7
  have hd2_7 := Dj.ogr hd2_5 hlt2 ha7
  have hd3_7 := Dj.ogr hd3_5 hlt3 ha7
  have hk0_3 : OkB [none, none, (some b3.block), (some ps.block)] w3 (some b3.block) := OkB.mem (by simp)
  have hk0_1 : OkB [none, none, (some b3.block), (some ps.block)] w3 (some ps.block) := OkB.mem (by simp)
  have hB := hB.loop hU0 ⟨hl4, hl5, hl3, hl1, trivial⟩
  refine CW.seq ?_
  refine CW.seq ?_
  refine CW.reg ?_
  refine WL.mv rfl rfl ?_
  refine WL.pure rfl rfl rfl (PV.gtr rfl rfl) ?_
  refine WL.nilS ?_
  refine CW.cond rfl (fun hc1 => ?_) (fun hc1 => ?_)
  · skip
    try simp only [nq] at hc1
    refine CW.skipS ?_
    refine CW.seq ?_
    refine CW.block ?_
    refine CW.draw T.mixed (by kernel_rfl) (fun _ _ _ _ _ h => h) (fun w8 w9 => UpdL [og6, (some ps.block)] w8 w9) 8 (.take 0 (.take 1 (.take 2 (.take 3 (.must 4 (.must 5 (.must 6 (.take 7 (.must 8 .done))))))))) (by kernel_rfl) (fun w4 hXd => ?_)
    have hB := hB.trans hXd
    have hb1 := hb1.up hXd
    have hb2 := hb2.up hXd
    have hb3 := hb3.up hXd
    have ho6 := ho6.up hXd
    have ho7 := ho7.up hXd
    have hUB := hUB.ext hXd
    have hU0 := hU0.ext hXd
    have hBr := hB
    have hUR : UpdL [og6, (some ps.block)] w4 w4 := UpdL.refl _ _
    have hS := hUR
    have hkR_6 : OkB [og6, (some ps.block)] w4 og6 := OkB.mem (by simp)
    have hgR_6 := OgR.refl w4 og6
    have hkR_1 : OkB [og6, (some ps.block)] w4 (some ps.block) := OkB.mem (by simp)
    have hgR_1 := OgR.refl w4 (some ps.block)
    refine HP.take rfl rfl rfl rfl hS (fun wS hS1 => PV.fieldAddr T.fl64_2 rfl hb3.cells) ?_
    refine HP.take rfl rfl rfl rfl hS (fun wS hS1 => PV.load1 T.na28 rfl (by first | exact Bx.cells (Bx.loop (by assumption) hS1 ⟨(by first | assumption | exact Dj.symm (by assumption)), (by first | assumption | exact Dj.symm (by assumption)), trivial⟩) | exact Cells.up (by assumption) (hBr.trans hS1)) (Ext.refl _) rfl) ?_
    refine HP.take rfl rfl rfl rfl hS (fun wS hS1 => PV.move rfl) ?_
    refine HP.take rfl rfl rfl rfl hS (fun wS hS1 => PV.move rfl) ?_
    refine HP.must rfl rfl (OpK.call rfl T.cf109 rfl (c_spec_l00Src_pick hB (by first | assumption | exact Lo.nl _) (by first | assumption | exact Lo.nl _) (by first | assumption | exact Rd.up (by assumption) hB | exact Osl.rd (by assumption) | exact Osn.rdR (by assumption)) (by first | assumption | omega | (simp only [marks_len]; omega)) (by first | assumption | omega | (simp only [marks_len]; omega)) (by first | assumption | omega | (simp only [marks_len]; omega)) (by first | assumption | omega | (simp only [marks_len]; omega))) (fun rv1 w5 hR => ?_))
    obtain ⟨hUC10, r11, at212, sd213, rfl, hm14, hm15, hbn1⟩ := hR
    have hUB := hUB.trans hUC10 ⟨hkB_1, trivial⟩
    have hU0 := hU0.trans hUC10 ⟨hk0_1, trivial⟩
    have hUR := hUR.trans hUC10 ⟨hkR_1, trivial⟩
    have hb2 := hb2.loop hUC10 ⟨(Dj.symm hd1_2), trivial⟩
    have hb3 := hb3.loop hUC10 ⟨(Dj.symm hd1_3), trivial⟩
    have ho6 := ho6.loop hUC10 ⟨(Dj.symm hd1_6), trivial⟩
    have ho7 := ho7.loop hUC10 ⟨(Dj.symm hd1_7), trivial⟩
    have hB := hB.loop hUC10 ⟨hl1, trivial⟩
    refine ⟨hUR, ?_⟩
    have hS := hUR
    have hb1 := hbn1
    refine HP.must rfl rfl (OpK.buildS VI (os := [.tmp 24]) [_] rfl T.sl28 rfl rfl T.zv2 rfl (by intro z hz; first | rfl | (simp only [List.mem_cons, List.not_mem_nil, or_false] at hz; subst hz; exact (by first | exact Rd.cells1 (by assumption) | exact Osl.cells1 (by assumption) | exact Osn.cells1 (by assumption) | exact Rd.cells1 (NL.rd (by assumption)) | exact Inn.cell1 (by assumption) (by omega) | assumption | rfl))) rfl (fun v16 g16 w6 hXw6 ho16 hge16 => ?_))
    have hl16 := Lo.new hB hge16
    have hd1_16 := Dj.new hb1.ltO hge16
    have hd2_16 := Dj.new hb2.ltO hge16
    have hd3_16 := Dj.new hb3.ltO hge16
    have hd6_16 := Dj.new ho6.ltO hge16
    have hd7_16 := Dj.new ho7.ltO hge16
    have hkB_16 := OkN.new hUB hge16
    have hgB_16 := OgR.new hUB.size hge16
    have hk0_16 := OkN.new hU0 hge16
    have hg0_16 := OgR.new hU0.size hge16
    have hkR_16 := OkN.new hUR hge16
    have hgR_16 := OgR.new hUR.size hge16
    have hUR := hUR.ext hXw6
    refine ⟨hUR, ?_⟩
    have hS := hUR
    have hB := hB.trans hXw6
    have hb1 := hb1.up hXw6
    have hb2 := hb2.up hXw6
    have hb3 := hb3.up hXw6
    have ho6 := ho6.up hXw6
    have ho7 := ho7.up hXw6
    have hUB := hUB.ext hXw6
    have hU0 := hU0.ext hXw6
    refine HP.must rfl rfl (OpK.appendS (f := VI) rfl T.sl28 T.zv2 rfl rfl ho6 rfl (Osl.src ho16 (fun _ => rfl)) (by first | (simp only [List.length_cons, List.length_nil]; omega) | (simp_all; omega)) (fun v17 og17 w7 hXw7 ho17 hap17 => ?_))
    have hl17 := Lo.app hl6 hB hap17
    have hd1_17 := Dj.app hd1_6 hb1.ltO hap17
    have hd2_17 := Dj.app hd2_6 hb2.ltO hap17
    have hd3_17 := Dj.app hd3_6 hb3.ltO hap17
    have hd7_17 := Dj.app (Dj.symm hd6_7) ho7.ltO hap17
    have hd16_17 := Dj.app (Dj.symm hd6_16) ho16.ltO hap17
    have hkB_17 := OkN.app hUB hkB_6 hap17
    have hgB_17 := OgR.app hgB_6 hUB.size hap17
    have hk0_17 := OkN.app hU0 hk0_6 hap17
    have hg0_17 := OgR.app hg0_6 hU0.size hap17
    have hkR_17 := OkN.app hUR hkR_6 hap17
    have hgR_17 := OgR.app hgR_6 hUR.size hap17
    have hUR := hUR.step hXw7 hkR_6
    refine ⟨hUR, ?_⟩
    have hS := hUR
    have hB := hB.updL hXw7 hl6
    have hb1 := hb1.updD hXw7 hd1_6
    have hb2 := hb2.updD hXw7 hd2_6
    have hb3 := hb3.updD hXw7 hd3_6
    have ho7 := ho7.updD hXw7 (Dj.symm hd6_7)
    have ho16 := ho16.updD hXw7 (Dj.symm hd6_16)
    have hUB := hUB.step hXw7 hkB_6
    have hU0 := hU0.step hXw7 hk0_6
    refine HP.take rfl rfl rfl rfl hS (fun wS hS1 => PV.fieldAddr T.fl64_2 rfl hb3.cells) ?_
    refine HP.last rfl rfl (OpK.storeB T.sz28 rfl rfl (by first | rfl | exact Osl.oneCell (by assumption) | exact Osn.oneCell (by assumption) | exact Rd.oneCell (by assumption) | exact Rd.oneCell (NL.rd (by assumption)) | assumption) hb3 rfl (fun w8 hXw8 hb3 => ?_))
    have hB := hB.updL hXw8 hl3
    have hb1 := hb1.updD hXw8 hd1_3
    have hb2 := hb2.updD hXw8 hd2_3
    have ho7 := ho7.updD hXw8 (Dj.symm hd3_7)
    have ho16 := ho16.updD hXw8 (Dj.symm hd3_16)
    have ho17 := ho17.updD hXw8 (Dj.symm hd3_17)
    have hUB := hUB.step hXw8 hkB_3
    have hU0 := hU0.step hXw8 hk0_3
    refine HP.done ?_
    refine NQ.block ?_
    refine NQ.then ?_
    refine CW.reg ?_
    refine WL.mv rfl rfl ?_
    refine WL.pure rfl rfl rfl (PV.sub rfl rfl (by constructor <;> omega)) ?_
    refine WL.asg rfl rfl ?_
    refine WL.nil ?_
    refine NQ.next (ρ := [(8, _)]) ⟨rfl, rfl, rfl, rfl, rfl, trivial⟩ ?_
    exact ⟨_, ⟨v17, og17, v7, og7, k + 1, _, _, _, (by simp; omega), rfl, hU0, osE ho17 (by rfl), (by first | exact hg0_17 | exact OgR.weak hg0_17), osE ho7 (by rfl), (by first | exact hg0_7 | exact OgR.weak hg0_7), bxE hb3 (by rfl), bxE hb1 (by rfl), (Dj.symm hd7_17), (by first | omega | assumption | (simp_all; done) | (simp_all; omega)), (by simp [hxl2]), (by exact dr_in hx2 (by omega)), (by omega)⟩, by omega⟩
  try simp only [nq] at hc1
  refine CW.exit ?_
  refine XQ.then ?_
  refine XQ.then ?_
  refine XQ.here ?_
  refine NQ.then ?_
  refine CW.seq ?_
  refine CW.seq ?_
  refine CW.reg ?_
  refine WL.asg rfl rfl ?_
  refine WL.nilS ?_
  refine CW.block ?_
  have hlt1 := hb1.ltO
  have hlt2 := hb2.ltO
  have hlt3 := hb3.ltO
  have hlt6 := ho6.ltO
  have hlt7 := ho7.ltO
  refine CW.loop (σk := [(0, _), (1, _), (6, _), (7, _)]) (fun ρ wz m => ∃ (v18 : Value) (og18 : Option Nat) (v19 : Value) (og19 : Option Nat) (k3 : Nat) (x3 : List Bool) (aq : Nat) (sq : Int), ρ = [(9, .int .i64 (k3 : Nat))] ∧ m = S.toNat - k3 ∧ UpdL [og6, og7, (some b3.block), (some ps.block)] wl1 wz ∧ Osl VI wz og18 v18 (x2) ∧ OgR wl1 og6 og18 ∧ Osl VB wz og19 v19 (x3) ∧ OgR wl1 og7 og19 ∧ Bx wz b3 [.int .i64 S, .int .i64 L, v18, v19] ∧ Bx wz ps [vc, .int .i64 ((aq : Nat) : Int), .int .u64 sq] ∧ Dj og18 og19 ∧ ((k3 : Int) ≤ S) ∧ (x3.length = k3) ∧ (aq ≤ at_ + k + k3 ∧ 0 ≤ sq ∧ sq < 18446744073709551616)) (ρ₀ := [(9, _)]) (m₀ := _) ⟨rfl, rfl, rfl, rfl, rfl, trivial⟩ ⟨v6, og6, v7, og7, 0, [], aq, sq, rfl, rfl, (UpdL.refl _ _), osE ho6 (by rfl), OgR.refl _ _, osE ho7 (by rfl), OgR.refl _ _, bxE hb3 (by first | rfl | (simp_all; done) | (simp_all; omega)), bxE hb1 (by rfl), hd6_7, (by first | omega | rfl | (simp; done) | assumption | (simp_all; done)), (by rfl), (by omega)⟩ ?_
  rintro _ wl2 _ ⟨v18, og18, v19, og19, k3, x3, aq, sq, rfl, rfl, hU1, ho18, ha18, ho19, ha19, hb3, hb1, hd18_19, hk3, hxl3, hs⟩
  have hUB := hUB.trans hU1 ⟨hkB_6, hkB_7, hkB_3, hkB_1, trivial⟩
  have hb2 := hb2.loop hU1 ⟨hd2_6, hd2_7, hd2_3, (Dj.symm hd1_2), trivial⟩
  have hl18 := Lo.ogr hl6 hB ha18
  have hg1_18 := ha18
  have hk1_18 : OkB [og6, og7, (some b3.block), (some ps.block)] wl1 og18 := OkB.ogr (OkB.mem (by simp)) (Nat.le_refl _) ha18
  have hkB_18 := OkB.ogr hkB_6 (by first | assumption | exact UpdL.size (by assumption)) ha18
  have hgB_18 := OgR.trans hgB_6 (by first | assumption | exact UpdL.size (by assumption)) ha18
  have hd1_18 := Dj.ogr hd1_6 hlt1 ha18
  have hd2_18 := Dj.ogr hd2_6 hlt2 ha18
  have hd3_18 := Dj.ogr hd3_6 hlt3 ha18
  have hl19 := Lo.ogr hl7 hB ha19
  have hg1_19 := ha19
  have hk1_19 : OkB [og6, og7, (some b3.block), (some ps.block)] wl1 og19 := OkB.ogr (OkB.mem (by simp)) (Nat.le_refl _) ha19
  have hkB_19 := OkB.ogr hkB_7 (by first | assumption | exact UpdL.size (by assumption)) ha19
  have hgB_19 := OgR.trans hgB_7 (by first | assumption | exact UpdL.size (by assumption)) ha19
  have hd1_19 := Dj.ogr hd1_7 hlt1 ha19
  have hd2_19 := Dj.ogr hd2_7 hlt2 ha19
  have hd3_19 := Dj.ogr hd3_7 hlt3 ha19
  have hk1_3 : OkB [og6, og7, (some b3.block), (some ps.block)] wl1 (some b3.block) := OkB.mem (by simp)
  have hk1_1 : OkB [og6, og7, (some b3.block), (some ps.block)] wl1 (some ps.block) := OkB.mem (by simp)
  have hB := hB.loop hU1 ⟨hl6, hl7, hl3, hl1, trivial⟩
  refine CW.seq ?_
  refine CW.seq ?_
  refine CW.reg ?_
  refine WL.mv rfl rfl ?_
  refine WL.mv rfl rfl ?_
  refine WL.pure rfl rfl rfl (PV.lss rfl rfl) ?_
  refine WL.nilS ?_
  refine CW.cond rfl (fun hc2 => ?_) (fun hc2 => ?_)
  · skip
    try simp only [nq] at hc2
    refine CW.skipS ?_
    refine CW.seq ?_
    refine CW.block ?_
    refine CW.draw T.mixed (by kernel_rfl) (fun _ _ _ _ _ h => h) (fun w8 w9 => UpdL [og19, (some ps.block)] w8 w9) 7 (.take 0 (.take 1 (.take 2 (.must 3 (.must 4 (.must 5 (.take 6 (.must 7 .done)))))))) (by kernel_rfl) (fun w9 hXd => ?_)
    have hB := hB.trans hXd
    have hb1 := hb1.up hXd
    have hb2 := hb2.up hXd
    have hb3 := hb3.up hXd
    have ho18 := ho18.up hXd
    have ho19 := ho19.up hXd
    have hUB := hUB.ext hXd
    have hU1 := hU1.ext hXd
    have hBr := hB
    have hUR : UpdL [og19, (some ps.block)] w9 w9 := UpdL.refl _ _
    have hS := hUR
    have hkR_19 : OkB [og19, (some ps.block)] w9 og19 := OkB.mem (by simp)
    have hgR_19 := OgR.refl w9 og19
    have hkR_1 : OkB [og19, (some ps.block)] w9 (some ps.block) := OkB.mem (by simp)
    have hgR_1 := OgR.refl w9 (some ps.block)
    refine HP.take rfl rfl rfl rfl hS (fun wS hS1 => PV.fieldAddr T.fl64_3 rfl hb3.cells) ?_
    refine HP.take rfl rfl rfl rfl hS (fun wS hS1 => PV.load1 T.na62 rfl (by first | exact Bx.cells (Bx.loop (by assumption) hS1 ⟨(by first | assumption | exact Dj.symm (by assumption)), (by first | assumption | exact Dj.symm (by assumption)), trivial⟩) | exact Cells.up (by assumption) (hBr.trans hS1)) (Ext.refl _) rfl) ?_
    refine HP.take rfl rfl rfl rfl hS (fun wS hS1 => PV.move rfl) ?_
    refine HP.must rfl rfl (OpK.call rfl T.cf194 rfl (c_spec_l00Src_one hB (by first | assumption | exact Lo.nl _) (by first | assumption | exact Lo.nl _) (by first | assumption | exact Rd.up (by assumption) hB | exact Osl.rd (by assumption) | exact Osn.rdR (by assumption)) (by first | assumption | omega | (simp only [marks_len]; omega)) (by first | assumption | omega | (simp only [marks_len]; omega)) (by first | assumption | omega | (simp only [marks_len]; omega)) (by first | assumption | omega | (simp only [marks_len]; omega))) (fun rv2 w10 hR => ?_))
    obtain ⟨hUC22, r23, at224, sd225, rfl, hm26, hbn1⟩ := hR
    have hUB := hUB.trans hUC22 ⟨hkB_1, trivial⟩
    have hU1 := hU1.trans hUC22 ⟨hk1_1, trivial⟩
    have hUR := hUR.trans hUC22 ⟨hkR_1, trivial⟩
    have hb2 := hb2.loop hUC22 ⟨(Dj.symm hd1_2), trivial⟩
    have hb3 := hb3.loop hUC22 ⟨(Dj.symm hd1_3), trivial⟩
    have ho18 := ho18.loop hUC22 ⟨(Dj.symm hd1_18), trivial⟩
    have ho19 := ho19.loop hUC22 ⟨(Dj.symm hd1_19), trivial⟩
    have hB := hB.loop hUC22 ⟨hl1, trivial⟩
    refine ⟨hUR, ?_⟩
    have hS := hUR
    have hb1 := hbn1
    refine HP.must rfl rfl (OpK.buildS VB (os := [.tmp 36]) [_] rfl T.sl62 rfl rfl T.zv4 rfl (by intro z hz; first | rfl | (simp only [List.mem_cons, List.not_mem_nil, or_false] at hz; subst hz; exact (by first | exact Rd.cells1 (by assumption) | exact Osl.cells1 (by assumption) | exact Osn.cells1 (by assumption) | exact Rd.cells1 (NL.rd (by assumption)) | exact Inn.cell1 (by assumption) (by omega) | assumption | rfl))) rfl (fun v27 g27 w11 hXw11 ho27 hge27 => ?_))
    have hl27 := Lo.new hB hge27
    have hd1_27 := Dj.new hb1.ltO hge27
    have hd2_27 := Dj.new hb2.ltO hge27
    have hd3_27 := Dj.new hb3.ltO hge27
    have hd18_27 := Dj.new ho18.ltO hge27
    have hd19_27 := Dj.new ho19.ltO hge27
    have hkB_27 := OkN.new hUB hge27
    have hgB_27 := OgR.new hUB.size hge27
    have hk1_27 := OkN.new hU1 hge27
    have hg1_27 := OgR.new hU1.size hge27
    have hkR_27 := OkN.new hUR hge27
    have hgR_27 := OgR.new hUR.size hge27
    have hUR := hUR.ext hXw11
    refine ⟨hUR, ?_⟩
    have hS := hUR
    have hB := hB.trans hXw11
    have hb1 := hb1.up hXw11
    have hb2 := hb2.up hXw11
    have hb3 := hb3.up hXw11
    have ho18 := ho18.up hXw11
    have ho19 := ho19.up hXw11
    have hUB := hUB.ext hXw11
    have hU1 := hU1.ext hXw11
    refine HP.must rfl rfl (OpK.appendS (f := VB) rfl T.sl62 T.zv4 rfl rfl ho19 rfl (Osl.src ho27 (fun _ => rfl)) (by first | (simp only [List.length_cons, List.length_nil]; omega) | (simp_all; omega)) (fun v28 og28 w12 hXw12 ho28 hap28 => ?_))
    have hl28 := Lo.app hl19 hB hap28
    have hd1_28 := Dj.app hd1_19 hb1.ltO hap28
    have hd2_28 := Dj.app hd2_19 hb2.ltO hap28
    have hd3_28 := Dj.app hd3_19 hb3.ltO hap28
    have hd18_28 := Dj.app hd18_19 ho18.ltO hap28
    have hd27_28 := Dj.app (Dj.symm hd19_27) ho27.ltO hap28
    have hkB_28 := OkN.app hUB hkB_19 hap28
    have hgB_28 := OgR.app hgB_19 hUB.size hap28
    have hk1_28 := OkN.app hU1 hk1_19 hap28
    have hg1_28 := OgR.app hg1_19 hU1.size hap28
    have hkR_28 := OkN.app hUR hkR_19 hap28
    have hgR_28 := OgR.app hgR_19 hUR.size hap28
    have hUR := hUR.step hXw12 hkR_19
    refine ⟨hUR, ?_⟩
    have hS := hUR
    have hB := hB.updL hXw12 hl19
    have hb1 := hb1.updD hXw12 hd1_19
    have hb2 := hb2.updD hXw12 hd2_19
    have hb3 := hb3.updD hXw12 hd3_19
    have ho18 := ho18.updD hXw12 hd18_19
    have ho27 := ho27.updD hXw12 (Dj.symm hd19_27)
    have hUB := hUB.step hXw12 hkB_19
    have hU1 := hU1.step hXw12 hk1_19
    refine HP.take rfl rfl rfl rfl hS (fun wS hS1 => PV.fieldAddr T.fl64_3 rfl hb3.cells) ?_
    refine HP.last rfl rfl (OpK.storeB T.sz62 rfl rfl (by first | rfl | exact Osl.oneCell (by assumption) | exact Osn.oneCell (by assumption) | exact Rd.oneCell (by assumption) | exact Rd.oneCell (NL.rd (by assumption)) | assumption) hb3 rfl (fun w13 hXw13 hb3 => ?_))
    have hB := hB.updL hXw13 hl3
    have hb1 := hb1.updD hXw13 hd1_3
    have hb2 := hb2.updD hXw13 hd2_3
    have ho18 := ho18.updD hXw13 (Dj.symm hd3_18)
    have ho27 := ho27.updD hXw13 (Dj.symm hd3_27)
    have ho28 := ho28.updD hXw13 (Dj.symm hd3_28)
    have hUB := hUB.step hXw13 hkB_3
    have hU1 := hU1.step hXw13 hk1_3
    refine HP.done ?_
    refine NQ.block ?_
    refine NQ.then ?_
    refine CW.reg ?_
    refine WL.mv rfl rfl ?_
    refine WL.pure rfl rfl rfl (PV.add rfl rfl (by constructor <;> omega)) ?_
    refine WL.asg rfl rfl ?_
    refine WL.nil ?_
    refine NQ.next (ρ := [(9, _)]) ⟨rfl, rfl, rfl, rfl, rfl, trivial⟩ ?_
    exact ⟨_, ⟨v18, og18, v28, og28, k3 + 1, _, _, _, rfl, rfl, hU1, osE ho18 (by rfl), (by first | exact hg1_18 | exact OgR.weak hg1_18), osE ho28 (by rfl), (by first | exact hg1_28 | exact OgR.weak hg1_28), bxE hb3 (by rfl), bxE hb1 (by rfl), hd18_28, (by first | omega | assumption | (simp_all; done) | (simp_all; omega)), (by simp [hxl3]), (by omega)⟩, by omega⟩
  try simp only [nq] at hc2
  refine CW.exit ?_
  refine XQ.then ?_
  refine XQ.then ?_
  refine XQ.here ?_
  refine NQ.then ?_
  refine CW.seq ?_
  refine CW.reg ?_
  refine WL.pure rfl rfl rfl (PV.loadA T.ag64 rfl hb3.cells (Ext.refl _) rfl) ?_
  refine WL.op rfl (OpK.storeA T.sz64 rfl rfl rfl rfl (by simp [Value.oneCell'] <;> first | done | (repeat' apply And.intro) <;> first | rfl | exact Osl.oneCell (by assumption) | exact Osn.oneCell (by assumption) | exact Rd.oneCell (by assumption) | exact Rd.oneCell (NL.rd (by assumption)) | assumption) hb2 (fun w14 hXw14 hb2 => ?_))
  have hB := hB.updL hXw14 hl2
  have hb1 := hb1.updD hXw14 hd1_2
  have hb3 := hb3.updD hXw14 (Dj.symm hd2_3)
  have ho18 := ho18.updD hXw14 (Dj.symm hd2_18)
  have ho19 := ho19.updD hXw14 (Dj.symm hd2_19)
  have hUB := hUB.step hXw14 hkB_2
  refine WL.nilS ?_
  refine CW.ret ?_
  refine RQ.rc0 T.ag64 rfl (by first | exact Cells.up (by assumption) hB | exact Bx.cells (by assumption) | assumption) rfl ?_
  refine ⟨hUB, x2, x3, aq, sq, v18, og18, v19, og19, rfl, ?_, ?_, ?_, hb1, osE ho18 ?_, (by first | exact hl18 | exact Lo.ogn hgB_18), osE ho19 ?_, (by first | exact hl19 | exact Lo.ogn hgB_19), hd18_19⟩
  · skip
    omega
  · skip
    exact hx2
  · skip
    omega
  · skip
    rfl
  · skip
    rfl
theorem c_spec_R8Plain {w : World} {b : World} {vc : Value} {bs : List Int} {S L : Int} (hB0 : Ext b w) (ha : Rd EU8 b vc bs) (hg : ∀ x ∈ bs, 0 ≤ x ∧ x ≤ 255) (hS2 : 1 ≤ S ∧ S ≤ 4) (hL2 : 1 ≤ L ∧ L ≤ 2) : Calls Try.prog 38 #[vc, .int .i64 S, .int .i64 L] w (Ret1 (fun v w' => UpdL [] w w' ∧ ∃ (x2 : List Int) (x3 : List Bool) (u2 : Value) (og_u2 : Option Nat) (u3 : Value) (og_u3 : Option Nat), v = .agg #[.int .i64 S, .int .i64 L, u2, u3] ∧ (plainB S L x2 x3 = true) ∧ Osl VI w' og_u2 u2 (x2) ∧ Lo w og_u2 ∧ Osl VB w' og_u3 u3 (x3) ∧ Lo w og_u3 ∧ Dj og_u2 og_u3)) := by
  have hB := hB0
  refine callsOf (vs := [_, _, _]) Try.func38 rfl Try.ntmps38 rfl rfl ?_
  have hUB : UpdL [] w w := UpdL.refl _ _
  refine CW.seq ?_
  refine CW.reg ?_
  refine WL.op rfl (OpK.alloc rfl T.zv64 rfl (fun b1 w1 hXw1 hb1 hge1 => ?_))
  have hl1 := Lo.new hB hge1
  have hkB_1 := OkN.new hUB hge1
  have hgB_1 := OgR.new hUB.size hge1
  have hB := hB.trans hXw1
  have hUB := hUB.ext hXw1
  refine WL.nilS ?_
  refine CW.seq ?_
  refine CW.reg ?_
  refine WL.mv rfl rfl ?_
  refine WL.op rfl (OpK.call rfl T.cf107 rfl (c_spec_l00From (by first | assumption | exact Rd.up (by assumption) hB | exact Osl.rd (by assumption) | exact Osn.rdR (by assumption))) (fun rv1 w2 hR => ?_))
  obtain ⟨hXw2, b2, rfl, hb2, hge2⟩ := hR
  have hl2 := Lo.new hB hge2
  have hd1_2 := Dj.new hb1.ltO hge2
  have hkB_2 := OkN.new hUB hge2
  have hgB_2 := OgR.new hUB.size hge2
  have hB := hB.trans hXw2
  have hb1 := hb1.up hXw2
  have hUB := hUB.ext hXw2
  refine WL.asg rfl rfl ?_
  refine WL.nilS ?_
  refine CW.seq ?_
  refine CW.reg ?_
  refine WL.mv rfl rfl ?_
  refine WL.mv rfl rfl ?_
  refine WL.mv rfl rfl ?_
  refine WL.op rfl (OpK.call rfl T.cf121 rfl (c_spec_l02DrawPlainSides hB (by first | assumption | exact Lo.nl _) (by first | assumption | exact Lo.nl _) (by first | assumption | exact Rd.up (by assumption) hB | exact Osl.rd (by assumption) | exact Osn.rdR (by assumption)) (by first | assumption | omega | (simp only [marks_len]; omega)) (by first | assumption | omega | (simp only [marks_len]; omega)) (by first | assumption | omega | (simp only [marks_len]; omega)) (by first | assumption | omega | (simp only [marks_len]; omega)) (by first | assumption | omega | (simp only [marks_len]; omega))) (fun rv2 w3 hR => ?_))
  obtain ⟨hUC3, x24, x35, at26, sd27, v8, og8, v9, og9, rfl, hm10, hm11, hm12, hbn2, ho8, hq8, ho9, hq9, hd8_9⟩ := hR
  have hl8 := Lo.up hq8 hB
  have hd1_8 := Dj.lo hb1.ltO hq8
  have hd2_8 := Dj.lo hb2.ltO hq8
  have hkB_8 := OkN.lo hUB hq8
  have hgB_8 := OgR.lo hUB.size hq8
  have hl9 := Lo.up hq9 hB
  have hd1_9 := Dj.lo hb1.ltO hq9
  have hd2_9 := Dj.lo hb2.ltO hq9
  have hkB_9 := OkN.lo hUB hq9
  have hgB_9 := OgR.lo hUB.size hq9
  have hUB := hUB.trans hUC3 ⟨hkB_2, trivial⟩
  have hb1 := hb1.loop hUC3 ⟨hd1_2, trivial⟩
  have hB := hB.loop hUC3 ⟨hl2, trivial⟩
  have hb2 := hbn2
  refine WL.op rfl (OpK.storeA T.sz64 rfl rfl rfl rfl (by simp [Value.oneCell'] <;> first | done | (repeat' apply And.intro) <;> first | rfl | exact Osl.oneCell (by assumption) | exact Osn.oneCell (by assumption) | exact Rd.oneCell (by assumption) | exact Rd.oneCell (NL.rd (by assumption)) | assumption) hb1 (fun w4 hXw4 hb1 => ?_))
  have hB := hB.updL hXw4 hl1
  have hb2 := hb2.updD hXw4 (Dj.symm hd1_2)
  have ho8 := ho8.updD hXw4 (Dj.symm hd1_8)
  have ho9 := ho9.updD hXw4 (Dj.symm hd1_9)
  have hUB := hUB.step hXw4 hkB_1
  refine WL.nilS ?_
  refine CW.ret ?_
  refine RQ.rc0 T.ag64 rfl (by first | exact Cells.up (by assumption) hB | exact Bx.cells (by assumption) | assumption) rfl ?_
  refine ⟨hUB, x24, x35, v8, og8, v9, og9, rfl, ?_, osE ho8 ?_, (by first | exact hl8 | exact Lo.ogn hgB_8), osE ho9 ?_, (by first | exact hl9 | exact Lo.ogn hgB_9), hd8_9⟩
  · skip
    exact plain_dr (by omega) (by omega) (by assumption) (by assumption)
  · skip
    rfl
  · skip
    rfl
theorem c_impl_ValidPlain {w : World} {a0 : Int} {a1 : Int} {va2 : Value} {xa2 : List Int} {va3 : Value} {xa3 : List Bool}  (ha2 : Rd EI w va2 xa2) (ha3 : Rd EB w va3 xa3) : Calls Try.prog 122 #[.agg #[.int .i64 a0, .int .i64 a1, va2, va3]] w (Ret1 (RQt (.bool (decide ((1 ≤ a0 ∧ a0 ≤ 64) ∧ (1 ≤ a1 ∧ a1 ≤ 4) ∧ (xa2.length : Int) = a0 * a1 ∧ (xa3.length : Int) = a0 ∧ allIn xa2 0 (a0 - 1) = true))) w)) := by
  have hB : Ext w w := Ext.refl w
  have hla2 := ha2.leI; have hla3 := ha3.leI
  refine callsOf (vs := [_]) Try.func122 rfl Try.ntmps122 rfl rfl ?_
  refine CW.seq ?_
  refine CW.reg ?_
  refine WL.op rfl (OpK.box rfl rfl (by first | exact Rd.cells1 (by assumption) | exact Osl.cells1 (by assumption) | exact Osn.cells1 (by assumption) | exact Rd.cells1 (NL.rd (by assumption)) | exact Inn.cell1 (by assumption) (by omega) | assumption | rfl) (fun b1 w1 hXw1 hb1 hge1 => ?_))
  have hl1 := Lo.new hB hge1
  have hB := hB.trans hXw1
  refine WL.asg rfl rfl ?_
  refine WL.nilS ?_
  refine CW.seq ?_
  refine CW.reg ?_
  refine WL.pure rfl rfl rfl (PV.fieldAddr T.fl64_0 rfl hb1.cells) ?_
  refine WL.pure rfl rfl rfl (PV.load1 T.na2 rfl hb1.cells (Ext.refl _) rfl) ?_
  refine WL.op rfl (OpK.callR rfl T.cf104 rfl (c_impl_within) (fun w2 hXw2 => ?_))
  have hB := hB.trans hXw2
  have hb1 := hb1.up hXw2
  refine WL.mv rfl rfl ?_
  refine WL.split (t := 6) rfl (fun hc1 => ?_) (fun hc1 => ?_)
  rotate_left
  · skip
    try simp only [nq] at hc1
    refine WL.skip rfl rfl rfl rfl rfl ?_
    refine WL.skip rfl rfl rfl rfl rfl ?_
    refine WL.skip rfl rfl rfl rfl rfl ?_
    refine WL.pure rfl rfl rfl (PV.pickF rfl rfl) ?_
    refine WL.mv rfl rfl ?_
    refine WL.skip rfl rfl rfl rfl rfl ?_
    refine WL.skip rfl rfl rfl rfl rfl ?_
    refine WL.skip rfl rfl rfl rfl rfl ?_
    refine WL.skip rfl rfl rfl rfl rfl ?_
    refine WL.skip rfl rfl rfl rfl rfl ?_
    refine WL.skip rfl rfl rfl rfl rfl ?_
    refine WL.skip rfl rfl rfl rfl rfl ?_
    refine WL.skip rfl rfl rfl rfl rfl ?_
    refine WL.skip rfl rfl rfl rfl rfl ?_
    refine WL.pure rfl rfl rfl (PV.pickF rfl rfl) ?_
    refine WL.mv rfl rfl ?_
    refine WL.skip rfl rfl rfl rfl rfl ?_
    refine WL.skip rfl rfl rfl rfl rfl ?_
    refine WL.skip rfl rfl rfl rfl rfl ?_
    refine WL.skip rfl rfl rfl rfl rfl ?_
    refine WL.skip rfl rfl rfl rfl rfl ?_
    refine WL.skip rfl rfl rfl rfl rfl ?_
    refine WL.pure rfl rfl rfl (PV.pickF rfl rfl) ?_
    refine WL.mv rfl rfl ?_
    refine WL.skip rfl rfl rfl rfl rfl ?_
    refine WL.skip rfl rfl rfl rfl rfl ?_
    refine WL.skip rfl rfl rfl rfl rfl ?_
    refine WL.skip rfl rfl rfl rfl rfl ?_
    refine WL.skip rfl rfl rfl rfl rfl ?_
    refine WL.skip rfl rfl rfl rfl rfl ?_
    refine WL.pure rfl rfl rfl (PV.pickF rfl rfl) ?_
    refine WL.asg rfl rfl ?_
    refine WL.nilS ?_
    refine CW.ret ?_
    refine RQ.r1 rfl ?_
    refine ⟨?_, hB⟩
    first | exact bD ⟨fun h => ⟨by omega, by omega, by omega, by omega, by assumption⟩, fun h => h.2.2.2.1⟩ | exact bF (by rintro ⟨h1, h2, h3, h4, h5⟩; first | omega | (simp_all; done))
  try simp only [nq] at hc1
  refine WL.pureG rfl rfl rfl rfl rfl (PV.fieldAddr T.fl64_1 rfl hb1.cells) ?_
  refine WL.pureG rfl rfl rfl rfl rfl (PV.load1 T.na2 rfl hb1.cells (Ext.refl _) rfl) ?_
  refine WL.opG rfl rfl rfl (OpK.callR rfl T.cf104 rfl (c_impl_within) (fun w3 hXw3 => ?_))
  have hB := hB.trans hXw3
  have hb1 := hb1.up hXw3
  refine WL.pure rfl rfl rfl (PV.pickT rfl rfl) ?_
  refine WL.mv rfl rfl ?_
  refine WL.split (t := 11) rfl (fun hc2 => ?_) (fun hc2 => ?_)
  rotate_left
  · skip
    try simp only [nq] at hc2
    refine WL.skip rfl rfl rfl rfl rfl ?_
    refine WL.skip rfl rfl rfl rfl rfl ?_
    refine WL.skip rfl rfl rfl rfl rfl ?_
    refine WL.skip rfl rfl rfl rfl rfl ?_
    refine WL.skip rfl rfl rfl rfl rfl ?_
    refine WL.skip rfl rfl rfl rfl rfl ?_
    refine WL.skip rfl rfl rfl rfl rfl ?_
    refine WL.skip rfl rfl rfl rfl rfl ?_
    refine WL.skip rfl rfl rfl rfl rfl ?_
    refine WL.pure rfl rfl rfl (PV.pickF rfl rfl) ?_
    refine WL.mv rfl rfl ?_
    refine WL.skip rfl rfl rfl rfl rfl ?_
    refine WL.skip rfl rfl rfl rfl rfl ?_
    refine WL.skip rfl rfl rfl rfl rfl ?_
    refine WL.skip rfl rfl rfl rfl rfl ?_
    refine WL.skip rfl rfl rfl rfl rfl ?_
    refine WL.skip rfl rfl rfl rfl rfl ?_
    refine WL.pure rfl rfl rfl (PV.pickF rfl rfl) ?_
    refine WL.mv rfl rfl ?_
    refine WL.skip rfl rfl rfl rfl rfl ?_
    refine WL.skip rfl rfl rfl rfl rfl ?_
    refine WL.skip rfl rfl rfl rfl rfl ?_
    refine WL.skip rfl rfl rfl rfl rfl ?_
    refine WL.skip rfl rfl rfl rfl rfl ?_
    refine WL.skip rfl rfl rfl rfl rfl ?_
    refine WL.pure rfl rfl rfl (PV.pickF rfl rfl) ?_
    refine WL.asg rfl rfl ?_
    refine WL.nilS ?_
    refine CW.ret ?_
    refine RQ.r1 rfl ?_
    refine ⟨?_, hB⟩
    first | exact bD ⟨fun h => ⟨by omega, by omega, by omega, by omega, by assumption⟩, fun h => h.2.2.2.1⟩ | exact bF (by rintro ⟨h1, h2, h3, h4, h5⟩; first | omega | (simp_all; done))
  try simp only [nq] at hc2
  refine WL.pureG rfl rfl rfl rfl rfl (PV.fieldAddr T.fl64_2 rfl hb1.cells) ?_
  refine WL.pureG rfl rfl rfl rfl rfl (PV.load1 T.na28 rfl hb1.cells (Ext.refl _) rfl) ?_
  refine WL.pureG rfl rfl rfl rfl rfl ((by first | exact PV.len rfl (by assumption) T.sl28 | exact PV.lenOs rfl (by assumption) T.sl28 | exact PV.len rfl (NL.rd (by assumption)) T.sl28 | exact PV.len rfl (Inn.rd (by assumption) (by omega)) T.sl28)) ?_
  refine WL.pureG rfl rfl rfl rfl rfl (PV.fieldAddr T.fl64_0 rfl hb1.cells) ?_
  refine WL.pureG rfl rfl rfl rfl rfl (PV.load1 T.na2 rfl hb1.cells (Ext.refl _) rfl) ?_
  refine WL.pureG rfl rfl rfl rfl rfl (PV.fieldAddr T.fl64_1 rfl hb1.cells) ?_
  refine WL.pureG rfl rfl rfl rfl rfl (PV.load1 T.na2 rfl hb1.cells (Ext.refl _) rfl) ?_
  refine WL.pureG rfl rfl rfl rfl rfl (PV.mul rfl rfl (by constructor <;> (have hsl := sl256 (s := a0) (l := a1) (by omega) (by omega); omega))) ?_
  refine WL.pureG rfl rfl rfl rfl rfl (PV.eql rfl rfl) ?_
  refine WL.pure rfl rfl rfl (PV.pickT rfl rfl) ?_
  refine WL.mv rfl rfl ?_
  refine WL.split (t := 22) rfl (fun hc3 => ?_) (fun hc3 => ?_)
  rotate_left
  · skip
    try simp only [nq] at hc3
    refine WL.skip rfl rfl rfl rfl rfl ?_
    refine WL.skip rfl rfl rfl rfl rfl ?_
    refine WL.skip rfl rfl rfl rfl rfl ?_
    refine WL.skip rfl rfl rfl rfl rfl ?_
    refine WL.skip rfl rfl rfl rfl rfl ?_
    refine WL.skip rfl rfl rfl rfl rfl ?_
    refine WL.pure rfl rfl rfl (PV.pickF rfl rfl) ?_
    refine WL.mv rfl rfl ?_
    refine WL.skip rfl rfl rfl rfl rfl ?_
    refine WL.skip rfl rfl rfl rfl rfl ?_
    refine WL.skip rfl rfl rfl rfl rfl ?_
    refine WL.skip rfl rfl rfl rfl rfl ?_
    refine WL.skip rfl rfl rfl rfl rfl ?_
    refine WL.skip rfl rfl rfl rfl rfl ?_
    refine WL.pure rfl rfl rfl (PV.pickF rfl rfl) ?_
    refine WL.asg rfl rfl ?_
    refine WL.nilS ?_
    refine CW.ret ?_
    refine RQ.r1 rfl ?_
    refine ⟨?_, hB⟩
    first | exact bD ⟨fun h => ⟨by omega, by omega, by omega, by omega, by assumption⟩, fun h => h.2.2.2.1⟩ | exact bF (by rintro ⟨h1, h2, h3, h4, h5⟩; first | omega | (simp_all; done))
  try simp only [nq] at hc3
  refine WL.pureG rfl rfl rfl rfl rfl (PV.fieldAddr T.fl64_2 rfl hb1.cells) ?_
  refine WL.pureG rfl rfl rfl rfl rfl (PV.load1 T.na28 rfl hb1.cells (Ext.refl _) rfl) ?_
  refine WL.pureG rfl rfl rfl rfl rfl (PV.fieldAddr T.fl64_0 rfl hb1.cells) ?_
  refine WL.pureG rfl rfl rfl rfl rfl (PV.load1 T.na2 rfl hb1.cells (Ext.refl _) rfl) ?_
  refine WL.pureG rfl rfl rfl rfl rfl (PV.sub rfl rfl (by constructor <;> omega)) ?_
  refine WL.opG rfl rfl rfl (OpK.callR rfl T.cf144 rfl (c_impl_areWithin (by first | assumption | exact Rd.up (by assumption) hB | exact Osl.rd (by assumption) | exact Osn.rdR (by assumption))) (fun w4 hXw4 => ?_))
  have hB := hB.trans hXw4
  have hb1 := hb1.up hXw4
  refine WL.pure rfl rfl rfl (PV.pickT rfl rfl) ?_
  refine WL.mv rfl rfl ?_
  refine WL.split (t := 30) rfl (fun hc4 => ?_) (fun hc4 => ?_)
  rotate_left
  · skip
    try simp only [nq] at hc4
    refine WL.skip rfl rfl rfl rfl rfl ?_
    refine WL.skip rfl rfl rfl rfl rfl ?_
    refine WL.skip rfl rfl rfl rfl rfl ?_
    refine WL.skip rfl rfl rfl rfl rfl ?_
    refine WL.skip rfl rfl rfl rfl rfl ?_
    refine WL.skip rfl rfl rfl rfl rfl ?_
    refine WL.pure rfl rfl rfl (PV.pickF rfl rfl) ?_
    refine WL.asg rfl rfl ?_
    refine WL.nilS ?_
    refine CW.ret ?_
    refine RQ.r1 rfl ?_
    refine ⟨?_, hB⟩
    first | exact bD ⟨fun h => ⟨by omega, by omega, by omega, by omega, by assumption⟩, fun h => h.2.2.2.1⟩ | exact bF (by rintro ⟨h1, h2, h3, h4, h5⟩; first | omega | (simp_all; done))
  try simp only [nq] at hc4
  refine WL.pureG rfl rfl rfl rfl rfl (PV.fieldAddr T.fl64_3 rfl hb1.cells) ?_
  refine WL.pureG rfl rfl rfl rfl rfl (PV.load1 T.na62 rfl hb1.cells (Ext.refl _) rfl) ?_
  refine WL.pureG rfl rfl rfl rfl rfl ((by first | exact PV.len rfl (by assumption) T.sl62 | exact PV.lenOs rfl (by assumption) T.sl62 | exact PV.len rfl (NL.rd (by assumption)) T.sl62 | exact PV.len rfl (Inn.rd (by assumption) (by omega)) T.sl62)) ?_
  refine WL.pureG rfl rfl rfl rfl rfl (PV.fieldAddr T.fl64_0 rfl hb1.cells) ?_
  refine WL.pureG rfl rfl rfl rfl rfl (PV.load1 T.na2 rfl hb1.cells (Ext.refl _) rfl) ?_
  refine WL.pureG rfl rfl rfl rfl rfl (PV.eql rfl rfl) ?_
  refine WL.pure rfl rfl rfl (PV.pickT rfl rfl) ?_
  refine WL.asg rfl rfl ?_
  refine WL.nilS ?_
  refine CW.ret ?_
  refine RQ.r1 rfl ?_
  refine ⟨?_, hB⟩
  first | exact bD ⟨fun h => ⟨by omega, by omega, by omega, by omega, by assumption⟩, fun h => h.2.2.2.1⟩ | exact bF (by rintro ⟨h1, h2, h3, h4, h5⟩; first | omega | (simp_all; done))
theorem c_impl_Plain_to {w : World} {a0 : Int} {a1 : Int} {va2 : Value} {xa2 : List Int} {va3 : Value} {xa3 : List Bool} {i k : Int} (ha2 : Rd EI w va2 xa2) (ha3 : Rd EB w va3 xa3) (h1 : 1 ≤ a0 ∧ a0 ≤ 64) (h2 : 1 ≤ a1 ∧ a1 ≤ 4) (hi : 0 ≤ i ∧ i < a0) (hk : 0 ≤ k ∧ k < a1) (hn : (xa2.length : Int) = a0 * a1) : Calls Try.prog 123 #[.agg #[.int .i64 a0, .int .i64 a1, va2, va3], .int .i64 i, .int .i64 k] w (Ret1 (RQt (.int .i64 (xa2.getD (i * a1 + k).toNat 0)) w)) := by
  have hB : Ext w w := Ext.refl w
  have hla2 := ha2.leI; have hla3 := ha3.leI; have hpx := plain_idx h2 h1 hi hk hn
  refine callsOf (vs := [_, _, _]) Try.func123 rfl Try.ntmps123 rfl rfl ?_
  refine CW.seq ?_
  refine CW.reg ?_
  refine WL.op rfl (OpK.box rfl rfl (by first | exact Rd.cells1 (by assumption) | exact Osl.cells1 (by assumption) | exact Osn.cells1 (by assumption) | exact Rd.cells1 (NL.rd (by assumption)) | exact Inn.cell1 (by assumption) (by omega) | assumption | rfl) (fun b1 w1 hXw1 hb1 hge1 => ?_))
  have hl1 := Lo.new hB hge1
  have hB := hB.trans hXw1
  refine WL.asg rfl rfl ?_
  refine WL.nilS ?_
  refine CW.seq ?_
  refine CW.reg ?_
  refine WL.pure rfl rfl rfl (PV.fieldAddr T.fl64_2 rfl hb1.cells) ?_
  refine WL.pure rfl rfl rfl (PV.load1 T.na28 rfl hb1.cells (Ext.refl _) rfl) ?_
  refine WL.mv rfl rfl ?_
  refine WL.pure rfl rfl rfl (PV.fieldAddr T.fl64_1 rfl hb1.cells) ?_
  refine WL.pure rfl rfl rfl (PV.load1 T.na2 rfl hb1.cells (Ext.refl _) rfl) ?_
  refine WL.pure rfl rfl rfl (PV.mul rfl rfl (by constructor <;> omega)) ?_
  refine WL.mv rfl rfl ?_
  refine WL.pure rfl rfl rfl (PV.add rfl rfl (by constructor <;> omega)) ?_
  first
    | refine WL.at (x := .tmp 8) (y := .tmp 14) (E := EI) (0) rfl rfl (by first | assumption | exact Inn.rd (by assumption) (by omega)) (by first | omega | (simp only [List.length_set]; omega) | (simp only [List.length_append, List.length_take, List.length_replicate, List.length_drop]; omega)) (fun p1 csp1 hpp1 hcp1 hq => ?_)
    | refine WL.atZ (x := .tmp 8) (y := .tmp 14) (E := EI) (0) rfl rfl (by first | assumption | exact Inn.rd (by assumption) (by omega)) (by first | omega | (simp only [List.length_set]; omega) | (simp only [List.length_append, List.length_take, List.length_replicate, List.length_drop]; omega)) (fun p1 csp1 hpp1 hzp1 hcp1 hq => ?_)
  cases hq
  refine WL.pure rfl rfl rfl ((by first | exact PV.indexAddr hpp1 rfl rfl T.sl28 | exact PV.indexAddr hpp1 rfl (by rw [← hzp1]; rfl) T.sl28)) ?_
  refine WL.pure rfl rfl rfl ((by first | exact PV.load0 T.na2 rfl (by first | exact Cells.up (by assumption) hB | exact Bx.cells (by assumption) | assumption) (Ext.refl _) rfl | exact PV.load1 T.na2 rfl (by first | exact Cells.up (by assumption) hB | exact Bx.cells (by assumption) | assumption) (Ext.refl _) rfl)) ?_
  refine WL.asg rfl rfl ?_
  refine WL.nilS ?_
  refine CW.ret ?_
  refine RQ.r1 rfl ?_
  refine ⟨?_, hB⟩
  first | rfl | exact bT (by omega) | exact bF (by omega) | exact bD (by omega) | exact iE (by omega) | (simp_all; done) | (simp_all; omega) | (simp_all; intros; omega)
theorem c_impl_GrammarOf {w : World} {a0 : Int} {a1 : Int} {va2 : Value} {xa2 : List Int} {va3 : Value} {xa3 : List Bool}  (ha2 : Rd EI w va2 xa2) (ha3 : Rd EB w va3 xa3) : Calls Try.prog 39 #[.agg #[.int .i64 a0, .int .i64 a1, va2, va3]] w (Ret1 (fun v w' => Ext w w' ∧ ∃ u2 og_u2, v = .tuple #[.agg #[.int .i64 (onI (okG a0 a1 xa2 xa3) (a0 + a1)), .int .i64 (onI (okG a0 a1 xa2 xa3) a1), u2], .bool (okG a0 a1 xa2 xa3)] ∧ Osn 4 gR w' og_u2 u2 (onT (okG a0 a1 xa2 xa3) (allG a0 a1 xa2 xa3)) ∧ Lo w og_u2)) := by
  have hB : Ext w w := Ext.refl w
  have hla2 := ha2.leI; have hla3 := ha3.leI
  refine callsOf (vs := [_]) Try.func39 rfl Try.ntmps39 rfl rfl ?_
  refine CW.seq ?_
  refine CW.reg ?_
  refine WL.op rfl (OpK.box rfl rfl (by first | exact Rd.cells1 (by assumption) | exact Osl.cells1 (by assumption) | exact Osn.cells1 (by assumption) | exact Rd.cells1 (NL.rd (by assumption)) | exact Inn.cell1 (by assumption) (by omega) | assumption | rfl) (fun b1 w1 hXw1 hb1 hge1 => ?_))
  have hl1 := Lo.new hB hge1
  have hB := hB.trans hXw1
  refine WL.op rfl (OpK.alloc rfl T.zv33 rfl (fun b2 w2 hXw2 hb2 hge2 => ?_))
  have hl2 := Lo.new hB hge2
  have hd1_2 := Dj.new hb1.ltO hge2
  have hB := hB.trans hXw2
  have hb1 := hb1.up hXw2
  refine WL.asg rfl rfl ?_
  refine WL.nilS ?_
  refine CW.seq ?_
  refine CW.seq ?_
  refine CW.reg ?_
  refine WL.pure rfl rfl rfl (PV.loadA T.ag64 rfl hb1.cells (Ext.refl _) rfl) ?_
  refine WL.op rfl (OpK.callR rfl T.cf122 rfl (c_impl_ValidPlain (by first | assumption | exact Rd.up (by assumption) hB | exact Osl.rd (by assumption) | exact Osn.rdR (by assumption)) (by first | assumption | exact Rd.up (by assumption) hB | exact Osl.rd (by assumption) | exact Osn.rdR (by assumption))) (fun w3 hXw3 => ?_))
  have hB := hB.trans hXw3
  have hb1 := hb1.up hXw3
  have hb2 := hb2.up hXw3
  refine WL.pure rfl rfl rfl (PV.not rfl) ?_
  refine WL.mv rfl rfl ?_
  refine WL.split (t := 12) rfl (fun hc1 => ?_) (fun hc1 => ?_)
  · skip
    try simp only [nq] at hc1
    refine WL.skip rfl rfl rfl rfl rfl ?_
    refine WL.skip rfl rfl rfl rfl rfl ?_
    refine WL.skip rfl rfl rfl rfl rfl ?_
    refine WL.skip rfl rfl rfl rfl rfl ?_
    refine WL.skip rfl rfl rfl rfl rfl ?_
    refine WL.skip rfl rfl rfl rfl rfl ?_
    refine WL.pure rfl rfl rfl (PV.pickT rfl rfl) ?_
    refine WL.nilS ?_
    refine CW.condT rfl ?_
    refine CW.seq ?_
    refine CW.reg ?_
    refine WL.pure rfl rfl rfl (PV.build (ks := []) (os := []) (css := []) (ds := [_, _, _]) T.bu33 rfl rfl trivial rfl) ?_
    refine WL.op rfl (OpK.storeA T.sz33 rfl rfl rfl rfl (by simp [Value.oneCell'] <;> first | done | (repeat' apply And.intro) <;> first | rfl | exact Osl.oneCell (by assumption) | exact Osn.oneCell (by assumption) | exact Rd.oneCell (by assumption) | exact Rd.oneCell (NL.rd (by assumption)) | assumption) hb2 (fun w4 hXw4 hb2 => ?_))
    have hB := hB.updL hXw4 hl2
    have hb1 := hb1.updD hXw4 hd1_2
    refine WL.asg rfl rfl ?_
    refine WL.nilS ?_
    refine CW.ret ?_
    refine RQ.then ?_
    refine RQ.rc1 T.ag33 rfl (by first | exact Cells.up (by assumption) hB | exact Bx.cells (by assumption) | assumption) rfl rfl ?_
    refine ⟨hB, (.slice none 0 0), none, ?_, osnE (Osn.nil gR_ok _) ?_, Lo.nl _⟩
    · skip
      first | (exact tE2 (by rw [onI_no (by first | exact okG_no1 (by assumption) | exact okG_no2 (by omega) | exact okG_no3 (by unfold allG; assumption)), onI_no (by first | exact okG_no1 (by assumption) | exact okG_no2 (by omega) | exact okG_no3 (by unfold allG; assumption))]) (bE (Bool.eq_false_iff.2 (by first | exact okG_no1 (by assumption) | exact okG_no2 (by omega) | exact okG_no3 (by unfold allG; assumption))).symm)) | (exact tE2 (by rw [onI_yes (okG_yes (by assumption) (by omega) (by unfold allG; assumption)), onI_yes (okG_yes (by assumption) (by omega) (by unfold allG; assumption))]; rfl) (bE (okG_yes (by assumption) (by omega) (by unfold allG; assumption)).symm)) | (exact tE2 (by rw [onI_yes (okG_yes (by assumption) (by omega) (by unfold allG; assumption)), onI_yes (okG_yes (by assumption) (by omega) (by unfold allG; assumption))]) (bE (okG_yes (by assumption) (by omega) (by unfold allG; assumption)).symm))
    · skip
      first | (rw [onT_no (by first | exact okG_no1 (by assumption) | exact okG_no2 (by omega) | exact okG_no3 (by unfold allG; assumption))]; done) | (rw [onT_yes (okG_yes (by assumption) (by omega) (by unfold allG; assumption))]; rfl)
  try simp only [nq] at hc1
  refine WL.pureG rfl rfl rfl rfl rfl (PV.fieldAddr T.fl64_0 rfl hb1.cells) ?_
  refine WL.pureG rfl rfl rfl rfl rfl (PV.load1 T.na2 rfl hb1.cells (Ext.refl _) rfl) ?_
  refine WL.pureG rfl rfl rfl rfl rfl (PV.fieldAddr T.fl64_1 rfl hb1.cells) ?_
  refine WL.pureG rfl rfl rfl rfl rfl (PV.load1 T.na2 rfl hb1.cells (Ext.refl _) rfl) ?_
  refine WL.pureG rfl rfl rfl rfl rfl (PV.add rfl rfl (by constructor <;> omega)) ?_
  refine WL.pureG rfl rfl rfl rfl rfl (PV.gtr rfl rfl) ?_
  refine WL.pure rfl rfl rfl (PV.pickF rfl rfl) ?_
  refine WL.nilS ?_
  refine CW.cond rfl (fun hc2 => ?_) (fun hc2 => ?_)
  · skip
    try simp only [nq] at hc2
    refine CW.seq ?_
    refine CW.reg ?_
    refine WL.pure rfl rfl rfl (PV.build (ks := []) (os := []) (css := []) (ds := [_, _, _]) T.bu33 rfl rfl trivial rfl) ?_
    refine WL.op rfl (OpK.storeA T.sz33 rfl rfl rfl rfl (by simp [Value.oneCell'] <;> first | done | (repeat' apply And.intro) <;> first | rfl | exact Osl.oneCell (by assumption) | exact Osn.oneCell (by assumption) | exact Rd.oneCell (by assumption) | exact Rd.oneCell (NL.rd (by assumption)) | assumption) hb2 (fun w5 hXw5 hb2 => ?_))
    have hB := hB.updL hXw5 hl2
    have hb1 := hb1.updD hXw5 hd1_2
    refine WL.asg rfl rfl ?_
    refine WL.nilS ?_
    refine CW.ret ?_
    refine RQ.then ?_
    refine RQ.rc1 T.ag33 rfl (by first | exact Cells.up (by assumption) hB | exact Bx.cells (by assumption) | assumption) rfl rfl ?_
    refine ⟨hB, (.slice none 0 0), none, ?_, osnE (Osn.nil gR_ok _) ?_, Lo.nl _⟩
    · skip
      first | (exact tE2 (by rw [onI_no (by first | exact okG_no1 (by assumption) | exact okG_no2 (by omega) | exact okG_no3 (by unfold allG; assumption)), onI_no (by first | exact okG_no1 (by assumption) | exact okG_no2 (by omega) | exact okG_no3 (by unfold allG; assumption))]) (bE (Bool.eq_false_iff.2 (by first | exact okG_no1 (by assumption) | exact okG_no2 (by omega) | exact okG_no3 (by unfold allG; assumption))).symm)) | (exact tE2 (by rw [onI_yes (okG_yes (by assumption) (by omega) (by unfold allG; assumption)), onI_yes (okG_yes (by assumption) (by omega) (by unfold allG; assumption))]; rfl) (bE (okG_yes (by assumption) (by omega) (by unfold allG; assumption)).symm)) | (exact tE2 (by rw [onI_yes (okG_yes (by assumption) (by omega) (by unfold allG; assumption)), onI_yes (okG_yes (by assumption) (by omega) (by unfold allG; assumption))]) (bE (okG_yes (by assumption) (by omega) (by unfold allG; assumption)).symm))
    · skip
      first | (rw [onT_no (by first | exact okG_no1 (by assumption) | exact okG_no2 (by omega) | exact okG_no3 (by unfold allG; assumption))]; done) | (rw [onT_yes (okG_yes (by assumption) (by omega) (by unfold allG; assumption))]; rfl)
  try simp only [nq] at hc2
  refine CW.skipS ?_
  refine CW.seq ?_
  refine CW.reg ?_
  obtain ⟨hp1, hp2, hp3, hp4, hal⟩ := (by assumption : (1 ≤ a0 ∧ a0 ≤ 64) ∧ (1 ≤ a1 ∧ a1 ≤ 4) ∧ (xa2.length : Int) = a0 * a1 ∧ (xa3.length : Int) = a0 ∧ allIn xa2 0 (a0 - 1) = true)
  refine WL.pure rfl rfl rfl (PV.fieldAddr T.fl64_0 rfl hb1.cells) ?_
  refine WL.pure rfl rfl rfl (PV.load1 T.na2 rfl hb1.cells (Ext.refl _) rfl) ?_
  refine WL.pure rfl rfl rfl (PV.fieldAddr T.fl64_1 rfl hb1.cells) ?_
  refine WL.pure rfl rfl rfl (PV.load1 T.na2 rfl hb1.cells (Ext.refl _) rfl) ?_
  refine WL.pure rfl rfl rfl (PV.add rfl rfl (by constructor <;> omega)) ?_
  refine WL.pure rfl rfl rfl (PV.fieldAddr T.fl64_1 rfl hb1.cells) ?_
  refine WL.pure rfl rfl rfl (PV.load1 T.na2 rfl hb1.cells (Ext.refl _) rfl) ?_
  refine WL.pure rfl rfl rfl (PV.build (ks := [0, 1]) (os := [.tmp 25, .tmp 27]) (css := [[_], [_]]) (ds := [_, _, _]) T.bu33 rfl rfl ⟨rfl, rfl, trivial⟩ rfl) ?_
  refine WL.op rfl (OpK.alloc rfl T.zv33 rfl (fun b3 w6 hXw6 hb3 hge3 => ?_))
  have hl3 := Lo.new hB hge3
  have hd1_3 := Dj.new hb1.ltO hge3
  have hd2_3 := Dj.new hb2.ltO hge3
  have hB := hB.trans hXw6
  have hb1 := hb1.up hXw6
  have hb2 := hb2.up hXw6
  refine WL.op rfl (OpK.storeA T.sz33 rfl rfl rfl rfl (by simp [Value.oneCell'] <;> first | done | (repeat' apply And.intro) <;> first | rfl | exact Osl.oneCell (by assumption) | exact Osn.oneCell (by assumption) | exact Rd.oneCell (by assumption) | exact Rd.oneCell (NL.rd (by assumption)) | assumption) hb3 (fun w7 hXw7 hb3 => ?_))
  have hB := hB.updL hXw7 hl3
  have hb1 := hb1.updD hXw7 hd1_3
  have hb2 := hb2.updD hXw7 hd2_3
  refine WL.nilS ?_
  refine CW.seq ?_
  refine CW.seq ?_
  refine CW.reg ?_
  refine WL.pure rfl rfl rfl (PV.fieldAddr T.fl64_0 rfl hb1.cells) ?_
  refine WL.pure rfl rfl rfl (PV.load1 T.na2 rfl hb1.cells (Ext.refl _) rfl) ?_
  refine WL.mv rfl rfl ?_
  refine WL.nilS ?_
  refine CW.block ?_
  have ho4 : Osn 4 gR w7 none (.slice none 0 0) [] := (Osn.nil gR_ok _)
  have hl4 : Lo w none := Lo.nl _
  have hd1_4 : Dj (some b1.block) none := Dj.nlR _
  have hd2_4 : Dj (some b2.block) none := Dj.nlR _
  have hd3_4 : Dj (some b3.block) none := Dj.nlR _
  have hlt1 := hb1.ltO
  have hlt2 := hb2.ltO
  have hlt3 := hb3.ltO
  have hlt4 := ho4.ltO
  refine CW.loop (σk := [(1, _), (2, _), (4, _), (30, _)]) (fun ρ wz m => ∃ (v5 : Value) (og5 : Option Nat) (i : Nat), ρ = [(31, .int .i64 (i : Nat))] ∧ m = a0.toNat - i ∧ UpdL [none, (some b3.block)] w7 wz ∧ Osn 4 gR wz og5 v5 (bodyG a0 a1 xa2 xa3 i) ∧ OgR w7 none og5 ∧ Bx wz b3 [.int .i64 (a0 + a1), .int .i64 a1, v5] ∧ ((i : Int) ≤ a0)) (ρ₀ := [(31, _)]) (m₀ := _) ⟨rfl, rfl, rfl, rfl, rfl, trivial⟩ ⟨(.slice none 0 0), none, 0, rfl, rfl, (UpdL.refl _ _), osnE ho4 (by rfl), OgR.refl _ _, bxE hb3 (by first | rfl | (simp_all; done) | (simp_all; omega)), (by first | omega | rfl | (simp; done) | assumption | (simp_all; done))⟩ ?_
  rintro _ wl1 _ ⟨v5, og5, i, rfl, rfl, hU0, ho5, ha5, hb3, hi⟩
  have hb1 := hb1.loop hU0 ⟨hd1_4, hd1_3, trivial⟩
  have hb2 := hb2.loop hU0 ⟨hd2_4, hd2_3, trivial⟩
  have hl5 := Lo.ogr hl4 hB ha5
  have hg0_5 := ha5
  have hk0_5 : OkB [none, (some b3.block)] w7 og5 := OkB.ogr (OkB.mem (by simp)) (Nat.le_refl _) ha5
  have hd1_5 := Dj.ogr hd1_4 hlt1 ha5
  have hd2_5 := Dj.ogr hd2_4 hlt2 ha5
  have hd3_5 := Dj.ogr hd3_4 hlt3 ha5
  have hk0_3 : OkB [none, (some b3.block)] w7 (some b3.block) := OkB.mem (by simp)
  have hB := hB.loop hU0 ⟨hl4, hl3, trivial⟩
  have hbl := bodyG_len (s := a0) (l := a1) (nx := xa2) (en := xa3) (by omega) i
  refine CW.seq ?_
  refine CW.reg ?_
  refine WL.pure rfl rfl rfl (PV.lss rfl rfl) ?_
  refine WL.nilS ?_
  refine CW.seq ?_
  refine CW.cond rfl (fun hc3 => ?_) (fun hc3 => ?_)
  · skip
    try simp only [nq] at hc3
    refine CW.skipS ?_
    refine CW.seq ?_
    refine CW.block ?_
    refine CW.seq ?_
    refine CW.reg ?_
    refine WL.mv rfl rfl ?_
    refine WL.asg rfl rfl ?_
    refine WL.nilS ?_
    refine CW.seq ?_
    refine CW.reg ?_
    refine WL.pure rfl rfl rfl (PV.fieldAddr T.fl64_1 rfl hb1.cells) ?_
    refine WL.pure rfl rfl rfl (PV.load1 T.na2 rfl hb1.cells (Ext.refl _) rfl) ?_
    refine WL.mv rfl rfl ?_
    refine WL.nilS ?_
    refine CW.block ?_
    have hlt1 := hb1.ltO
    have hlt2 := hb2.ltO
    have hlt3 := hb3.ltO
    have hlt5 := ho5.ltO
    refine CW.loop (σk := [(1, _), (2, _), (4, _), (5, _), (30, _), (31, _), (35, _)]) (fun ρ wz m => ∃ (v7 : Value) (og7 : Option Nat) (k : Nat), ρ = [(36, .int .i64 (k : Nat))] ∧ m = a1.toNat - k ∧ UpdL [og5, (some b3.block)] wl1 wz ∧ Osn 4 gR wz og7 v7 (bodyG a0 a1 xa2 xa3 i ++ rowG a0 a1 xa2 xa3 i k) ∧ OgR wl1 og5 og7 ∧ Bx wz b3 [.int .i64 (a0 + a1), .int .i64 a1, v7] ∧ ((k : Int) ≤ a1)) (ρ₀ := [(36, _)]) (m₀ := _) ⟨rfl, rfl, rfl, rfl, rfl, rfl, rfl, rfl, trivial⟩ ⟨v5, og5, 0, rfl, rfl, (UpdL.refl _ _), osnE ho5 (by exact rowG_zero _ _ _ _ _ _), OgR.refl _ _, bxE hb3 (by first | rfl | (simp_all; done) | (simp_all; omega)), (by first | omega | rfl | (simp; done) | assumption | (simp_all; done))⟩ ?_
    rintro _ wl2 _ ⟨v7, og7, k, rfl, rfl, hU1, ho7, ha7, hb3, hk⟩
    have hU0 := hU0.trans hU1 ⟨hk0_5, hk0_3, trivial⟩
    have hb1 := hb1.loop hU1 ⟨hd1_5, hd1_3, trivial⟩
    have hb2 := hb2.loop hU1 ⟨hd2_5, hd2_3, trivial⟩
    have hl7 := Lo.ogr hl5 hB ha7
    have hg1_7 := ha7
    have hk1_7 : OkB [og5, (some b3.block)] wl1 og7 := OkB.ogr (OkB.mem (by simp)) (Nat.le_refl _) ha7
    have hk0_7 := OkB.ogr hk0_5 (by first | assumption | exact UpdL.size (by assumption)) ha7
    have hg0_7 := OgR.trans hg0_5 (by first | assumption | exact UpdL.size (by assumption)) ha7
    have hd1_7 := Dj.ogr hd1_5 hlt1 ha7
    have hd2_7 := Dj.ogr hd2_5 hlt2 ha7
    have hd3_7 := Dj.ogr hd3_5 hlt3 ha7
    have hk1_3 : OkB [og5, (some b3.block)] wl1 (some b3.block) := OkB.mem (by simp)
    have hB := hB.loop hU1 ⟨hl5, hl3, trivial⟩
    have hrl := rowG_len (s := a0) (l := a1) (nx := xa2) (en := xa3) (i := i) k
    refine CW.seq ?_
    refine CW.reg ?_
    refine WL.pure rfl rfl rfl (PV.lss rfl rfl) ?_
    refine WL.nilS ?_
    refine CW.seq ?_
    refine CW.cond rfl (fun hc4 => ?_) (fun hc4 => ?_)
    · skip
      try simp only [nq] at hc4
      refine CW.skipS ?_
      refine CW.seq ?_
      refine CW.block ?_
      refine CW.seq ?_
      refine CW.reg ?_
      refine WL.mv rfl rfl ?_
      refine WL.asg rfl rfl ?_
      refine WL.nilS ?_
      refine CW.seq ?_
      refine CW.reg ?_
      have hix := plain_idx (s := a0) (l := a1) (i := i) (k := k) (n := xa2.length) (by omega) (by omega) (by omega) (by omega) (by assumption); have hng := allIn_get (k := ((i : Int) * a1 + (k : Int)).toNat) hal (by omega)
      refine WL.pure rfl rfl rfl (PV.loadA T.ag64 rfl hb1.cells (Ext.refl _) rfl) ?_
      refine WL.mv rfl rfl ?_
      refine WL.mv rfl rfl ?_
      refine WL.op rfl (OpK.callR rfl T.cf123 rfl (c_impl_Plain_to (by first | assumption | exact Rd.up (by assumption) hB | exact Osl.rd (by assumption) | exact Osn.rdR (by assumption)) (by first | assumption | exact Rd.up (by assumption) hB | exact Osl.rd (by assumption) | exact Osn.rdR (by assumption)) (by first | assumption | omega | (simp only [marks_len]; omega)) (by first | assumption | omega | (simp only [marks_len]; omega)) (by first | assumption | omega | (simp only [marks_len]; omega)) (by first | assumption | omega | (simp only [marks_len]; omega)) (by first | assumption | omega | (simp only [marks_len]; omega))) (fun w8 hXw8 => ?_))
      have hB := hB.trans hXw8
      have hb1 := hb1.up hXw8
      have hb2 := hb2.up hXw8
      have hb3 := hb3.up hXw8
      have ho7 := ho7.up hXw8
      have hU0 := hU0.ext hXw8
      have hU1 := hU1.ext hXw8
      refine WL.asg rfl rfl ?_
      refine WL.nilS ?_
      refine CW.seq ?_
      refine CW.reg ?_
      refine WL.pure rfl rfl rfl (PV.fieldAddr T.fl33_2 rfl hb3.cells) ?_
      refine WL.pure rfl rfl rfl (PV.load1 T.na31 rfl hb3.cells (Ext.refl _) rfl) ?_
      refine WL.mv rfl rfl ?_
      refine WL.pure rfl rfl rfl (PV.fieldAddr T.fl64_0 rfl hb1.cells) ?_
      refine WL.pure rfl rfl rfl (PV.load1 T.na2 rfl hb1.cells (Ext.refl _) rfl) ?_
      refine WL.mv rfl rfl ?_
      refine WL.pure rfl rfl rfl (PV.add rfl rfl (by constructor <;> omega)) ?_
      refine WL.mv rfl rfl ?_
      refine WL.pure rfl rfl rfl (PV.build (ks := [0, 1, 2]) (os := [.tmp 45, .tmp 49, .tmp 50]) (css := [[_], [_], [_]]) (ds := [_, _, _, _]) T.bu56 rfl rfl ⟨rfl, rfl, rfl, trivial⟩ rfl) ?_
      refine WL.op rfl (OpK.build4 (os := [.tmp 51]) rfl T.sl31 rfl rfl T.zv56 rfl rfl (fun v9 g9 w9 hXw9 ho9 hge9 => ?_))
      have hl9 := Lo.new hB hge9
      have hd1_9 := Dj.new hb1.ltO hge9
      have hd2_9 := Dj.new hb2.ltO hge9
      have hd3_9 := Dj.new hb3.ltO hge9
      have hd7_9 := Dj.new ho7.ltO hge9
      have hk0_9 := OkN.new hU0 hge9
      have hg0_9 := OgR.new hU0.size hge9
      have hk1_9 := OkN.new hU1 hge9
      have hg1_9 := OgR.new hU1.size hge9
      have hB := hB.trans hXw9
      have hb1 := hb1.up hXw9
      have hb2 := hb2.up hXw9
      have hb3 := hb3.up hXw9
      have ho7 := ho7.up hXw9
      have hU0 := hU0.ext hXw9
      have hU1 := hU1.ext hXw9
      refine WL.op rfl (OpK.appendN (g := gR) rfl T.sl31 T.zv56 rfl rfl ho7 rfl (Osn.src ho9) (by first | (simp only [List.length_cons, List.length_nil]; omega) | (simp only [List.length_append, List.length_cons, List.length_nil]; omega)) (fun v10 og10 w10 hXw10 ho10 hap10 => ?_))
      have hl10 := Lo.app hl7 hB hap10
      have hd1_10 := Dj.app hd1_7 hb1.ltO hap10
      have hd2_10 := Dj.app hd2_7 hb2.ltO hap10
      have hd3_10 := Dj.app hd3_7 hb3.ltO hap10
      have hd9_10 := Dj.app (Dj.symm hd7_9) ho9.ltO hap10
      have hk0_10 := OkN.app hU0 hk0_7 hap10
      have hg0_10 := OgR.app hg0_7 hU0.size hap10
      have hk1_10 := OkN.app hU1 hk1_7 hap10
      have hg1_10 := OgR.app hg1_7 hU1.size hap10
      have hB := hB.updL hXw10 hl7
      have hb1 := hb1.updD hXw10 hd1_7
      have hb2 := hb2.updD hXw10 hd2_7
      have hb3 := hb3.updD hXw10 hd3_7
      have ho9 := ho9.updD hXw10 (Dj.symm hd7_9)
      have hU0 := hU0.step hXw10 hk0_7
      have hU1 := hU1.step hXw10 hk1_7
      refine WL.pure rfl rfl rfl (PV.fieldAddr T.fl33_2 rfl hb3.cells) ?_
      refine WL.op rfl (OpK.storeB T.sz31 rfl rfl (by first | rfl | exact Osl.oneCell (by assumption) | exact Osn.oneCell (by assumption) | exact Rd.oneCell (by assumption) | exact Rd.oneCell (NL.rd (by assumption)) | assumption) hb3 rfl (fun w11 hXw11 hb3 => ?_))
      have hB := hB.updL hXw11 hl3
      have hb1 := hb1.updD hXw11 hd1_3
      have hb2 := hb2.updD hXw11 hd2_3
      have ho9 := ho9.updD hXw11 (Dj.symm hd3_9)
      have ho10 := ho10.updD hXw11 (Dj.symm hd3_10)
      have hU0 := hU0.step hXw11 hk0_3
      have hU1 := hU1.step hXw11 hk1_3
      refine WL.nilS ?_
      refine CW.seq ?_
      refine CW.reg ?_
      refine WL.pure rfl rfl rfl (PV.fieldAddr T.fl64_3 rfl hb1.cells) ?_
      refine WL.pure rfl rfl rfl (PV.load1 T.na62 rfl hb1.cells (Ext.refl _) rfl) ?_
      refine WL.mv rfl rfl ?_
      first
        | refine WL.at (x := .tmp 56) (y := .tmp 57) (E := EB) (false) rfl rfl (by first | assumption | exact Inn.rd (by assumption) (by omega)) (by omega) (fun p1 csp1 hpp1 hcp1 hq => ?_)
        | refine WL.atZ (x := .tmp 56) (y := .tmp 57) (E := EB) (false) rfl rfl (by first | assumption | exact Inn.rd (by assumption) (by omega)) (by omega) (fun p1 csp1 hpp1 hzp1 hcp1 hq => ?_)
      cases hq
      refine WL.pure rfl rfl rfl ((by first | exact PV.indexAddr hpp1 rfl rfl T.sl62 | exact PV.indexAddr hpp1 rfl (by rw [← hzp1]; rfl) T.sl62)) ?_
      refine WL.pure rfl rfl rfl ((by first | exact PV.load0 T.na4 rfl (by first | exact Cells.up (by assumption) hB | exact Bx.cells (by assumption) | assumption) (Ext.refl _) rfl | exact PV.load1 T.na4 rfl (by first | exact Cells.up (by assumption) hB | exact Bx.cells (by assumption) | assumption) (Ext.refl _) rfl)) ?_
      refine WL.nilS ?_
      refine CW.cond rfl (fun hc5 => ?_) (fun hc5 => ?_)
      · skip
        try simp only [nq] at hc5
        refine CW.reg ?_
        refine WL.pure rfl rfl rfl (PV.fieldAddr T.fl33_2 rfl hb3.cells) ?_
        refine WL.pure rfl rfl rfl (PV.load1 T.na31 rfl hb3.cells (Ext.refl _) rfl) ?_
        refine WL.mv rfl rfl ?_
        refine WL.mv rfl rfl ?_
        refine WL.pure rfl rfl rfl (PV.build (ks := [0, 1, 2]) (os := [.tmp 62, .tmp 63, .const (.int .i64 (-1))]) (css := [[_], [_], [_]]) (ds := [_, _, _, _]) T.bu56 rfl rfl ⟨rfl, rfl, rfl, trivial⟩ rfl) ?_
        refine WL.op rfl (OpK.build4 (os := [.tmp 64]) rfl T.sl31 rfl rfl T.zv56 rfl rfl (fun v11 g11 w12 hXw12 ho11 hge11 => ?_))
        have hl11 := Lo.new hB hge11
        have hd1_11 := Dj.new hb1.ltO hge11
        have hd2_11 := Dj.new hb2.ltO hge11
        have hd3_11 := Dj.new hb3.ltO hge11
        have hd9_11 := Dj.new ho9.ltO hge11
        have hd10_11 := Dj.new ho10.ltO hge11
        have hk0_11 := OkN.new hU0 hge11
        have hg0_11 := OgR.new hU0.size hge11
        have hk1_11 := OkN.new hU1 hge11
        have hg1_11 := OgR.new hU1.size hge11
        have hB := hB.trans hXw12
        have hb1 := hb1.up hXw12
        have hb2 := hb2.up hXw12
        have hb3 := hb3.up hXw12
        have ho9 := ho9.up hXw12
        have ho10 := ho10.up hXw12
        have hU0 := hU0.ext hXw12
        have hU1 := hU1.ext hXw12
        refine WL.op rfl (OpK.appendN (g := gR) rfl T.sl31 T.zv56 rfl rfl ho10 rfl (Osn.src ho11) (by first | (simp only [List.length_cons, List.length_nil]; omega) | (simp only [List.length_append, List.length_cons, List.length_nil]; omega)) (fun v12 og12 w13 hXw13 ho12 hap12 => ?_))
        have hl12 := Lo.app hl10 hB hap12
        have hd1_12 := Dj.app hd1_10 hb1.ltO hap12
        have hd2_12 := Dj.app hd2_10 hb2.ltO hap12
        have hd3_12 := Dj.app hd3_10 hb3.ltO hap12
        have hd9_12 := Dj.app hd9_10 ho9.ltO hap12
        have hd11_12 := Dj.app (Dj.symm hd10_11) ho11.ltO hap12
        have hk0_12 := OkN.app hU0 hk0_10 hap12
        have hg0_12 := OgR.app hg0_10 hU0.size hap12
        have hk1_12 := OkN.app hU1 hk1_10 hap12
        have hg1_12 := OgR.app hg1_10 hU1.size hap12
        have hB := hB.updL hXw13 hl10
        have hb1 := hb1.updD hXw13 hd1_10
        have hb2 := hb2.updD hXw13 hd2_10
        have hb3 := hb3.updD hXw13 hd3_10
        have ho9 := ho9.updD hXw13 hd9_10
        have ho11 := ho11.updD hXw13 (Dj.symm hd10_11)
        have hU0 := hU0.step hXw13 hk0_10
        have hU1 := hU1.step hXw13 hk1_10
        refine WL.pure rfl rfl rfl (PV.fieldAddr T.fl33_2 rfl hb3.cells) ?_
        refine WL.op rfl (OpK.storeB T.sz31 rfl rfl (by first | rfl | exact Osl.oneCell (by assumption) | exact Osn.oneCell (by assumption) | exact Rd.oneCell (by assumption) | exact Rd.oneCell (NL.rd (by assumption)) | assumption) hb3 rfl (fun w14 hXw14 hb3 => ?_))
        have hB := hB.updL hXw14 hl3
        have hb1 := hb1.updD hXw14 hd1_3
        have hb2 := hb2.updD hXw14 hd2_3
        have ho9 := ho9.updD hXw14 (Dj.symm hd3_9)
        have ho11 := ho11.updD hXw14 (Dj.symm hd3_11)
        have ho12 := ho12.updD hXw14 (Dj.symm hd3_12)
        have hU0 := hU0.step hXw14 hk0_3
        have hU1 := hU1.step hXw14 hk1_3
        refine WL.nil ?_
        refine NQ.block ?_
        refine NQ.then ?_
        refine CW.reg ?_
        refine WL.pure rfl rfl rfl (PV.add rfl rfl (by constructor <;> omega)) ?_
        refine WL.mv rfl rfl ?_
        refine WL.nil ?_
        refine NQ.next (ρ := [(36, _)]) ⟨rfl, rfl, rfl, rfl, rfl, rfl, rfl, rfl, trivial⟩ ?_
        exact ⟨_, ⟨v12, og12, k + 1, rfl, rfl, hU1, osnE ho12 (by first | exact rowG_two (by assumption) | exact rowG_none (by assumption)), (by first | exact hg1_12 | exact OgR.weak hg1_12), bxE hb3 (by first | rfl | (simp_all; done) | (simp_all; omega)), (by first | omega | assumption | (simp_all; done) | (simp_all; omega))⟩, by omega⟩
      try simp only [nq] at hc5
      refine CW.skip ?_
      refine NQ.block ?_
      refine NQ.then ?_
      refine CW.reg ?_
      refine WL.pure rfl rfl rfl (PV.add rfl rfl (by constructor <;> omega)) ?_
      refine WL.mv rfl rfl ?_
      refine WL.nil ?_
      refine NQ.next (ρ := [(36, _)]) ⟨rfl, rfl, rfl, rfl, rfl, rfl, rfl, rfl, trivial⟩ ?_
      exact ⟨_, ⟨v10, og10, k + 1, rfl, rfl, hU1, osnE ho10 (by first | exact rowG_two (by assumption) | exact rowG_none (by assumption)), (by first | exact hg1_10 | exact OgR.weak hg1_10), bxE hb3 (by first | rfl | (simp_all; done) | (simp_all; omega)), (by first | omega | assumption | (simp_all; done) | (simp_all; omega))⟩, by omega⟩
    try simp only [nq] at hc4
    refine CW.exit ?_
    refine XQ.then ?_
    refine XQ.then ?_
    refine XQ.here ?_
    refine NQ.block ?_
    refine NQ.then ?_
    refine CW.reg ?_
    refine WL.pure rfl rfl rfl (PV.add rfl rfl (by constructor <;> omega)) ?_
    refine WL.mv rfl rfl ?_
    refine WL.nil ?_
    refine NQ.next (ρ := [(31, _)]) ⟨rfl, rfl, rfl, rfl, rfl, trivial⟩ ?_
    exact ⟨_, ⟨v7, og7, i + 1, rfl, rfl, hU0, osnE ho7 (by exact bodyG_succ (by omega)), (by first | exact hg0_7 | exact OgR.weak hg0_7), bxE hb3 (by first | rfl | (simp_all; done) | (simp_all; omega)), (by first | omega | assumption | (simp_all; done) | (simp_all; omega))⟩, by omega⟩
  try simp only [nq] at hc3
  refine CW.exit ?_
  refine XQ.then ?_
  refine XQ.then ?_
  refine XQ.here ?_
  refine NQ.then ?_
  refine CW.seq ?_
  refine CW.seq ?_
  refine CW.reg ?_
  refine WL.pure rfl rfl rfl (PV.fieldAddr T.fl64_1 rfl hb1.cells) ?_
  refine WL.pure rfl rfl rfl (PV.load1 T.na2 rfl hb1.cells (Ext.refl _) rfl) ?_
  refine WL.mv rfl rfl ?_
  refine WL.nilS ?_
  refine CW.block ?_
  have hlt1 := hb1.ltO
  have hlt2 := hb2.ltO
  have hlt3 := hb3.ltO
  have hlt5 := ho5.ltO
  refine CW.loop (σk := [(1, _), (2, _), (4, _), (71, _)]) (fun ρ wz m => ∃ (v13 : Value) (og13 : Option Nat) (k : Nat), ρ = [(72, .int .i64 (k : Nat))] ∧ m = a1.toNat - k ∧ UpdL [og5, (some b3.block)] wl1 wz ∧ Osn 4 gR wz og13 v13 (bodyG a0 a1 xa2 xa3 a0.toNat ++ tailG a0 k) ∧ OgR wl1 og5 og13 ∧ Bx wz b3 [.int .i64 (a0 + a1), .int .i64 a1, v13] ∧ ((k : Int) ≤ a1)) (ρ₀ := [(72, _)]) (m₀ := _) ⟨rfl, rfl, rfl, rfl, rfl, trivial⟩ ⟨v5, og5, 0, rfl, rfl, (UpdL.refl _ _), osnE ho5 (by rw [show i = a0.toNat from (by omega)]; exact tailG_zero _ _), OgR.refl _ _, bxE hb3 (by first | rfl | (simp_all; done) | (simp_all; omega)), (by first | omega | rfl | (simp; done) | assumption | (simp_all; done))⟩ ?_
  rintro _ wl3 _ ⟨v13, og13, k, rfl, rfl, hU2, ho13, ha13, hb3, hk⟩
  have hb1 := hb1.loop hU2 ⟨hd1_5, hd1_3, trivial⟩
  have hb2 := hb2.loop hU2 ⟨hd2_5, hd2_3, trivial⟩
  have hl13 := Lo.ogr hl5 hB ha13
  have hg2_13 := ha13
  have hk2_13 : OkB [og5, (some b3.block)] wl1 og13 := OkB.ogr (OkB.mem (by simp)) (Nat.le_refl _) ha13
  have hd1_13 := Dj.ogr hd1_5 hlt1 ha13
  have hd2_13 := Dj.ogr hd2_5 hlt2 ha13
  have hd3_13 := Dj.ogr hd3_5 hlt3 ha13
  have hk2_3 : OkB [og5, (some b3.block)] wl1 (some b3.block) := OkB.mem (by simp)
  have hB := hB.loop hU2 ⟨hl5, hl3, trivial⟩
  have hbl2 := bodyG_len (s := a0) (l := a1) (nx := xa2) (en := xa3) (by omega) a0.toNat; have htl := tailG_len a0 k
  refine CW.seq ?_
  refine CW.reg ?_
  refine WL.pure rfl rfl rfl (PV.lss rfl rfl) ?_
  refine WL.nilS ?_
  refine CW.seq ?_
  refine CW.cond rfl (fun hc6 => ?_) (fun hc6 => ?_)
  · skip
    try simp only [nq] at hc6
    refine CW.skipS ?_
    refine CW.seq ?_
    refine CW.block ?_
    refine CW.seq ?_
    refine CW.reg ?_
    refine WL.mv rfl rfl ?_
    refine WL.asg rfl rfl ?_
    refine WL.nilS ?_
    refine CW.reg ?_
    refine WL.pure rfl rfl rfl (PV.fieldAddr T.fl33_2 rfl hb3.cells) ?_
    refine WL.pure rfl rfl rfl (PV.load1 T.na31 rfl hb3.cells (Ext.refl _) rfl) ?_
    refine WL.pure rfl rfl rfl (PV.fieldAddr T.fl64_0 rfl hb1.cells) ?_
    refine WL.pure rfl rfl rfl (PV.load1 T.na2 rfl hb1.cells (Ext.refl _) rfl) ?_
    refine WL.mv rfl rfl ?_
    refine WL.pure rfl rfl rfl (PV.add rfl rfl (by constructor <;> omega)) ?_
    refine WL.mv rfl rfl ?_
    refine WL.pure rfl rfl rfl (PV.build (ks := [0, 1, 2]) (os := [.tmp 80, .tmp 81, .const (.int .i64 (-1))]) (css := [[_], [_], [_]]) (ds := [_, _, _, _]) T.bu56 rfl rfl ⟨rfl, rfl, rfl, trivial⟩ rfl) ?_
    refine WL.op rfl (OpK.build4 (os := [.tmp 82]) rfl T.sl31 rfl rfl T.zv56 rfl rfl (fun v15 g15 w15 hXw15 ho15 hge15 => ?_))
    have hl15 := Lo.new hB hge15
    have hd1_15 := Dj.new hb1.ltO hge15
    have hd2_15 := Dj.new hb2.ltO hge15
    have hd3_15 := Dj.new hb3.ltO hge15
    have hd13_15 := Dj.new ho13.ltO hge15
    have hk2_15 := OkN.new hU2 hge15
    have hg2_15 := OgR.new hU2.size hge15
    have hB := hB.trans hXw15
    have hb1 := hb1.up hXw15
    have hb2 := hb2.up hXw15
    have hb3 := hb3.up hXw15
    have ho13 := ho13.up hXw15
    have hU2 := hU2.ext hXw15
    refine WL.op rfl (OpK.appendN (g := gR) rfl T.sl31 T.zv56 rfl rfl ho13 rfl (Osn.src ho15) (by first | (simp only [List.length_cons, List.length_nil]; omega) | (simp only [List.length_append, List.length_cons, List.length_nil]; omega)) (fun v16 og16 w16 hXw16 ho16 hap16 => ?_))
    have hl16 := Lo.app hl13 hB hap16
    have hd1_16 := Dj.app hd1_13 hb1.ltO hap16
    have hd2_16 := Dj.app hd2_13 hb2.ltO hap16
    have hd3_16 := Dj.app hd3_13 hb3.ltO hap16
    have hd15_16 := Dj.app (Dj.symm hd13_15) ho15.ltO hap16
    have hk2_16 := OkN.app hU2 hk2_13 hap16
    have hg2_16 := OgR.app hg2_13 hU2.size hap16
    have hB := hB.updL hXw16 hl13
    have hb1 := hb1.updD hXw16 hd1_13
    have hb2 := hb2.updD hXw16 hd2_13
    have hb3 := hb3.updD hXw16 hd3_13
    have ho15 := ho15.updD hXw16 (Dj.symm hd13_15)
    have hU2 := hU2.step hXw16 hk2_13
    refine WL.pure rfl rfl rfl (PV.fieldAddr T.fl33_2 rfl hb3.cells) ?_
    refine WL.op rfl (OpK.storeB T.sz31 rfl rfl (by first | rfl | exact Osl.oneCell (by assumption) | exact Osn.oneCell (by assumption) | exact Rd.oneCell (by assumption) | exact Rd.oneCell (NL.rd (by assumption)) | assumption) hb3 rfl (fun w17 hXw17 hb3 => ?_))
    have hB := hB.updL hXw17 hl3
    have hb1 := hb1.updD hXw17 hd1_3
    have hb2 := hb2.updD hXw17 hd2_3
    have ho15 := ho15.updD hXw17 (Dj.symm hd3_15)
    have ho16 := ho16.updD hXw17 (Dj.symm hd3_16)
    have hU2 := hU2.step hXw17 hk2_3
    refine WL.nil ?_
    refine NQ.block ?_
    refine NQ.then ?_
    refine CW.reg ?_
    refine WL.pure rfl rfl rfl (PV.add rfl rfl (by constructor <;> omega)) ?_
    refine WL.mv rfl rfl ?_
    refine WL.nil ?_
    refine NQ.next (ρ := [(72, _)]) ⟨rfl, rfl, rfl, rfl, rfl, trivial⟩ ?_
    exact ⟨_, ⟨v16, og16, k + 1, rfl, rfl, hU2, osnE ho16 (by exact tailG_put _ _ _), (by first | exact hg2_16 | exact OgR.weak hg2_16), bxE hb3 (by first | rfl | (simp_all; done) | (simp_all; omega)), (by first | omega | assumption | (simp_all; done) | (simp_all; omega))⟩, by omega⟩
  try simp only [nq] at hc6
  refine CW.exit ?_
  refine XQ.then ?_
  refine XQ.then ?_
  refine XQ.here ?_
  refine NQ.then ?_
  refine CW.seq ?_
  refine CW.reg ?_
  obtain rfl : k = a1.toNat := (by omega)
  refine WL.pure rfl rfl rfl (PV.loadA T.ag33 rfl hb3.cells (Ext.refl _) rfl) ?_
  refine WL.op rfl (OpK.call rfl T.cf117 rfl (c_impl_validGrammar (Osn.rdR ho13)) (fun rv1 w18 hR => ?_))
  rcases hR with ⟨hXw18, ⟨hal, rfl⟩ | ⟨hal, rfl⟩⟩
  · skip
    have hB := hB.trans hXw18
    have hb1 := hb1.up hXw18
    have hb2 := hb2.up hXw18
    have hb3 := hb3.up hXw18
    have ho13 := ho13.up hXw18
    refine WL.pure rfl rfl rfl (PV.extract rfl rfl) ?_
    refine WL.pure rfl rfl rfl (PV.extract rfl rfl) ?_
    refine WL.op rfl (OpK.storeA T.sz33 rfl rfl rfl rfl (by simp [Value.oneCell'] <;> first | done | (repeat' apply And.intro) <;> first | rfl | exact Osl.oneCell (by assumption) | exact Osn.oneCell (by assumption) | exact Rd.oneCell (by assumption) | exact Rd.oneCell (NL.rd (by assumption)) | assumption) hb2 (fun w19 hXw19 hb2 => ?_))
    have hB := hB.updL hXw19 hl2
    have hb1 := hb1.updD hXw19 hd1_2
    have hb3 := hb3.updD hXw19 (Dj.symm hd2_3)
    have ho13 := ho13.updD hXw19 (Dj.symm hd2_13)
    refine WL.asg rfl rfl ?_
    refine WL.nilS ?_
    refine CW.ret ?_
    refine RQ.rc1 T.ag33 rfl (by first | exact Cells.up (by assumption) hB | exact Bx.cells (by assumption) | assumption) rfl rfl ?_
    refine ⟨hB, v13, og13, ?_, osnE ho13 ?_, hl13⟩
    · skip
      first | (exact tE2 (by rw [onI_no (by first | exact okG_no1 (by assumption) | exact okG_no2 (by omega) | exact okG_no3 (by unfold allG; assumption)), onI_no (by first | exact okG_no1 (by assumption) | exact okG_no2 (by omega) | exact okG_no3 (by unfold allG; assumption))]) (bE (Bool.eq_false_iff.2 (by first | exact okG_no1 (by assumption) | exact okG_no2 (by omega) | exact okG_no3 (by unfold allG; assumption))).symm)) | (exact tE2 (by rw [onI_yes (okG_yes (by assumption) (by omega) (by unfold allG; assumption)), onI_yes (okG_yes (by assumption) (by omega) (by unfold allG; assumption))]; rfl) (bE (okG_yes (by assumption) (by omega) (by unfold allG; assumption)).symm)) | (exact tE2 (by rw [onI_yes (okG_yes (by assumption) (by omega) (by unfold allG; assumption)), onI_yes (okG_yes (by assumption) (by omega) (by unfold allG; assumption))]) (bE (okG_yes (by assumption) (by omega) (by unfold allG; assumption)).symm))
    · skip
      first | (rw [onT_no (by first | exact okG_no1 (by assumption) | exact okG_no2 (by omega) | exact okG_no3 (by unfold allG; assumption))]; done) | (rw [onT_yes (okG_yes (by assumption) (by omega) (by unfold allG; assumption))]; rfl)
  · skip
    have hB := hB.trans hXw18
    have hb1 := hb1.up hXw18
    have hb2 := hb2.up hXw18
    have hb3 := hb3.up hXw18
    have ho13 := ho13.up hXw18
    refine WL.pure rfl rfl rfl (PV.extract rfl rfl) ?_
    refine WL.pure rfl rfl rfl (PV.extract rfl rfl) ?_
    refine WL.op rfl (OpK.storeA T.sz33 rfl rfl rfl rfl (by simp [Value.oneCell'] <;> first | done | (repeat' apply And.intro) <;> first | rfl | exact Osl.oneCell (by assumption) | exact Osn.oneCell (by assumption) | exact Rd.oneCell (by assumption) | exact Rd.oneCell (NL.rd (by assumption)) | assumption) hb2 (fun w20 hXw20 hb2 => ?_))
    have hB := hB.updL hXw20 hl2
    have hb1 := hb1.updD hXw20 hd1_2
    have hb3 := hb3.updD hXw20 (Dj.symm hd2_3)
    have ho13 := ho13.updD hXw20 (Dj.symm hd2_13)
    refine WL.asg rfl rfl ?_
    refine WL.nilS ?_
    refine CW.ret ?_
    refine RQ.rc1 T.ag33 rfl (by first | exact Cells.up (by assumption) hB | exact Bx.cells (by assumption) | assumption) rfl rfl ?_
    refine ⟨hB, (.slice none 0 0), none, ?_, osnE (Osn.nil gR_ok _) ?_, Lo.nl _⟩
    · skip
      first | (exact tE2 (by rw [onI_no (by first | exact okG_no1 (by assumption) | exact okG_no2 (by omega) | exact okG_no3 (by unfold allG; assumption)), onI_no (by first | exact okG_no1 (by assumption) | exact okG_no2 (by omega) | exact okG_no3 (by unfold allG; assumption))]) (bE (Bool.eq_false_iff.2 (by first | exact okG_no1 (by assumption) | exact okG_no2 (by omega) | exact okG_no3 (by unfold allG; assumption))).symm)) | (exact tE2 (by rw [onI_yes (okG_yes (by assumption) (by omega) (by unfold allG; assumption)), onI_yes (okG_yes (by assumption) (by omega) (by unfold allG; assumption))]; rfl) (bE (okG_yes (by assumption) (by omega) (by unfold allG; assumption)).symm)) | (exact tE2 (by rw [onI_yes (okG_yes (by assumption) (by omega) (by unfold allG; assumption)), onI_yes (okG_yes (by assumption) (by omega) (by unfold allG; assumption))]) (bE (okG_yes (by assumption) (by omega) (by unfold allG; assumption)).symm))
    · skip
      first | (rw [onT_no (by first | exact okG_no1 (by assumption) | exact okG_no2 (by omega) | exact okG_no3 (by unfold allG; assumption))]; done) | (rw [onT_yes (okG_yes (by assumption) (by omega) (by unfold allG; assumption))]; rfl)
theorem c_impl_Plain_reads {w : World} {a0 : Int} {a1 : Int} {va2 : Value} {xa2 : List Int} {va3 : Value} {xa3 : List Bool} {vw : Value} {xs : List Int} (ha2 : Rd EI w va2 xa2) (ha3 : Rd EB w va3 xa3) (hw : Rd EI w vw xs) (hpb : plainB a0 a1 xa2 xa3 = true) (hwi : ∀ x ∈ xs, 0 ≤ x ∧ x < a1) : Calls Try.prog 125 #[.agg #[.int .i64 a0, .int .i64 a1, va2, va3], vw] w (Ret1 (RQt (.bool (xa3.getD (runL a1 xa2 xs 0).toNat false)) w)) := by
  have hB : Ext w w := Ext.refl w
  have hla2 := ha2.leI; have hla3 := ha3.leI; have hp9 := of_decide_eq_true hpb; have hp1 := hp9.1; have hp2 := hp9.2.1; have hp3 := hp9.2.2.1; have hp4 := hp9.2.2.2.1; have hlw := hw.leI
  refine callsOf (vs := [_, _]) Try.func125 rfl Try.ntmps125 rfl rfl ?_
  refine CW.seq ?_
  refine CW.reg ?_
  refine WL.op rfl (OpK.box rfl rfl (by first | exact Rd.cells1 (by assumption) | exact Osl.cells1 (by assumption) | exact Osn.cells1 (by assumption) | exact Rd.cells1 (NL.rd (by assumption)) | exact Inn.cell1 (by assumption) (by omega) | assumption | rfl) (fun b1 w1 hXw1 hb1 hge1 => ?_))
  have hl1 := Lo.new hB hge1
  have hB := hB.trans hXw1
  refine WL.asg rfl rfl ?_
  refine WL.nilS ?_
  refine CW.seq ?_
  refine CW.reg ?_
  refine WL.asg rfl rfl ?_
  refine WL.nilS ?_
  refine CW.seq ?_
  refine CW.seq ?_
  refine CW.reg ?_
  refine WL.mv rfl rfl ?_
  refine WL.pure rfl rfl rfl ((by first | exact PV.len rfl (by assumption) T.sl28 | exact PV.lenOs rfl (by assumption) T.sl28 | exact PV.len rfl (NL.rd (by assumption)) T.sl28 | exact PV.len rfl (Inn.rd (by assumption) (by omega)) T.sl28)) ?_
  refine WL.mv rfl rfl ?_
  refine WL.nilS ?_
  refine CW.block ?_
  refine CW.loop (σk := [(2, _), (8, _), (9, _)]) (fun ρ wz m => ∃ (k : Nat), ρ = [(5, .int .i64 (runL a1 xa2 (xs.take k) 0)), (10, .int .i64 (k : Nat))] ∧ m = xs.length - k ∧ UpdL [] w1 wz ∧ (k ≤ xs.length)) (ρ₀ := [(5, _), (10, _)]) (m₀ := _) ⟨rfl, rfl, rfl, rfl, rfl, trivial⟩ ⟨0, rfl, rfl, (UpdL.refl _ _), (by first | omega | rfl | (simp; done) | assumption | (simp_all; done))⟩ ?_
  rintro _ wl1 _ ⟨k, rfl, rfl, hU0, hk⟩
  have hb1 := hb1.loop hU0 trivial
  have hB := hB.loop hU0 trivial
  have hrg := runL_rng hpb (xs.take k) 0 (fun x hx => hwi x (List.mem_of_mem_take hx)) (by omega)
  refine CW.seq ?_
  refine CW.reg ?_
  refine WL.pure rfl rfl rfl (PV.lss rfl rfl) ?_
  refine WL.nilS ?_
  refine CW.seq ?_
  refine CW.cond rfl (fun hc1 => ?_) (fun hc1 => ?_)
  · skip
    try simp only [nq] at hc1
    refine CW.skipS ?_
    refine CW.seq ?_
    refine CW.block ?_
    refine CW.seq ?_
    refine CW.reg ?_
    first
      | refine WL.at (x := .tmp 8) (y := .tmp 10) (E := EI) (0) rfl rfl (by first | assumption | exact Inn.rd (by assumption) (by omega)) (by first | omega | (simp only [List.length_set]; omega) | (simp only [List.length_append, List.length_take, List.length_replicate, List.length_drop]; omega)) (fun p1 csp1 hpp1 hcp1 hq => ?_)
      | refine WL.atZ (x := .tmp 8) (y := .tmp 10) (E := EI) (0) rfl rfl (by first | assumption | exact Inn.rd (by assumption) (by omega)) (by first | omega | (simp only [List.length_set]; omega) | (simp only [List.length_append, List.length_take, List.length_replicate, List.length_drop]; omega)) (fun p1 csp1 hpp1 hzp1 hcp1 hq => ?_)
    cases hq
    refine WL.pure rfl rfl rfl ((by first | exact PV.indexAddr hpp1 rfl rfl T.sl28 | exact PV.indexAddr hpp1 rfl (by rw [← hzp1]; rfl) T.sl28)) ?_
    refine WL.pure rfl rfl rfl ((by first | exact PV.load0 T.na2 rfl (by first | exact Cells.up (by assumption) hB | exact Bx.cells (by assumption) | assumption) (Ext.refl _) rfl | exact PV.load1 T.na2 rfl (by first | exact Cells.up (by assumption) hB | exact Bx.cells (by assumption) | assumption) (Ext.refl _) rfl)) ?_
    refine WL.asg rfl rfl ?_
    refine WL.nilS ?_
    refine CW.reg ?_
    have hgx := getD_P hwi (i := k) (by omega)
    refine WL.pure rfl rfl rfl (PV.loadA T.ag64 rfl hb1.cells (Ext.refl _) rfl) ?_
    refine WL.mv rfl rfl ?_
    refine WL.mv rfl rfl ?_
    refine WL.op rfl (OpK.callR rfl T.cf123 rfl (c_impl_Plain_to (by first | assumption | exact Rd.up (by assumption) hB | exact Osl.rd (by assumption) | exact Osn.rdR (by assumption)) (by first | assumption | exact Rd.up (by assumption) hB | exact Osl.rd (by assumption) | exact Osn.rdR (by assumption)) (by first | assumption | omega | (simp only [marks_len]; omega)) (by first | assumption | omega | (simp only [marks_len]; omega)) (by first | assumption | omega | (simp only [marks_len]; omega)) (by first | assumption | omega | (simp only [marks_len]; omega)) (by first | assumption | omega | (simp only [marks_len]; omega))) (fun w2 hXw2 => ?_))
    have hB := hB.trans hXw2
    have hb1 := hb1.up hXw2
    have hU0 := hU0.ext hXw2
    refine WL.asg rfl rfl ?_
    refine WL.nil ?_
    refine NQ.block ?_
    refine NQ.then ?_
    refine CW.reg ?_
    refine WL.pure rfl rfl rfl (PV.add rfl rfl (by constructor <;> omega)) ?_
    refine WL.mv rfl rfl ?_
    refine WL.nil ?_
    refine NQ.next (ρ := [(5, _), (10, _)]) ⟨rfl, rfl, rfl, rfl, rfl, trivial⟩ ?_
    exact ⟨_, ⟨k + 1, (by rw [runL_take (by omega)]; rfl), rfl, hU0, (by first | omega | assumption | (simp_all; done) | (simp_all; omega))⟩, by omega⟩
  try simp only [nq] at hc1
  refine CW.exit ?_
  refine XQ.then ?_
  refine XQ.then ?_
  refine XQ.here ?_
  refine NQ.then ?_
  refine CW.seq ?_
  refine CW.reg ?_
  refine WL.pure rfl rfl rfl (PV.fieldAddr T.fl64_3 rfl hb1.cells) ?_
  refine WL.pure rfl rfl rfl (PV.load1 T.na62 rfl hb1.cells (Ext.refl _) rfl) ?_
  refine WL.mv rfl rfl ?_
  first
    | refine WL.at (x := .tmp 20) (y := .tmp 21) (E := EB) (false) rfl rfl (by first | assumption | exact Inn.rd (by assumption) (by omega)) (by first | omega | (simp only [List.length_set]; omega) | (simp only [List.length_append, List.length_take, List.length_replicate, List.length_drop]; omega)) (fun p2 csp2 hpp2 hcp2 hq => ?_)
    | refine WL.atZ (x := .tmp 20) (y := .tmp 21) (E := EB) (false) rfl rfl (by first | assumption | exact Inn.rd (by assumption) (by omega)) (by first | omega | (simp only [List.length_set]; omega) | (simp only [List.length_append, List.length_take, List.length_replicate, List.length_drop]; omega)) (fun p2 csp2 hpp2 hzp2 hcp2 hq => ?_)
  cases hq
  refine WL.pure rfl rfl rfl ((by first | exact PV.indexAddr hpp2 rfl rfl T.sl62 | exact PV.indexAddr hpp2 rfl (by rw [← hzp2]; rfl) T.sl62)) ?_
  refine WL.pure rfl rfl rfl ((by first | exact PV.load0 T.na4 rfl (by first | exact Cells.up (by assumption) hB | exact Bx.cells (by assumption) | assumption) (Ext.refl _) rfl | exact PV.load1 T.na4 rfl (by first | exact Cells.up (by assumption) hB | exact Bx.cells (by assumption) | assumption) (Ext.refl _) rfl)) ?_
  refine WL.asg rfl rfl ?_
  refine WL.nilS ?_
  refine CW.ret ?_
  refine RQ.r1 rfl ?_
  refine ⟨?_, hB⟩
  first | rfl | (rw [show xs.take k = xs from List.take_of_length_le (by omega)])
theorem c_impl_ReadsWord {w : World} {a0 : Int} {a1 : Int} {va2 : Value} {xa2 : List Int} {va3 : Value} {xa3 : List Bool} {vw : Value} {xs : List Int} (ha2 : Rd EI w va2 xa2) (ha3 : Rd EB w va3 xa3) (hw : Rd EI w vw xs) (hpb : plainB a0 a1 xa2 xa3 = true) (hwb : isWordB xs a1 = true) : Calls Try.prog 40 #[.agg #[.int .i64 a0, .int .i64 a1, va2, va3], vw] w (Ret1 (RQt (.tuple #[.bool (xa3.getD (runL a1 xa2 xs 0).toNat false), .bool true]) w)) := by
  have hB : Ext w w := Ext.refl w
  have hla2 := ha2.leI; have hla3 := ha3.leI; have hp9 := of_decide_eq_true hpb; have hp1 := hp9.1; have hp2 := hp9.2.1; have hp3 := hp9.2.2.1; have hp4 := hp9.2.2.2.1; have hlw := hw.leI; have hwi := word_lt hwb
  refine callsOf (vs := [_, _]) Try.func40 rfl Try.ntmps40 rfl rfl ?_
  refine CW.seq ?_
  refine CW.reg ?_
  refine WL.op rfl (OpK.box rfl rfl (by first | exact Rd.cells1 (by assumption) | exact Osl.cells1 (by assumption) | exact Osn.cells1 (by assumption) | exact Rd.cells1 (NL.rd (by assumption)) | exact Inn.cell1 (by assumption) (by omega) | assumption | rfl) (fun b1 w1 hXw1 hb1 hge1 => ?_))
  have hl1 := Lo.new hB hge1
  have hB := hB.trans hXw1
  refine WL.asg rfl rfl ?_
  refine WL.asg rfl rfl ?_
  refine WL.nilS ?_
  refine CW.seq ?_
  refine CW.seq ?_
  refine CW.reg ?_
  refine WL.pure rfl rfl rfl (PV.loadA T.ag64 rfl hb1.cells (Ext.refl _) rfl) ?_
  refine WL.op rfl (OpK.callR rfl T.cf122 rfl (c_impl_ValidPlain (by first | assumption | exact Rd.up (by assumption) hB | exact Osl.rd (by assumption) | exact Osn.rdR (by assumption)) (by first | assumption | exact Rd.up (by assumption) hB | exact Osl.rd (by assumption) | exact Osn.rdR (by assumption))) (fun w2 hXw2 => ?_))
  have hB := hB.trans hXw2
  have hb1 := hb1.up hXw2
  refine WL.pure rfl rfl rfl (PV.not rfl) ?_
  refine WL.mv rfl rfl ?_
  refine WL.split (t := 9) rfl (fun hc1 => ?_) (fun hc1 => ?_)
  · skip
    try simp only [nq] at hc1
    exfalso; first | exact absurd hp9 (by assumption) | (revert hc1; rw [hwb]; decide)
  try simp only [nq] at hc1
  refine WL.pureG rfl rfl rfl rfl rfl (PV.move rfl) ?_
  refine WL.pureG rfl rfl rfl rfl rfl (PV.fieldAddr T.fl64_1 rfl hb1.cells) ?_
  refine WL.pureG rfl rfl rfl rfl rfl (PV.load1 T.na2 rfl hb1.cells (Ext.refl _) rfl) ?_
  refine WL.opG rfl rfl rfl (OpK.callR rfl T.cf124 rfl (c_impl_IsWord (by first | assumption | exact Rd.up (by assumption) hB | exact Osl.rd (by assumption) | exact Osn.rdR (by assumption))) (fun w3 hXw3 => ?_))
  have hB := hB.trans hXw3
  have hb1 := hb1.up hXw3
  refine WL.pureG rfl rfl rfl rfl rfl (PV.not rfl) ?_
  refine WL.pure rfl rfl rfl (PV.pickF rfl rfl) ?_
  refine WL.nilS ?_
  refine CW.cond rfl (fun hc2 => ?_) (fun hc2 => ?_)
  · skip
    try simp only [nq] at hc2
    exfalso; first | exact absurd hp9 (by assumption) | (revert hc2; rw [hwb]; decide)
  try simp only [nq] at hc2
  refine CW.skipS ?_
  refine CW.seq ?_
  refine CW.reg ?_
  refine WL.pure rfl rfl rfl (PV.loadA T.ag64 rfl hb1.cells (Ext.refl _) rfl) ?_
  refine WL.mv rfl rfl ?_
  refine WL.op rfl (OpK.callR rfl T.cf125 rfl (c_impl_Plain_reads (by first | assumption | exact Rd.up (by assumption) hB | exact Osl.rd (by assumption) | exact Osn.rdR (by assumption)) (by first | assumption | exact Rd.up (by assumption) hB | exact Osl.rd (by assumption) | exact Osn.rdR (by assumption)) (by first | assumption | exact Rd.up (by assumption) hB | exact Osl.rd (by assumption) | exact Osn.rdR (by assumption)) (by first | assumption | omega | (simp only [marks_len]; omega)) (by first | assumption | omega | (simp only [marks_len]; omega))) (fun w4 hXw4 => ?_))
  have hB := hB.trans hXw4
  have hb1 := hb1.up hXw4
  refine WL.asg rfl rfl ?_
  refine WL.asg rfl rfl ?_
  refine WL.nilS ?_
  refine CW.ret ?_
  refine RQ.r2 rfl rfl ?_
  refine ⟨?_, hB⟩
  rfl
theorem c_slices_Clone_int64_int64 {w : World} {va : Value} {xs : List Int} (ha : Rd EI w va xs) (hN : xs.length ≤ 1048576) : Calls Try.prog 141 #[va] w (Ret1 (fun v w' => Ext w w' ∧ ∃ v1 og_v1, v = v1 ∧ Osl VI w' og_v1 v1 (xs) ∧ Lo w og_v1)) := by
  have hB : Ext w w := Ext.refl w
  have hla := ha.leI
  refine callsOf (vs := [_]) Try.func141 rfl Try.ntmps141 rfl rfl ?_
  refine CW.seq ?_
  refine CW.reg ?_
  refine WL.asg rfl rfl ?_
  refine WL.nilS ?_
  refine CW.seq ?_
  refine CW.seq ?_
  refine CW.reg ?_
  refine WL.mv rfl rfl ?_
  refine WL.pure rfl rfl rfl ((by first | exact PV.eqlNil T.sl28 rfl (by assumption) rfl | exact PV.eqlNil T.sl28 rfl (Osl.rd (by assumption)) rfl)) ?_
  refine WL.nilS ?_
  refine CW.cond rfl (fun hc1 => ?_) (fun hc1 => ?_)
  · skip
    try simp only [nq] at hc1
    refine CW.seq ?_
    refine CW.reg ?_
    refine WL.asg rfl rfl ?_
    refine WL.nilS ?_
    refine CW.ret ?_
    refine RQ.then ?_
    refine RQ.r1 rfl ?_
    refine ⟨hB, (.slice none 0 0), none, ?_, osE (Osl.nil _ _) ?_, Lo.nl _⟩
    · skip
      rfl
    · skip
      first | rfl | (simp; done) | exact ((Rd.nil_of ha (by assumption)).1).symm
  try simp only [nq] at hc1
  refine CW.skipS ?_
  refine CW.seq ?_
  refine CW.reg ?_
  refine WL.op rfl (OpK.buildS VI (os := []) [] rfl T.sl28 rfl rfl T.zv2 rfl (by intro z hz; cases hz) rfl (fun v1 g1 w1 hXw1 ho1 hge1 => ?_))
  have hl1 := Lo.new hB hge1
  have hB := hB.trans hXw1
  refine WL.mv rfl rfl ?_
  refine WL.op rfl (OpK.appendS (f := VI) rfl T.sl28 T.zv2 rfl rfl ho1 rfl (Rd.src (by first | assumption | exact Rd.up (by assumption) hB | exact Inn.rd (by assumption) (by omega)) (fun _ => rfl)) (by first | (simp only [List.length_cons, List.length_nil]; omega) | (simp_all; omega)) (fun v2 og2 w2 hXw2 ho2 hap2 => ?_))
  have hl2 := Lo.app hl1 hB hap2
  have hB := hB.updL hXw2 hl1
  refine WL.asg rfl rfl ?_
  refine WL.nilS ?_
  refine CW.ret ?_
  refine RQ.r1 rfl ?_
  refine ⟨hB, v2, og2, ?_, osE ho2 ?_, hl2⟩
  · skip
    rfl
  · skip
    first | rfl | (simp; done) | exact ((Rd.nil_of ha (by assumption)).1).symm
theorem c_impl_wordsOf {w : World} {L n : Int} (hL : 1 ≤ L ∧ L ≤ 4) (hn : 0 ≤ n ∧ n ≤ 5) : Calls Try.prog 126 #[.int .i64 L, .int .i64 n] w (Ret1 (fun v w' => Ext w w' ∧ ∃ u og_u vs_u os_u, v = u ∧ Osl VV w' og_u u vs_u ∧ Lo w og_u ∧ Inn w' os_u vs_u (wordsL L n.toNat) ∧ LoI w os_u ∧ DI os_u og_u)) := by
  have hB : Ext w w := Ext.refl w
  refine callsOf (vs := [_, _]) Try.func126 rfl Try.ntmps126 rfl rfl ?_
  refine CW.seq ?_
  refine CW.reg ?_
  refine WL.asg rfl rfl ?_
  refine WL.nilS ?_
  refine CW.seq ?_
  refine CW.reg ?_
  refine WL.op rfl (OpK.buildS VI (os := []) [] rfl T.sl28 rfl rfl T.zv2 rfl (by intro z hz; cases hz) rfl (fun v1 g1 w1 hXw1 ho1 hge1 => ?_))
  have hl1 := Lo.new hB hge1
  have hB := hB.trans hXw1
  refine WL.op rfl (OpK.buildS VV (os := [.tmp 10]) [_] rfl T.sl25 rfl rfl T.zv28 rfl (by intro z hz; first | rfl | (simp only [List.mem_cons, List.not_mem_nil, or_false] at hz; subst hz; exact (by first | exact Rd.cells1 (by assumption) | exact Osl.cells1 (by assumption) | exact Osn.cells1 (by assumption) | exact Rd.cells1 (NL.rd (by assumption)) | exact Inn.cell1 (by assumption) (by omega) | assumption | rfl))) rfl (fun v2 g2 w2 hXw2 ho2 hge2 => ?_))
  have hl2 := Lo.new hB hge2
  have hd1_2 := Dj.new ho1.ltO hge2
  have hB := hB.trans hXw2
  have ho1 := ho1.up hXw2
  refine WL.asg rfl rfl ?_
  refine WL.nilS ?_
  refine CW.seq ?_
  refine CW.seq ?_
  refine CW.reg ?_
  refine WL.mv rfl rfl ?_
  refine WL.mv rfl rfl ?_
  refine WL.nilS ?_
  refine CW.block ?_
  have hn3 := Inn.one ho1
  have hl3 := LoI.one hl1
  have hd2_3 := DI.one hd1_2
  have hlt2 := ho2.ltO
  have hlt3 := hn3.ltO
  refine CW.loop (σk := [(0, _), (12, _)]) (fun ρ wz m => ∃ (v4 : Value) (og4 : Option Nat) (vs4 : List Value) (os4 : List (Option Nat)) (i : Nat), ρ = [(5, v4), (13, .int .i64 (i : Nat))] ∧ m = n.toNat - i ∧ UpdL [(some g2)] w2 wz ∧ Osl VV wz og4 v4 (vs4) ∧ OgR w2 (some g2) og4 ∧ Inn wz os4 vs4 (wordsL L i) ∧ BlR w2 [(some g1)] os4 ∧ DI os4 og4 ∧ ((i : Int) ≤ n)) (ρ₀ := [(5, _), (13, _)]) (m₀ := _) ⟨rfl, rfl, rfl, rfl, trivial⟩ ⟨v2, (some g2), _, [(some g1)], 0, rfl, rfl, (UpdL.refl _ _), ho2, OgR.refl _ _, innE hn3 (by rfl), BlR.refl _ _, hd2_3, (by first | omega | rfl | (simp; done) | assumption | (simp_all; done))⟩ ?_
  rintro _ wl1 _ ⟨v4, og4, vs4, os4, i, rfl, rfl, hU0, ho4, ha4, hn5, hy5, hd4_5, hi⟩
  have hl4 := Lo.ogr hl2 hB ha4
  have hg0_4 := ha4
  have hk0_4 : OkB [(some g2)] w2 og4 := OkB.ogr (OkB.mem (by simp)) (Nat.le_refl _) ha4
  have hBpre0 := hB
  have hB := hB.loop hU0 ⟨hl2, trivial⟩
  have hlv5 := hn5.lv
  have hz0_5 := hy5
  have hl5 := LoI.blr hl3 hBpre0 hy5
  have h256 := fun h : (i : Int) < n => wordsL_256 (L := L) (n := i) (by omega) (by omega); have hwg := fun (q : Nat) (h : q < (wordsL L i).length) => wordsL_get (L := L) (n := i) h
  refine CW.seq ?_
  refine CW.reg ?_
  refine WL.pure rfl rfl rfl (PV.lss rfl rfl) ?_
  refine WL.nilS ?_
  refine CW.seq ?_
  refine CW.cond rfl (fun hc1 => ?_) (fun hc1 => ?_)
  · skip
    try simp only [nq] at hc1
    have h256 := h256 (by omega)
    refine CW.skipS ?_
    refine CW.seq ?_
    refine CW.block ?_
    refine CW.seq ?_
    refine CW.reg ?_
    refine WL.op rfl (OpK.buildS VV (os := []) [] rfl T.sl25 rfl rfl T.zv28 rfl (by intro z hz; cases hz) rfl (fun v6 g6 w3 hXw3 ho6 hge6 => ?_))
    have hl6 := Lo.new hB hge6
    have hd5_6 := DI.new hn5 hge6
    have hd4_6 := Dj.new ho4.ltO hge6
    have hk0_6 := OkN.new hU0 hge6
    have hg0_6 := OgR.new hU0.size hge6
    have hB := hB.trans hXw3
    have hn5 := hn5.up hXw3
    have ho4 := ho4.up hXw3
    have hU0 := hU0.ext hXw3
    refine WL.asg rfl rfl ?_
    refine WL.nilS ?_
    refine CW.seq ?_
    refine CW.seq ?_
    refine CW.reg ?_
    refine WL.mv rfl rfl ?_
    refine WL.pure rfl rfl rfl ((PV.lenOs rfl ho4 T.sl25)) ?_
    refine WL.mv rfl rfl ?_
    refine WL.nilS ?_
    refine CW.block ?_
    have hn7 := Inn.zero w3
    have hl7 := LoI.nl w
    have hz0_7 := BlR.nil hU0
    have hd4_7 : DI [] og4 := DI.zero _
    have hd6_7 : DI [] (some g6) := DI.zero _
    have hdd5_7 : DD os4 [] := DD.zeroR _
    have hlt5 := hn5.ltO
    have hlt4 := ho4.ltO
    have hlt6 := ho6.ltO
    have hlt7 := hn7.ltO
    refine CW.loop (σk := [(0, _), (12, _), (13, _), (16, _), (17, _)]) (fun ρ wz m => ∃ (v8 : Value) (og8 : Option Nat) (vs8 : List Value) (os8 : List (Option Nat)) (k : Nat), ρ = [(6, v8), (18, .int .i64 (k : Nat))] ∧ m = (wordsL L i).length - k ∧ UpdL [(some g6)] w3 wz ∧ Osl VV wz og8 v8 (vs8) ∧ OgR w3 (some g6) og8 ∧ Inn wz os8 vs8 (gP L (wordsL L i) k 0) ∧ BlR w3 [] os8 ∧ DI os8 og8 ∧ (k ≤ (wordsL L i).length)) (ρ₀ := [(6, _), (18, _)]) (m₀ := _) ⟨rfl, rfl, rfl, rfl, rfl, rfl, rfl, trivial⟩ ⟨v6, (some g6), _, [], 0, rfl, rfl, (UpdL.refl _ _), ho6, OgR.refl _ _, innE hn7 (by exact gP_zero _ _), BlR.refl _ _, hd6_7, (by first | omega | rfl | (simp; done) | assumption | (simp_all; done))⟩ ?_
    rintro _ wl2 _ ⟨v8, og8, vs8, os8, k, rfl, rfl, hU1, ho8, ha8, hn9, hy9, hd8_9, hk⟩
    have hU0 := hU0.trans hU1 ⟨hk0_6, trivial⟩
    have hn5 := hn5.loop hU1 ⟨hd5_6, trivial⟩
    have ho4 := ho4.loop hU1 ⟨hd4_6, trivial⟩
    have hl8 := Lo.ogr hl6 hB ha8
    have hg1_8 := ha8
    have hk1_8 : OkB [(some g6)] w3 og8 := OkB.ogr (OkB.mem (by simp)) (Nat.le_refl _) ha8
    have hk0_8 := OkB.ogr hk0_6 (by first | assumption | exact UpdL.size (by assumption)) ha8
    have hg0_8 := OgR.trans hg0_6 (by first | assumption | exact UpdL.size (by assumption)) ha8
    have hd5_8 := DI.ogr hd5_6 hlt5 ha8
    have hd4_8 := Dj.ogr hd4_6 hlt4 ha8
    have hBpre1 := hB
    have hB := hB.loop hU1 ⟨hl6, trivial⟩
    have hlv9 := hn9.lv
    have hd4_9 := DI.blr hd4_7 hlt4 hy9
    have hz1_9 := hy9
    have hz0_9 := BlR.trans hz0_7 (by first | assumption | exact UpdL.size (by assumption)) hy9
    have hl9 := LoI.blr hl7 hBpre1 hy9
    have hgl := gP_len (L := L) (xss := (wordsL L i)) (k := k) (l := 0) hk (by omega) (by omega)
    refine CW.seq ?_
    refine CW.reg ?_
    refine WL.pure rfl rfl rfl (PV.lss rfl rfl) ?_
    refine WL.nilS ?_
    refine CW.seq ?_
    refine CW.cond rfl (fun hc2 => ?_) (fun hc2 => ?_)
    · skip
      try simp only [nq] at hc2
      refine CW.skipS ?_
      refine CW.seq ?_
      refine CW.block ?_
      refine CW.seq ?_
      refine CW.reg ?_
      first
        | refine WL.atO (x := .tmp 16) (y := .tmp 18) (f := VV) (.slice none 0 0) rfl rfl ho4 (by first | omega | (simp only [List.length_set]; omega) | (simp only [List.length_append, List.length_take, List.length_replicate, List.length_drop]; omega)) (fun p1 hpp1 hcp1 => ?_)
        | refine WL.atOZ (x := .tmp 16) (y := .tmp 18) (f := VV) (.slice none 0 0) rfl rfl ho4 (by first | omega | (simp only [List.length_set]; omega) | (simp only [List.length_append, List.length_take, List.length_replicate, List.length_drop]; omega)) (fun p1 hpp1 hzp1 hcp1 => ?_)
      refine WL.pure rfl rfl rfl ((by first | exact PV.indexAddr hpp1 rfl rfl T.sl25 | exact PV.indexAddr hpp1 rfl (by rw [← hzp1]; rfl) T.sl25)) ?_
      refine WL.pure rfl rfl rfl ((by first | exact PV.load0 T.na28 rfl (by first | exact Cells.up (by assumption) hB | exact Bx.cells (by assumption) | assumption) (Ext.refl _) rfl | exact PV.load1 T.na28 rfl (by first | exact Cells.up (by assumption) hB | exact Bx.cells (by assumption) | assumption) (Ext.refl _) rfl)) ?_
      refine WL.asg rfl rfl ?_
      refine WL.nilS ?_
      refine CW.seq ?_
      refine CW.reg ?_
      refine WL.mv rfl rfl ?_
      refine WL.mv rfl rfl ?_
      refine WL.nilS ?_
      refine CW.block ?_
      have hlt5 := hn5.ltO
      have hlt4 := ho4.ltO
      have hlt9 := hn9.ltO
      have hlt8 := ho8.ltO
      refine CW.loop (σk := [(0, _), (8, _), (12, _), (13, _), (16, _), (17, _), (18, _), (22, _)]) (fun ρ wz m => ∃ (v10 : Value) (og10 : Option Nat) (vs10 : List Value) (os10 : List (Option Nat)) (l : Nat), ρ = [(6, v10), (23, .int .i64 (l : Nat))] ∧ m = L.toNat - l ∧ UpdL [og8] wl2 wz ∧ Osl VV wz og10 v10 (vs10) ∧ OgR wl2 og8 og10 ∧ Inn wz os10 vs10 (gP L (wordsL L i) k l) ∧ BlR wl2 os8 os10 ∧ DI os10 og10 ∧ ((l : Int) ≤ L)) (ρ₀ := [(6, _), (23, _)]) (m₀ := _) ⟨rfl, rfl, rfl, rfl, rfl, rfl, rfl, rfl, rfl, rfl, trivial⟩ ⟨v8, og8, _, os8, 0, rfl, rfl, (UpdL.refl _ _), ho8, OgR.refl _ _, innE hn9 (by rfl), BlR.refl _ _, hd8_9, (by first | omega | rfl | (simp; done) | assumption | (simp_all; done))⟩ ?_
      rintro _ wl3 _ ⟨v10, og10, vs10, os10, l, rfl, rfl, hU2, ho10, ha10, hn11, hy11, hd10_11, hl⟩
      have hU0 := hU0.trans hU2 ⟨hk0_8, trivial⟩
      have hU1 := hU1.trans hU2 ⟨hk1_8, trivial⟩
      have hn5 := hn5.loop hU2 ⟨hd5_8, trivial⟩
      have ho4 := ho4.loop hU2 ⟨hd4_8, trivial⟩
      have hl10 := Lo.ogr hl8 hB ha10
      have hg2_10 := ha10
      have hk2_10 : OkB [og8] wl2 og10 := OkB.ogr (OkB.mem (by simp)) (Nat.le_refl _) ha10
      have hk0_10 := OkB.ogr hk0_8 (by first | assumption | exact UpdL.size (by assumption)) ha10
      have hg0_10 := OgR.trans hg0_8 (by first | assumption | exact UpdL.size (by assumption)) ha10
      have hk1_10 := OkB.ogr hk1_8 (by first | assumption | exact UpdL.size (by assumption)) ha10
      have hg1_10 := OgR.trans hg1_8 (by first | assumption | exact UpdL.size (by assumption)) ha10
      have hd5_10 := DI.ogr hd5_8 hlt5 ha10
      have hd4_10 := Dj.ogr hd4_8 hlt4 ha10
      have hBpre2 := hB
      have hB := hB.loop hU2 ⟨hl8, trivial⟩
      have hlv11 := hn11.lv
      have hd4_11 := DI.blr hd4_9 hlt4 hy11
      have hz2_11 := hy11
      have hz0_11 := BlR.trans hz0_9 (by first | assumption | exact UpdL.size (by assumption)) hy11
      have hz1_11 := BlR.trans hz1_9 (by first | assumption | exact UpdL.size (by assumption)) hy11
      have hl11 := LoI.blr hl9 hBpre2 hy11
      have hgl := gP_len (L := L) (xss := (wordsL L i)) (k := k) (l := l) (by omega) (by omega) (by omega)
      refine CW.seq ?_
      refine CW.reg ?_
      refine WL.pure rfl rfl rfl (PV.lss rfl rfl) ?_
      refine WL.nilS ?_
      refine CW.seq ?_
      refine CW.cond rfl (fun hc3 => ?_) (fun hc3 => ?_)
      · skip
        try simp only [nq] at hc3
        refine CW.skipS ?_
        refine CW.seq ?_
        refine CW.block ?_
        refine CW.seq ?_
        refine CW.reg ?_
        refine WL.mv rfl rfl ?_
        refine WL.asg rfl rfl ?_
        refine WL.nilS ?_
        refine CW.reg ?_
        have hw5 := hwg k (by omega)
        refine WL.mv rfl rfl ?_
        refine WL.mv rfl rfl ?_
        refine WL.op rfl (OpK.call rfl T.cf141 rfl (c_slices_Clone_int64_int64 (by first | assumption | exact Rd.up (by assumption) hB | exact Osl.rd (by assumption) | exact Osn.rdR (by assumption) | exact NL.rd (by assumption) | exact rdII (by assumption) (by assumption) | exact Inn.rd (by assumption) (by omega)) (by first | assumption | omega | (simp only [marks_len]; omega))) (fun rv1 w4 hR => ?_))
        obtain ⟨hXw4, v12, og12, rfl, ho12, hq12⟩ := hR
        have hl12 := Lo.up hq12 hB
        have hd5_12 := DI.fresh hn5 hq12
        have hd4_12 := Dj.lo ho4.ltO hq12
        have hd11_12 := DI.fresh hn11 hq12
        have hd10_12 := Dj.lo ho10.ltO hq12
        have hk0_12 := OkN.lo hU0 hq12
        have hg0_12 := OgR.lo hU0.size hq12
        have hk1_12 := OkN.lo hU1 hq12
        have hg1_12 := OgR.lo hU1.size hq12
        have hk2_12 := OkN.lo hU2 hq12
        have hg2_12 := OgR.lo hU2.size hq12
        have hB := hB.trans hXw4
        have hn5 := hn5.up hXw4
        have ho4 := ho4.up hXw4
        have hn11 := hn11.up hXw4
        have ho10 := ho10.up hXw4
        have hU0 := hU0.ext hXw4
        have hU1 := hU1.ext hXw4
        have hU2 := hU2.ext hXw4
        refine WL.mv rfl rfl ?_
        refine WL.op rfl (OpK.buildS VI (os := [.tmp 29]) [_] rfl T.sl28 rfl rfl T.zv2 rfl (by intro z hz; first | rfl | (simp only [List.mem_cons, List.not_mem_nil, or_false] at hz; subst hz; exact (by first | exact Rd.cells1 (by assumption) | exact Osl.cells1 (by assumption) | exact Osn.cells1 (by assumption) | exact Rd.cells1 (NL.rd (by assumption)) | exact Inn.cell1 (by assumption) (by omega) | assumption | rfl))) rfl (fun v13 g13 w5 hXw5 ho13 hge13 => ?_))
        have hl13 := Lo.new hB hge13
        have hd5_13 := DI.new hn5 hge13
        have hd4_13 := Dj.new ho4.ltO hge13
        have hd11_13 := DI.new hn11 hge13
        have hd10_13 := Dj.new ho10.ltO hge13
        have hd12_13 := Dj.new ho12.ltO hge13
        have hk0_13 := OkN.new hU0 hge13
        have hg0_13 := OgR.new hU0.size hge13
        have hk1_13 := OkN.new hU1 hge13
        have hg1_13 := OgR.new hU1.size hge13
        have hk2_13 := OkN.new hU2 hge13
        have hg2_13 := OgR.new hU2.size hge13
        have hB := hB.trans hXw5
        have hn5 := hn5.up hXw5
        have ho4 := ho4.up hXw5
        have hn11 := hn11.up hXw5
        have ho10 := ho10.up hXw5
        have ho12 := ho12.up hXw5
        have hU0 := hU0.ext hXw5
        have hU1 := hU1.ext hXw5
        have hU2 := hU2.ext hXw5
        refine WL.op rfl (OpK.appendS (f := VI) rfl T.sl28 T.zv2 rfl rfl ho12 rfl (Osl.src ho13 (fun _ => rfl)) (by first | (simp only [List.length_cons, List.length_nil]; omega) | (simp only [List.length_append, List.length_cons, List.length_nil]; omega)) (fun v14 og14 w6 hXw6 ho14 hap14 => ?_))
        have hl14 := Lo.app hl12 hB hap14
        have hd5_14 := DI.app hd5_12 hn5 hap14
        have hd4_14 := Dj.app hd4_12 ho4.ltO hap14
        have hd11_14 := DI.app hd11_12 hn11 hap14
        have hd10_14 := Dj.app hd10_12 ho10.ltO hap14
        have hd13_14 := Dj.app (Dj.symm hd12_13) ho13.ltO hap14
        have hk0_14 := OkN.app hU0 hk0_12 hap14
        have hg0_14 := OgR.app hg0_12 hU0.size hap14
        have hk1_14 := OkN.app hU1 hk1_12 hap14
        have hg1_14 := OgR.app hg1_12 hU1.size hap14
        have hk2_14 := OkN.app hU2 hk2_12 hap14
        have hg2_14 := OgR.app hg2_12 hU2.size hap14
        have hB := hB.updL hXw6 hl12
        have hn5 := hn5.updD hXw6 hd5_12
        have ho4 := ho4.updD hXw6 hd4_12
        have hn11 := hn11.updD hXw6 hd11_12
        have ho10 := ho10.updD hXw6 hd10_12
        have ho13 := ho13.updD hXw6 (Dj.symm hd12_13)
        have hU0 := hU0.step hXw6 hk0_12
        have hU1 := hU1.step hXw6 hk1_12
        have hU2 := hU2.step hXw6 hk2_12
        refine WL.op rfl (OpK.buildS VV (os := [.tmp 31]) [_] rfl T.sl25 rfl rfl T.zv28 rfl (by intro z hz; first | rfl | (simp only [List.mem_cons, List.not_mem_nil, or_false] at hz; subst hz; exact (by first | exact Rd.cells1 (by assumption) | exact Osl.cells1 (by assumption) | exact Osn.cells1 (by assumption) | exact Rd.cells1 (NL.rd (by assumption)) | exact Inn.cell1 (by assumption) (by omega) | assumption | rfl))) rfl (fun v15 g15 w7 hXw7 ho15 hge15 => ?_))
        have hl15 := Lo.new hB hge15
        have hd5_15 := DI.new hn5 hge15
        have hd4_15 := Dj.new ho4.ltO hge15
        have hd11_15 := DI.new hn11 hge15
        have hd10_15 := Dj.new ho10.ltO hge15
        have hd13_15 := Dj.new ho13.ltO hge15
        have hd14_15 := Dj.new ho14.ltO hge15
        have hk0_15 := OkN.new hU0 hge15
        have hg0_15 := OgR.new hU0.size hge15
        have hk1_15 := OkN.new hU1 hge15
        have hg1_15 := OgR.new hU1.size hge15
        have hk2_15 := OkN.new hU2 hge15
        have hg2_15 := OgR.new hU2.size hge15
        have hB := hB.trans hXw7
        have hn5 := hn5.up hXw7
        have ho4 := ho4.up hXw7
        have hn11 := hn11.up hXw7
        have ho10 := ho10.up hXw7
        have ho13 := ho13.up hXw7
        have ho14 := ho14.up hXw7
        have hU0 := hU0.ext hXw7
        have hU1 := hU1.ext hXw7
        have hU2 := hU2.ext hXw7
        refine WL.op rfl (OpK.appendS (f := VV) rfl T.sl25 T.zv28 rfl rfl ho10 rfl (Osl.srcM ho15 (one_mem (Osl.oneCell ho14))) (by first | (simp only [List.length_cons, List.length_nil]; omega) | (simp only [List.length_append, List.length_cons, List.length_nil]; omega)) (fun v16 og16 w8 hXw8 ho16 hap16 => ?_))
        have hn17 := Inn.put hn11 ho14 hd11_14
        have hl17 := LoI.put hl11 hl14
        have hz0_17 := BlR.put hz0_11 hg0_14
        have hz1_17 := BlR.put hz1_11 hg1_14
        have hz2_17 := BlR.put hz2_11 hg2_14
        have hd4_17 := DI.put hd4_11 (Dj.symm hd4_14)
        have hd10_17 := DI.put hd10_11 (Dj.symm hd10_14)
        have hd13_17 := DI.put hd11_13 (Dj.symm hd13_14)
        have hd15_17 := DI.put hd11_15 hd14_15
        have hnp17 := hn17
        have hl16 := Lo.app hl10 hB hap16
        have hd5_16 := DI.app hd5_10 hn5 hap16
        have hd4_16 := Dj.app hd4_10 ho4.ltO hap16
        have hd13_16 := Dj.app (Dj.symm hd10_13) ho13.ltO hap16
        have hd15_16 := Dj.app (Dj.symm hd10_15) ho15.ltO hap16
        have hd16_17 := DI.app hd10_17 hn17 hap16
        have hk0_16 := OkN.app hU0 hk0_10 hap16
        have hg0_16 := OgR.app hg0_10 hU0.size hap16
        have hk1_16 := OkN.app hU1 hk1_10 hap16
        have hg1_16 := OgR.app hg1_10 hU1.size hap16
        have hk2_16 := OkN.app hU2 hk2_10 hap16
        have hg2_16 := OgR.app hg2_10 hU2.size hap16
        have hB := hB.updL hXw8 hl10
        have hn5 := hn5.updD hXw8 hd5_10
        have ho4 := ho4.updD hXw8 hd4_10
        have ho13 := ho13.updD hXw8 (Dj.symm hd10_13)
        have ho15 := ho15.updD hXw8 (Dj.symm hd10_15)
        have hn17 := hn17.updD hXw8 hd10_17
        have hU0 := hU0.step hXw8 hk0_10
        have hU1 := hU1.step hXw8 hk1_10
        have hU2 := hU2.step hXw8 hk2_10
        refine WL.asg rfl rfl ?_
        refine WL.nil ?_
        refine NQ.block ?_
        refine NQ.then ?_
        refine CW.reg ?_
        refine WL.pure rfl rfl rfl (PV.add rfl rfl (by constructor <;> omega)) ?_
        refine WL.mv rfl rfl ?_
        refine WL.nil ?_
        refine NQ.next (ρ := [(6, _), (23, _)]) ⟨rfl, rfl, rfl, rfl, rfl, rfl, rfl, rfl, rfl, rfl, trivial⟩ ?_
        exact ⟨_, ⟨v16, og16, _, (os10 ++ [og14]), l + 1, rfl, rfl, hU2, ho16, (by first | exact hg2_16 | exact OgR.weak hg2_16), innE hn17 (by exact gP_put), (by first | exact hz2_17 | exact BlR.weak hz2_17), hd16_17, (by first | omega | assumption | (simp_all; done) | (simp_all; omega))⟩, by omega⟩
      try simp only [nq] at hc3
      refine CW.exit ?_
      refine XQ.then ?_
      refine XQ.then ?_
      refine XQ.here ?_
      refine NQ.block ?_
      refine NQ.then ?_
      refine CW.reg ?_
      refine WL.pure rfl rfl rfl (PV.add rfl rfl (by constructor <;> omega)) ?_
      refine WL.mv rfl rfl ?_
      refine WL.nil ?_
      refine NQ.next (ρ := [(6, _), (18, _)]) ⟨rfl, rfl, rfl, rfl, rfl, rfl, rfl, trivial⟩ ?_
      exact ⟨_, ⟨v10, og10, _, os10, k + 1, rfl, rfl, hU1, ho10, (by first | exact hg1_10 | exact OgR.weak hg1_10), innE hn11 (by rw [show l = L.toNat from (by omega)]; exact gP_next (by omega)), (by first | exact hz1_11 | exact BlR.weak hz1_11), hd10_11, (by first | omega | assumption | (simp_all; done) | (simp_all; omega))⟩, by omega⟩
    try simp only [nq] at hc2
    refine CW.exit ?_
    refine XQ.then ?_
    refine XQ.then ?_
    refine XQ.here ?_
    refine NQ.then ?_
    refine CW.reg ?_
    refine WL.mv rfl rfl ?_
    refine WL.asg rfl rfl ?_
    refine WL.nil ?_
    refine NQ.block ?_
    refine NQ.then ?_
    refine CW.reg ?_
    refine WL.pure rfl rfl rfl (PV.add rfl rfl (by constructor <;> omega)) ?_
    refine WL.mv rfl rfl ?_
    refine WL.nil ?_
    refine NQ.next (ρ := [(5, _), (13, _)]) ⟨rfl, rfl, rfl, rfl, trivial⟩ ?_
    exact ⟨_, ⟨v8, og8, _, os8, i + 1, rfl, rfl, hU0, ho8, (by first | exact hg0_8 | exact OgR.weak hg0_8), innE hn9 (by rw [show k = (wordsL L i).length from (by omega)]; exact gP_done (Nat.le_refl _)), (by first | exact hz0_9 | exact BlR.weak hz0_9), hd8_9, (by first | omega | assumption | (simp_all; done) | (simp_all; omega))⟩, by omega⟩
  try simp only [nq] at hc1
  refine CW.exit ?_
  refine XQ.then ?_
  refine XQ.then ?_
  refine XQ.here ?_
  refine NQ.then ?_
  refine CW.seq ?_
  refine CW.reg ?_
  refine WL.mv rfl rfl ?_
  refine WL.asg rfl rfl ?_
  refine WL.nilS ?_
  refine CW.ret ?_
  refine RQ.r1 rfl ?_
  refine ⟨hB, v4, og4, _ , os4, ?_, ho4, hl4, innE hn5 ?_, hl5, hd4_5⟩
  · skip
    rfl
  · skip
    rw [show i = n.toNat from (by omega)]
theorem c_impl_CountRead {w : World} {a0 : Int} {a1 : Int} {va2 : Value} {xa2 : List R4} {n : Int} (ha2 : Rd ER w va2 xa2) : Calls Try.prog 41 #[.agg #[.int .i64 a0, .int .i64 a1, va2], .int .i64 n] w (Ret1 (RQt (.tuple #[.int .i64 (onI (canN a0 a1 xa2 n) (cntW xa2 (wordsL a1 n.toNat) (wordsL a1 n.toNat).length)), .bool (canN a0 a1 xa2 n)]) w)) := by
  have hB : Ext w w := Ext.refl w
  have hla2 := ha2.leI
  refine callsOf (vs := [_, _]) Try.func41 rfl Try.ntmps41 rfl rfl ?_
  refine CW.seq ?_
  refine CW.reg ?_
  refine WL.op rfl (OpK.box rfl rfl (by first | exact Rd.cells1 (by assumption) | exact Osl.cells1 (by assumption) | exact Osn.cells1 (by assumption) | exact Rd.cells1 (NL.rd (by assumption)) | exact Inn.cell1 (by assumption) (by omega) | assumption | rfl) (fun b1 w1 hXw1 hb1 hge1 => ?_))
  have hl1 := Lo.new hB hge1
  have hB := hB.trans hXw1
  refine WL.asg rfl rfl ?_
  refine WL.asg rfl rfl ?_
  refine WL.nilS ?_
  refine CW.seq ?_
  refine CW.seq ?_
  refine CW.reg ?_
  refine WL.pure rfl rfl rfl (PV.loadA T.ag33 rfl hb1.cells (Ext.refl _) rfl) ?_
  refine WL.op rfl (OpK.callR rfl T.cf103 rfl (c_impl_ValidGrammar (by first | assumption | exact Rd.up (by assumption) hB | exact Osl.rd (by assumption) | exact Osn.rdR (by assumption) | exact NL.rd (by assumption) | exact rdII (by assumption) (by assumption) | exact Inn.rd (by assumption) (by omega))) (fun w2 hXw2 => ?_))
  have hB := hB.trans hXw2
  have hb1 := hb1.up hXw2
  refine WL.pure rfl rfl rfl (PV.not rfl) ?_
  refine WL.mv rfl rfl ?_
  refine WL.split (t := 12) rfl (fun hc1 => ?_) (fun hc1 => ?_)
  · skip
    try simp only [nq] at hc1
    refine WL.skip rfl rfl rfl rfl rfl ?_
    refine WL.skip rfl rfl rfl rfl rfl ?_
    refine WL.skip rfl rfl rfl rfl rfl ?_
    refine WL.pure rfl rfl rfl (PV.pickT rfl rfl) ?_
    refine WL.nilS ?_
    refine CW.condT rfl ?_
    refine CW.seq ?_
    refine CW.reg ?_
    refine WL.asg rfl rfl ?_
    refine WL.asg rfl rfl ?_
    refine WL.nilS ?_
    refine CW.ret ?_
    refine RQ.then ?_
    refine RQ.r2 rfl rfl ?_
    refine ⟨?_, hB⟩
    first | exact tE2 (iE (by rw [onI_no (by rw [← canN_n1 (by assumption)]; decide)])) (bE (canN_n1 (by assumption))) | exact tE2 (iE (by rw [onI_no (by rw [← canN_n2 (by omega)]; decide)])) (bE (canN_n2 (by omega))) | exact tE2 (iE (by rw [onI_yes (canN_y (by assumption) (by omega)).symm, show k = (wordsL a1 n.toNat).length from (by omega)])) (bE (canN_y (by assumption) (by omega)))
  try simp only [nq] at hc1
  refine WL.pureG rfl rfl rfl rfl rfl (PV.move rfl) ?_
  refine WL.opG rfl rfl rfl (OpK.callR rfl T.cf104 rfl (c_impl_within) (fun w3 hXw3 => ?_))
  have hB := hB.trans hXw3
  have hb1 := hb1.up hXw3
  refine WL.pureG rfl rfl rfl rfl rfl (PV.not rfl) ?_
  refine WL.pure rfl rfl rfl (PV.pickF rfl rfl) ?_
  refine WL.nilS ?_
  refine CW.cond rfl (fun hc2 => ?_) (fun hc2 => ?_)
  · skip
    try simp only [nq] at hc2
    refine CW.seq ?_
    refine CW.reg ?_
    refine WL.asg rfl rfl ?_
    refine WL.asg rfl rfl ?_
    refine WL.nilS ?_
    refine CW.ret ?_
    refine RQ.then ?_
    refine RQ.r2 rfl rfl ?_
    refine ⟨?_, hB⟩
    first | exact tE2 (iE (by rw [onI_no (by rw [← canN_n1 (by assumption)]; decide)])) (bE (canN_n1 (by assumption))) | exact tE2 (iE (by rw [onI_no (by rw [← canN_n2 (by omega)]; decide)])) (bE (canN_n2 (by omega))) | exact tE2 (iE (by rw [onI_yes (canN_y (by assumption) (by omega)).symm, show k = (wordsL a1 n.toNat).length from (by omega)])) (bE (canN_y (by assumption) (by omega)))
  try simp only [nq] at hc2
  have hg := (by assumption : gramV a0 a1 xa2); have hg1 := hg.1; have hg2 := hg.2.1
  refine CW.skipS ?_
  refine CW.seq ?_
  refine CW.reg ?_
  refine WL.asg rfl rfl ?_
  refine WL.nilS ?_
  refine CW.seq ?_
  refine CW.seq ?_
  refine CW.reg ?_
  refine WL.pure rfl rfl rfl (PV.fieldAddr T.fl33_1 rfl hb1.cells) ?_
  refine WL.pure rfl rfl rfl (PV.load1 T.na2 rfl hb1.cells (Ext.refl _) rfl) ?_
  refine WL.mv rfl rfl ?_
  refine WL.op rfl (OpK.call rfl T.cf126 rfl (c_impl_wordsOf (by first | assumption | omega | (simp only [marks_len]; omega)) (by first | assumption | omega | (simp only [marks_len]; omega))) (fun rv1 w4 hR => ?_))
  obtain ⟨hXw4, v2, og2, vs3, os3, rfl, ho2, hq2, hn3, hq3, hd2_3⟩ := hR
  have hl2 := Lo.up hq2 hB
  have hd1_2 := Dj.lo hb1.ltO hq2
  have hl3 := LoI.up hq3 hB
  have hlv3 := hn3.lv
  have hd1_3 := DI.lo hb1.ltO hq3
  have hB := hB.trans hXw4
  have hb1 := hb1.up hXw4
  refine WL.pure rfl rfl rfl ((PV.lenOs rfl ho2 T.sl25)) ?_
  refine WL.mv rfl rfl ?_
  refine WL.nilS ?_
  refine CW.block ?_
  refine CW.loop (σk := [(1, _), (2, _), (20, _), (21, _)]) (fun ρ wz m => ∃ (k : Nat), ρ = [(6, .int .i64 (cntW xa2 (wordsL a1 n.toNat) k)), (22, .int .i64 (k : Nat))] ∧ m = (wordsL a1 n.toNat).length - k ∧ UpdL [] w4 wz ∧ (k ≤ (wordsL a1 n.toNat).length)) (ρ₀ := [(6, _), (22, _)]) (m₀ := _) ⟨rfl, rfl, rfl, rfl, rfl, rfl, trivial⟩ ⟨0, rfl, rfl, (UpdL.refl _ _), (by first | omega | rfl | (simp; done) | assumption | (simp_all; done))⟩ ?_
  rintro _ wl1 _ ⟨k, rfl, rfl, hU0, hk⟩
  have hb1 := hb1.loop hU0 trivial
  have ho2 := ho2.loop hU0 trivial
  have hn3 := hn3.loop hU0 trivial
  have hB := hB.loop hU0 trivial
  refine CW.seq ?_
  refine CW.reg ?_
  refine WL.pure rfl rfl rfl (PV.lss rfl rfl) ?_
  refine WL.nilS ?_
  refine CW.seq ?_
  refine CW.cond rfl (fun hc3 => ?_) (fun hc3 => ?_)
  · skip
    try simp only [nq] at hc3
    refine CW.skipS ?_
    refine CW.seq ?_
    refine CW.block ?_
    refine CW.seq ?_
    refine CW.reg ?_
    first
      | refine WL.atO (x := .tmp 20) (y := .tmp 22) (f := VV) (.slice none 0 0) rfl rfl ho2 (by first | omega | (simp only [List.length_set]; omega) | (simp only [List.length_append, List.length_take, List.length_replicate, List.length_drop]; omega)) (fun p1 hpp1 hcp1 => ?_)
      | refine WL.atOZ (x := .tmp 20) (y := .tmp 22) (f := VV) (.slice none 0 0) rfl rfl ho2 (by first | omega | (simp only [List.length_set]; omega) | (simp only [List.length_append, List.length_take, List.length_replicate, List.length_drop]; omega)) (fun p1 hpp1 hzp1 hcp1 => ?_)
    refine WL.pure rfl rfl rfl ((by first | exact PV.indexAddr hpp1 rfl rfl T.sl25 | exact PV.indexAddr hpp1 rfl (by rw [← hzp1]; rfl) T.sl25)) ?_
    refine WL.pure rfl rfl rfl ((by first | exact PV.load0 T.na28 rfl (by first | exact Cells.up (by assumption) hB | exact Bx.cells (by assumption) | assumption) (Ext.refl _) rfl | exact PV.load1 T.na28 rfl (by first | exact Cells.up (by assumption) hB | exact Bx.cells (by assumption) | assumption) (Ext.refl _) rfl)) ?_
    refine WL.asg rfl rfl ?_
    refine WL.nilS ?_
    refine CW.seq ?_
    refine CW.reg ?_
    have hwl := wordsL_get (L := a1) (n := n.toNat) (k := k) (by omega); have hcr := cntW_rng xa2 (wordsL a1 n.toNat) k; have h1024 := wordsL_1024 (L := a1) (n := n.toNat) (by omega) (by omega)
    refine WL.pure rfl rfl rfl (PV.loadA T.ag33 rfl hb1.cells (Ext.refl _) rfl) ?_
    refine WL.mv rfl rfl ?_
    refine WL.op rfl (OpK.call rfl T.cf115 rfl (c_impl_Grammar_made (by first | assumption | exact Rd.up (by assumption) hB | exact Osl.rd (by assumption) | exact Osn.rdR (by assumption) | exact NL.rd (by assumption) | exact rdII (by assumption) (by assumption) | exact Inn.rd (by assumption) (by omega)) (by first | assumption | exact Rd.up (by assumption) hB | exact Osl.rd (by assumption) | exact Osn.rdR (by assumption) | exact NL.rd (by assumption) | exact rdII (by assumption) (by assumption) | exact Inn.rd (by assumption) (by omega)) (by first | assumption | omega | (simp only [marks_len]; omega)) (by first | assumption | omega | (simp only [marks_len]; omega))) (fun rv2 w5 hR => ?_))
    obtain ⟨hXw5, ys5, b4, rfl, hm6, hb4, hge4⟩ := hR
    have hl4 := Lo.new hB hge4
    have hd1_4 := Dj.new hb1.ltO hge4
    have hd2_4 := Dj.new ho2.ltO hge4
    have hd3_4 := DI.new hn3 hge4
    have hk0_4 := OkN.new hU0 hge4
    have hg0_4 := OgR.new hU0.size hge4
    have hB := hB.trans hXw5
    have hb1 := hb1.up hXw5
    have ho2 := ho2.up hXw5
    have hn3 := hn3.up hXw5
    have hU0 := hU0.ext hXw5
    refine WL.mv rfl rfl ?_
    refine WL.pure rfl rfl rfl (PV.nilCheck rfl) ?_
    have hT := (by assumption : TCB xa2 ((wordsL a1 n.toNat).getD k []) a0 13 8 1248 _ (((wordsL a1 n.toNat).getD k []).length + 1) 0); have hTn := hT.n; have oq := hT.topB hwl (by omega) (by omega) (q := 0 * 104 + n.toNat * 8 + 0) (by omega)
    refine WL.pure rfl rfl rfl (PV.ixN (i := 0) T.ar223 rfl hb4.spot rfl (by omega)) ?_
    refine WL.pure rfl rfl rfl ((by first | exact PV.ixPN T.ar145 rfl rfl (by omega) | exact PV.ixPZ T.ar145 rfl rfl (by omega))) ?_
    refine WL.pure rfl rfl rfl (PV.ixPN1 (i := 0) T.ar144 rfl rfl (by omega)) ?_
    refine WL.pure rfl rfl rfl (PV.loadArr false T.na4 rfl (Bx.cells hb4) (Ext.refl _) (by first | omega | (simp only [List.length_set]; omega))) ?_
    refine WL.nilS ?_
    refine CW.cond rfl (fun hc4 => ?_) (fun hc4 => ?_)
    · skip
      try simp only [nq] at hc4
      refine CW.reg ?_
      refine WL.mv rfl rfl ?_
      refine WL.pure rfl rfl rfl (PV.add rfl rfl (by constructor <;> omega)) ?_
      refine WL.asg rfl rfl ?_
      refine WL.nil ?_
      refine NQ.block ?_
      refine NQ.then ?_
      refine CW.reg ?_
      refine WL.pure rfl rfl rfl (PV.add rfl rfl (by constructor <;> omega)) ?_
      refine WL.mv rfl rfl ?_
      refine WL.nil ?_
      refine NQ.next (ρ := [(6, _), (22, _)]) ⟨rfl, rfl, rfl, rfl, rfl, rfl, trivial⟩ ?_
      exact ⟨_, ⟨k + 1, (by first | (rw [← cntW_y (oq.2 (by assumption))]; rfl) | (rw [← cntW_n (fun h9 => by have h99 := oq.1 h9; exact absurd (h99.symm.trans (show _ = false by assumption)) (by decide))]; rfl)), rfl, hU0, (by first | omega | assumption | (simp_all; done) | (simp_all; omega))⟩, by omega⟩
    try simp only [nq] at hc4
    refine CW.skip ?_
    refine NQ.block ?_
    refine NQ.then ?_
    refine CW.reg ?_
    refine WL.pure rfl rfl rfl (PV.add rfl rfl (by constructor <;> omega)) ?_
    refine WL.mv rfl rfl ?_
    refine WL.nil ?_
    refine NQ.next (ρ := [(6, _), (22, _)]) ⟨rfl, rfl, rfl, rfl, rfl, rfl, trivial⟩ ?_
    exact ⟨_, ⟨k + 1, (by first | (rw [← cntW_y (oq.2 (by assumption))]; rfl) | (rw [← cntW_n (fun h9 => by have h99 := oq.1 h9; exact absurd (h99.symm.trans (show _ = false by assumption)) (by decide))]; rfl)), rfl, hU0, (by first | omega | assumption | (simp_all; done) | (simp_all; omega))⟩, by omega⟩
  try simp only [nq] at hc3
  refine CW.exit ?_
  refine XQ.then ?_
  refine XQ.then ?_
  refine XQ.here ?_
  refine NQ.then ?_
  refine CW.seq ?_
  refine CW.reg ?_
  refine WL.mv rfl rfl ?_
  refine WL.asg rfl rfl ?_
  refine WL.asg rfl rfl ?_
  refine WL.nilS ?_
  refine CW.ret ?_
  refine RQ.r2 rfl rfl ?_
  refine ⟨?_, hB⟩
  first | exact tE2 (iE (by rw [onI_no (by rw [← canN_n1 (by assumption)]; decide)])) (bE (canN_n1 (by assumption))) | exact tE2 (iE (by rw [onI_no (by rw [← canN_n2 (by omega)]; decide)])) (bE (canN_n2 (by omega))) | exact tE2 (iE (by rw [onI_yes (canN_y (by assumption) (by omega)).symm, show k = (wordsL a1 n.toNat).length from (by omega)])) (bE (canN_y (by assumption) (by omega)))
theorem c_impl_CountWords {w : World} {a0 : Int} {a1 : Int} {va2 : Value} {xa2 : List Int} {va3 : Value} {xa3 : List Bool} {n : Int} (ha2 : Rd EI w va2 xa2) (ha3 : Rd EB w va3 xa3) (hpb : plainB a0 a1 xa2 xa3 = true) (hn5 : 1 ≤ n ∧ n ≤ 5) : Calls Try.prog 42 #[.agg #[.int .i64 a0, .int .i64 a1, va2, va3], .int .i64 n] w (Ret1 (RQt (.tuple #[.int .i64 (sumW xa3 (couW a0.toNat a1 xa2 n.toNat) a0.toNat), .bool true]) w)) := by
  have hB : Ext w w := Ext.refl w
  have hla2 := ha2.leI; have hla3 := ha3.leI; have hp9 := of_decide_eq_true hpb; have hp1 := hp9.1; have hp2 := hp9.2.1; have hp3 := hp9.2.2.1; have hp4 := hp9.2.2.2.1
  refine callsOf (vs := [_, _]) Try.func42 rfl Try.ntmps42 rfl rfl ?_
  refine CW.seq ?_
  refine CW.reg ?_
  refine WL.op rfl (OpK.box rfl rfl (by first | exact Rd.cells1 (by assumption) | exact Osl.cells1 (by assumption) | exact Osn.cells1 (by assumption) | exact Rd.cells1 (NL.rd (by assumption)) | exact Inn.cell1 (by assumption) (by omega) | assumption | rfl) (fun b1 w1 hXw1 hb1 hge1 => ?_))
  have hl1 := Lo.new hB hge1
  have hB := hB.trans hXw1
  refine WL.asg rfl rfl ?_
  refine WL.asg rfl rfl ?_
  refine WL.nilS ?_
  refine CW.seq ?_
  refine CW.seq ?_
  refine CW.reg ?_
  refine WL.pure rfl rfl rfl (PV.loadA T.ag64 rfl hb1.cells (Ext.refl _) rfl) ?_
  refine WL.op rfl (OpK.callR rfl T.cf122 rfl (c_impl_ValidPlain (by first | assumption | exact Rd.up (by assumption) hB | exact Osl.rd (by assumption) | exact Osn.rdR (by assumption)) (by first | assumption | exact Rd.up (by assumption) hB | exact Osl.rd (by assumption) | exact Osn.rdR (by assumption))) (fun w2 hXw2 => ?_))
  have hB := hB.trans hXw2
  have hb1 := hb1.up hXw2
  refine WL.pure rfl rfl rfl (PV.not rfl) ?_
  refine WL.mv rfl rfl ?_
  refine WL.split (t := 17) rfl (fun hc1 => ?_) (fun hc1 => ?_)
  · skip
    try simp only [nq] at hc1
    exfalso; first | exact absurd hp9 (by assumption) | (revert hc1; simp; omega)
  try simp only [nq] at hc1
  refine WL.pureG rfl rfl rfl rfl rfl (PV.move rfl) ?_
  refine WL.opG rfl rfl rfl (OpK.callR rfl T.cf104 rfl (c_impl_within) (fun w3 hXw3 => ?_))
  have hB := hB.trans hXw3
  have hb1 := hb1.up hXw3
  refine WL.pureG rfl rfl rfl rfl rfl (PV.not rfl) ?_
  refine WL.pure rfl rfl rfl (PV.pickF rfl rfl) ?_
  refine WL.nilS ?_
  refine CW.cond rfl (fun hc2 => ?_) (fun hc2 => ?_)
  · skip
    try simp only [nq] at hc2
    exfalso; first | exact absurd hp9 (by assumption) | (revert hc2; simp; omega)
  try simp only [nq] at hc2
  refine CW.skipS ?_
  refine CW.seq ?_
  refine CW.reg ?_
  refine WL.pure rfl rfl rfl (PV.fieldAddr T.fl64_0 rfl hb1.cells) ?_
  refine WL.pure rfl rfl rfl (PV.load1 T.na2 rfl hb1.cells (Ext.refl _) rfl) ?_
  first
    | refine WL.op rfl (OpK.makeS VI (0) rfl T.sl28 T.zv2 rfl rfl rfl (by constructor <;> omega) (fun v2 g2 w4 hXw4 ho2 hge2 => ?_))
    | refine WL.op rfl (OpK.makeSZ VI (0) rfl T.sl28 T.zv2 rfl rfl rfl (by omega) (by constructor <;> omega) (fun v2 g2 w4 hXw4 ho2 hge2 => ?_))
  have hl2 := Lo.new hB hge2
  have hd1_2 := Dj.new hb1.ltO hge2
  have hB := hB.trans hXw4
  have hb1 := hb1.up hXw4
  refine WL.asg rfl rfl ?_
  refine WL.nilS ?_
  refine CW.seq ?_
  refine CW.reg ?_
  refine WL.mv rfl rfl ?_
  first
    | refine WL.atO (x := .tmp 25) (y := .const (.int .i64 0)) (f := VI) (0) rfl rfl ho2 (by first | omega | (simp only [List.length_set]; omega) | (simp only [List.length_append, List.length_take, List.length_replicate, List.length_drop]; omega)) (fun p1 hpp1 hcp1 => ?_)
    | refine WL.atOZ (x := .tmp 25) (y := .const (.int .i64 0)) (f := VI) (0) rfl rfl ho2 (by first | omega | (simp only [List.length_set]; omega) | (simp only [List.length_append, List.length_take, List.length_replicate, List.length_drop]; omega)) (fun p1 hpp1 hzp1 hcp1 => ?_)
  refine WL.pure rfl rfl rfl ((by first | exact PV.indexAddr hpp1 rfl rfl T.sl28 | exact PV.indexAddr hpp1 rfl (by rw [← hzp1]; rfl) T.sl28)) ?_
  refine WL.op rfl (OpK.storeS VI T.sz2 rfl rfl rfl hpp1 ho2 (fun w5 hXw5 ho2 => ?_))
  have hB := hB.updL hXw5 hl2
  have hb1 := hb1.updD hXw5 hd1_2
  refine WL.nilS ?_
  refine CW.seq ?_
  refine CW.seq ?_
  refine CW.reg ?_
  refine WL.mv rfl rfl ?_
  refine WL.mv rfl rfl ?_
  refine WL.nilS ?_
  refine CW.block ?_
  have hlt1 := hb1.ltO
  have hlt2 := ho2.ltO
  refine CW.loop (σk := [(2, _), (27, _)]) (fun ρ wz m => ∃ (v3 : Value) (og3 : Option Nat) (t : Nat), ρ = [(6, v3), (28, .int .i64 (t : Nat))] ∧ m = n.toNat - t ∧ UpdL [(some g2)] w5 wz ∧ Osl VI wz og3 v3 ((couW a0.toNat a1 xa2 t)) ∧ OgR w5 (some g2) og3 ∧ ((t : Int) ≤ n)) (ρ₀ := [(6, _), (28, _)]) (m₀ := _) ⟨rfl, rfl, rfl, rfl, trivial⟩ ⟨v2, (some g2), 0, rfl, rfl, (UpdL.refl _ _), osE ho2 (by rfl), OgR.refl _ _, (by first | omega | rfl | (simp; done) | assumption | (simp_all; done))⟩ ?_
  rintro _ wl1 _ ⟨v3, og3, t, rfl, rfl, hU0, ho3, ha3, ht⟩
  have hb1 := hb1.loop hU0 ⟨hd1_2, trivial⟩
  have hl3 := Lo.ogr hl2 hB ha3
  have hg0_3 := ha3
  have hk0_3 : OkB [(some g2)] w5 og3 := OkB.ogr (OkB.mem (by simp)) (Nat.le_refl _) ha3
  have hd1_3 := Dj.ogr hd1_2 hlt1 ha3
  have hB := hB.loop hU0 ⟨hl2, trivial⟩
  have hcl := couW_len a0.toNat a1 xa2 t
  refine CW.seq ?_
  refine CW.reg ?_
  refine WL.pure rfl rfl rfl (PV.lss rfl rfl) ?_
  refine WL.nilS ?_
  refine CW.seq ?_
  refine CW.cond rfl (fun hc3 => ?_) (fun hc3 => ?_)
  · skip
    try simp only [nq] at hc3
    refine CW.skipS ?_
    refine CW.seq ?_
    refine CW.block ?_
    refine CW.seq ?_
    refine CW.reg ?_
    refine WL.pure rfl rfl rfl (PV.fieldAddr T.fl64_0 rfl hb1.cells) ?_
    refine WL.pure rfl rfl rfl (PV.load1 T.na2 rfl hb1.cells (Ext.refl _) rfl) ?_
    first
      | refine WL.op rfl (OpK.makeS VI (0) rfl T.sl28 T.zv2 rfl rfl rfl (by constructor <;> omega) (fun v4 g4 w6 hXw6 ho4 hge4 => ?_))
      | refine WL.op rfl (OpK.makeSZ VI (0) rfl T.sl28 T.zv2 rfl rfl rfl (by omega) (by constructor <;> omega) (fun v4 g4 w6 hXw6 ho4 hge4 => ?_))
    have hl4 := Lo.new hB hge4
    have hd1_4 := Dj.new hb1.ltO hge4
    have hd3_4 := Dj.new ho3.ltO hge4
    have hk0_4 := OkN.new hU0 hge4
    have hg0_4 := OgR.new hU0.size hge4
    have hB := hB.trans hXw6
    have hb1 := hb1.up hXw6
    have ho3 := ho3.up hXw6
    have hU0 := hU0.ext hXw6
    refine WL.asg rfl rfl ?_
    refine WL.nilS ?_
    refine CW.seq ?_
    refine CW.seq ?_
    refine CW.reg ?_
    refine WL.mv rfl rfl ?_
    refine WL.pure rfl rfl rfl ((PV.lenOs rfl ho3 T.sl28)) ?_
    refine WL.mv rfl rfl ?_
    refine WL.nilS ?_
    refine CW.block ?_
    have hlt1 := hb1.ltO
    have hlt3 := ho3.ltO
    have hlt4 := ho4.ltO
    refine CW.loop (σk := [(2, _), (7, _), (27, _), (28, _), (33, _), (34, _)]) (fun ρ wz m => ∃ (i : Nat), ρ = [(35, .int .i64 (i : Nat))] ∧ m = a0.toNat - i ∧ UpdL [(some g4)] w6 wz ∧ Osl VI wz (some g4) v4 (pasW a1 xa2 (couW a0.toNat a1 xa2 t) i (List.replicate a0.toNat 0)) ∧ ((i : Int) ≤ a0)) (ρ₀ := [(35, _)]) (m₀ := _) ⟨rfl, rfl, rfl, rfl, rfl, rfl, rfl, trivial⟩ ⟨0, rfl, rfl, (UpdL.refl _ _), osE ho4 (by rfl), (by first | omega | rfl | (simp; done) | assumption | (simp_all; done))⟩ ?_
    rintro _ wl2 _ ⟨i, rfl, rfl, hU1, ho4, hi⟩
    have hU0 := hU0.trans hU1 ⟨hk0_4, trivial⟩
    have hb1 := hb1.loop hU1 ⟨hd1_4, trivial⟩
    have ho3 := ho3.loop hU1 ⟨hd3_4, trivial⟩
    have hk1_4 : OkB [(some g4)] w6 (some g4) := OkB.mem (by simp)
    have hB := hB.loop hU1 ⟨hl4, trivial⟩
    have hpl := pasW_len a1 xa2 (couW a0.toNat a1 xa2 t) i (List.replicate a0.toNat 0); rw [List.length_replicate] at hpl
    refine CW.seq ?_
    refine CW.reg ?_
    refine WL.pure rfl rfl rfl (PV.lss rfl rfl) ?_
    refine WL.nilS ?_
    refine CW.seq ?_
    refine CW.cond rfl (fun hc4 => ?_) (fun hc4 => ?_)
    · skip
      try simp only [nq] at hc4
      refine CW.skipS ?_
      refine CW.seq ?_
      refine CW.block ?_
      refine CW.seq ?_
      refine CW.reg ?_
      refine WL.mv rfl rfl ?_
      first
        | refine WL.atO (x := .tmp 33) (y := .tmp 35) (f := VI) (0) rfl rfl ho3 (by first | omega | (simp only [List.length_set]; omega) | (simp only [List.length_append, List.length_take, List.length_replicate, List.length_drop]; omega)) (fun p2 hpp2 hcp2 => ?_)
        | refine WL.atOZ (x := .tmp 33) (y := .tmp 35) (f := VI) (0) rfl rfl ho3 (by first | omega | (simp only [List.length_set]; omega) | (simp only [List.length_append, List.length_take, List.length_replicate, List.length_drop]; omega)) (fun p2 hpp2 hzp2 hcp2 => ?_)
      refine WL.pure rfl rfl rfl ((by first | exact PV.indexAddr hpp2 rfl rfl T.sl28 | exact PV.indexAddr hpp2 rfl (by rw [← hzp2]; rfl) T.sl28)) ?_
      refine WL.pure rfl rfl rfl ((by first | exact PV.load0 T.na2 rfl (by first | exact Cells.up (by assumption) hB | exact Bx.cells (by assumption) | assumption) (Ext.refl _) rfl | exact PV.load1 T.na2 rfl (by first | exact Cells.up (by assumption) hB | exact Bx.cells (by assumption) | assumption) (Ext.refl _) rfl)) ?_
      refine WL.asg rfl rfl ?_
      refine WL.asg rfl rfl ?_
      refine WL.nilS ?_
      refine CW.seq ?_
      refine CW.reg ?_
      refine WL.pure rfl rfl rfl (PV.fieldAddr T.fl64_1 rfl hb1.cells) ?_
      refine WL.pure rfl rfl rfl (PV.load1 T.na2 rfl hb1.cells (Ext.refl _) rfl) ?_
      refine WL.mv rfl rfl ?_
      refine WL.nilS ?_
      refine CW.block ?_
      have hlt1 := hb1.ltO
      have hlt3 := ho3.ltO
      have hlt4 := ho4.ltO
      refine CW.loop (σk := [(2, _), (7, _), (8, _), (9, _), (27, _), (28, _), (33, _), (34, _), (35, _), (41, _)]) (fun ρ wz m => ∃ (k : Nat), ρ = [(42, .int .i64 (k : Nat))] ∧ m = a1.toNat - k ∧ UpdL [(some g4)] wl2 wz ∧ Osl VI wz (some g4) v4 (rowW a1 xa2 (couW a0.toNat a1 xa2 t) i k (pasW a1 xa2 (couW a0.toNat a1 xa2 t) i (List.replicate a0.toNat 0))) ∧ ((k : Int) ≤ a1)) (ρ₀ := [(42, _)]) (m₀ := _) ⟨rfl, rfl, rfl, rfl, rfl, rfl, rfl, rfl, rfl, rfl, rfl, trivial⟩ ⟨0, rfl, rfl, (UpdL.refl _ _), osE ho4 (by rfl), (by first | omega | rfl | (simp; done) | assumption | (simp_all; done))⟩ ?_
      rintro _ wl3 _ ⟨k, rfl, rfl, hU2, ho4, hk⟩
      have hU0 := hU0.trans hU2 ⟨hk0_4, trivial⟩
      have hU1 := hU1.trans hU2 ⟨hk1_4, trivial⟩
      have hb1 := hb1.loop hU2 ⟨hd1_4, trivial⟩
      have ho3 := ho3.loop hU2 ⟨hd3_4, trivial⟩
      have hk2_4 : OkB [(some g4)] wl2 (some g4) := OkB.mem (by simp)
      have hB := hB.loop hU2 ⟨hl4, trivial⟩
      have hrl := rowW_len a1 xa2 (couW a0.toNat a1 xa2 t) i k (pasW a1 xa2 (couW a0.toNat a1 xa2 t) i (List.replicate a0.toNat 0)); rw [pasW_len, List.length_replicate] at hrl
      refine CW.seq ?_
      refine CW.reg ?_
      refine WL.pure rfl rfl rfl (PV.lss rfl rfl) ?_
      refine WL.nilS ?_
      refine CW.seq ?_
      refine CW.cond rfl (fun hc5 => ?_) (fun hc5 => ?_)
      · skip
        try simp only [nq] at hc5
        refine CW.skipS ?_
        refine CW.seq ?_
        refine CW.block ?_
        refine CW.seq ?_
        refine CW.reg ?_
        refine WL.mv rfl rfl ?_
        refine WL.asg rfl rfl ?_
        refine WL.nilS ?_
        refine CW.reg ?_
        refine WL.mv rfl rfl ?_
        have htg := toG hpb (i := i) (k := k) (by omega) (by omega)
        refine WL.pure rfl rfl rfl (PV.loadA T.ag64 rfl hb1.cells (Ext.refl _) rfl) ?_
        refine WL.mv rfl rfl ?_
        refine WL.mv rfl rfl ?_
        refine WL.op rfl (OpK.callR rfl T.cf123 rfl (c_impl_Plain_to (by first | assumption | exact Rd.up (by assumption) hB | exact Osl.rd (by assumption) | exact Osn.rdR (by assumption)) (by first | assumption | exact Rd.up (by assumption) hB | exact Osl.rd (by assumption) | exact Osn.rdR (by assumption)) (by first | assumption | omega | (simp only [marks_len]; omega)) (by first | assumption | omega | (simp only [marks_len]; omega)) (by first | assumption | omega | (simp only [marks_len]; omega)) (by first | assumption | omega | (simp only [marks_len]; omega)) (by first | assumption | omega | (simp only [marks_len]; omega))) (fun w7 hXw7 => ?_))
        have hB := hB.trans hXw7
        have hb1 := hb1.up hXw7
        have ho3 := ho3.up hXw7
        have ho4 := ho4.up hXw7
        have hU0 := hU0.ext hXw7
        have hU1 := hU1.ext hXw7
        have hU2 := hU2.ext hXw7
        first
          | refine WL.atO (x := .tmp 45) (y := .tmp 49) (f := VI) (0) rfl rfl ho4 (by first | omega | (simp only [List.length_set]; omega) | (simp only [List.length_append, List.length_take, List.length_replicate, List.length_drop]; omega)) (fun p3 hpp3 hcp3 => ?_)
          | refine WL.atOZ (x := .tmp 45) (y := .tmp 49) (f := VI) (0) rfl rfl ho4 (by first | omega | (simp only [List.length_set]; omega) | (simp only [List.length_append, List.length_take, List.length_replicate, List.length_drop]; omega)) (fun p3 hpp3 hzp3 hcp3 => ?_)
        refine WL.pure rfl rfl rfl ((by first | exact PV.indexAddr hpp3 rfl rfl T.sl28 | exact PV.indexAddr hpp3 rfl (by rw [← hzp3]; rfl) T.sl28)) ?_
        refine WL.pure rfl rfl rfl ((by first | exact PV.load0 T.na2 rfl (by first | exact Cells.up (by assumption) hB | exact Bx.cells (by assumption) | assumption) (Ext.refl _) rfl | exact PV.load1 T.na2 rfl (by first | exact Cells.up (by assumption) hB | exact Bx.cells (by assumption) | assumption) (Ext.refl _) rfl)) ?_
        refine WL.mv rfl rfl ?_
        refine WL.pure rfl rfl rfl (PV.addW rfl rfl) ?_
        first
          | refine WL.atO (x := .tmp 45) (y := .tmp 49) (f := VI) (0) rfl rfl ho4 (by first | omega | (simp only [List.length_set]; omega) | (simp only [List.length_append, List.length_take, List.length_replicate, List.length_drop]; omega)) (fun p4 hpp4 hcp4 => ?_)
          | refine WL.atOZ (x := .tmp 45) (y := .tmp 49) (f := VI) (0) rfl rfl ho4 (by first | omega | (simp only [List.length_set]; omega) | (simp only [List.length_append, List.length_take, List.length_replicate, List.length_drop]; omega)) (fun p4 hpp4 hzp4 hcp4 => ?_)
        refine WL.pure rfl rfl rfl ((by first | exact PV.indexAddr hpp4 rfl rfl T.sl28 | exact PV.indexAddr hpp4 rfl (by rw [← hzp4]; rfl) T.sl28)) ?_
        refine WL.op rfl (OpK.storeS VI T.sz2 rfl rfl rfl hpp4 ho4 (fun w8 hXw8 ho4 => ?_))
        have hB := hB.updL hXw8 hl4
        have hb1 := hb1.updD hXw8 hd1_4
        have ho3 := ho3.updD hXw8 hd3_4
        have hU0 := hU0.step hXw8 hk0_4
        have hU1 := hU1.step hXw8 hk1_4
        have hU2 := hU2.step hXw8 hk2_4
        refine WL.nil ?_
        refine NQ.block ?_
        refine NQ.then ?_
        refine CW.reg ?_
        refine WL.pure rfl rfl rfl (PV.add rfl rfl (by constructor <;> omega)) ?_
        refine WL.mv rfl rfl ?_
        refine WL.nil ?_
        refine NQ.next (ρ := [(42, _)]) ⟨rfl, rfl, rfl, rfl, rfl, rfl, rfl, rfl, rfl, rfl, rfl, trivial⟩ ?_
        exact ⟨_, ⟨k + 1, rfl, rfl, hU2, osE ho4 (by rfl), (by first | omega | assumption | (simp_all; done) | (simp_all; omega))⟩, by omega⟩
      try simp only [nq] at hc5
      refine CW.exit ?_
      refine XQ.then ?_
      refine XQ.then ?_
      refine XQ.here ?_
      refine NQ.block ?_
      refine NQ.then ?_
      refine CW.reg ?_
      refine WL.pure rfl rfl rfl (PV.add rfl rfl (by constructor <;> omega)) ?_
      refine WL.mv rfl rfl ?_
      refine WL.nil ?_
      refine NQ.next (ρ := [(35, _)]) ⟨rfl, rfl, rfl, rfl, rfl, rfl, rfl, trivial⟩ ?_
      exact ⟨_, ⟨i + 1, rfl, rfl, hU1, osE ho4 (by rw [show k = a1.toNat from (by omega)]; rfl), (by first | omega | assumption | (simp_all; done) | (simp_all; omega))⟩, by omega⟩
    try simp only [nq] at hc4
    refine CW.exit ?_
    refine XQ.then ?_
    refine XQ.then ?_
    refine XQ.here ?_
    refine NQ.then ?_
    refine CW.reg ?_
    refine WL.mv rfl rfl ?_
    refine WL.asg rfl rfl ?_
    refine WL.nil ?_
    refine NQ.block ?_
    refine NQ.then ?_
    refine CW.reg ?_
    refine WL.pure rfl rfl rfl (PV.add rfl rfl (by constructor <;> omega)) ?_
    refine WL.mv rfl rfl ?_
    refine WL.nil ?_
    refine NQ.next (ρ := [(6, _), (28, _)]) ⟨rfl, rfl, rfl, rfl, trivial⟩ ?_
    exact ⟨_, ⟨v4, (some g4), t + 1, rfl, rfl, hU0, osE ho4 (by rw [show i = a0.toNat from (by omega)]; rfl), (by first | exact hg0_4 | exact OgR.weak hg0_4), (by first | omega | assumption | (simp_all; done) | (simp_all; omega))⟩, by omega⟩
  try simp only [nq] at hc3
  obtain rfl : t = n.toNat := (by omega)
  refine CW.exit ?_
  refine XQ.then ?_
  refine XQ.then ?_
  refine XQ.here ?_
  refine NQ.then ?_
  refine CW.seq ?_
  refine CW.reg ?_
  refine WL.asg rfl rfl ?_
  refine WL.nilS ?_
  refine CW.seq ?_
  refine CW.seq ?_
  refine CW.reg ?_
  refine WL.mv rfl rfl ?_
  refine WL.pure rfl rfl rfl ((PV.lenOs rfl ho3 T.sl28)) ?_
  refine WL.mv rfl rfl ?_
  refine WL.nilS ?_
  refine CW.block ?_
  refine CW.loop (σk := [(2, _), (59, _), (60, _)]) (fun ρ wz m => ∃ (k : Nat), ρ = [(11, .int .i64 (sumW xa3 (couW a0.toNat a1 xa2 n.toNat) k)), (61, .int .i64 (k : Nat))] ∧ m = a0.toNat - k ∧ UpdL [] wl1 wz ∧ ((k : Int) ≤ a0)) (ρ₀ := [(11, _), (61, _)]) (m₀ := _) ⟨rfl, rfl, rfl, rfl, rfl, trivial⟩ ⟨0, rfl, rfl, (UpdL.refl _ _), (by first | omega | rfl | (simp; done) | assumption | (simp_all; done))⟩ ?_
  rintro _ wl4 _ ⟨k, rfl, rfl, hU3, hk⟩
  have hb1 := hb1.loop hU3 trivial
  have ho3 := ho3.loop hU3 trivial
  have hB := hB.loop hU3 trivial
  refine CW.seq ?_
  refine CW.reg ?_
  refine WL.pure rfl rfl rfl (PV.lss rfl rfl) ?_
  refine WL.nilS ?_
  refine CW.seq ?_
  refine CW.cond rfl (fun hc6 => ?_) (fun hc6 => ?_)
  · skip
    try simp only [nq] at hc6
    refine CW.skipS ?_
    refine CW.seq ?_
    refine CW.block ?_
    refine CW.seq ?_
    refine CW.reg ?_
    refine WL.mv rfl rfl ?_
    first
      | refine WL.atO (x := .tmp 59) (y := .tmp 61) (f := VI) (0) rfl rfl ho3 (by first | omega | (simp only [List.length_set]; omega) | (simp only [List.length_append, List.length_take, List.length_replicate, List.length_drop]; omega)) (fun p5 hpp5 hcp5 => ?_)
      | refine WL.atOZ (x := .tmp 59) (y := .tmp 61) (f := VI) (0) rfl rfl ho3 (by first | omega | (simp only [List.length_set]; omega) | (simp only [List.length_append, List.length_take, List.length_replicate, List.length_drop]; omega)) (fun p5 hpp5 hzp5 hcp5 => ?_)
    refine WL.pure rfl rfl rfl ((by first | exact PV.indexAddr hpp5 rfl rfl T.sl28 | exact PV.indexAddr hpp5 rfl (by rw [← hzp5]; rfl) T.sl28)) ?_
    refine WL.pure rfl rfl rfl ((by first | exact PV.load0 T.na2 rfl (by first | exact Cells.up (by assumption) hB | exact Bx.cells (by assumption) | assumption) (Ext.refl _) rfl | exact PV.load1 T.na2 rfl (by first | exact Cells.up (by assumption) hB | exact Bx.cells (by assumption) | assumption) (Ext.refl _) rfl)) ?_
    refine WL.asg rfl rfl ?_
    refine WL.asg rfl rfl ?_
    refine WL.nilS ?_
    refine CW.seq ?_
    refine CW.reg ?_
    refine WL.pure rfl rfl rfl (PV.fieldAddr T.fl64_3 rfl hb1.cells) ?_
    refine WL.pure rfl rfl rfl (PV.load1 T.na62 rfl hb1.cells (Ext.refl _) rfl) ?_
    refine WL.mv rfl rfl ?_
    first
      | refine WL.at (x := .tmp 67) (y := .tmp 68) (E := EB) (false) rfl rfl (by first | assumption | exact Inn.rd (by assumption) (by omega)) (by first | omega | (simp only [List.length_set]; omega) | (simp only [List.length_append, List.length_take, List.length_replicate, List.length_drop]; omega)) (fun p6 csp6 hpp6 hcp6 hq => ?_)
      | refine WL.atZ (x := .tmp 67) (y := .tmp 68) (E := EB) (false) rfl rfl (by first | assumption | exact Inn.rd (by assumption) (by omega)) (by first | omega | (simp only [List.length_set]; omega) | (simp only [List.length_append, List.length_take, List.length_replicate, List.length_drop]; omega)) (fun p6 csp6 hpp6 hzp6 hcp6 hq => ?_)
    cases hq
    refine WL.pure rfl rfl rfl ((by first | exact PV.indexAddr hpp6 rfl rfl T.sl62 | exact PV.indexAddr hpp6 rfl (by rw [← hzp6]; rfl) T.sl62)) ?_
    refine WL.pure rfl rfl rfl ((by first | exact PV.load0 T.na4 rfl (by first | exact Cells.up (by assumption) hB | exact Bx.cells (by assumption) | assumption) (Ext.refl _) rfl | exact PV.load1 T.na4 rfl (by first | exact Cells.up (by assumption) hB | exact Bx.cells (by assumption) | assumption) (Ext.refl _) rfl)) ?_
    refine WL.nilS ?_
    refine CW.cond rfl (fun hc7 => ?_) (fun hc7 => ?_)
    · skip
      try simp only [nq] at hc7
      refine CW.reg ?_
      refine WL.mv rfl rfl ?_
      refine WL.mv rfl rfl ?_
      refine WL.pure rfl rfl rfl (PV.addW rfl rfl) ?_
      refine WL.asg rfl rfl ?_
      refine WL.nil ?_
      refine NQ.block ?_
      refine NQ.then ?_
      refine CW.reg ?_
      refine WL.pure rfl rfl rfl (PV.add rfl rfl (by constructor <;> omega)) ?_
      refine WL.mv rfl rfl ?_
      refine WL.nil ?_
      refine NQ.next (ρ := [(11, _), (61, _)]) ⟨rfl, rfl, rfl, rfl, rfl, trivial⟩ ?_
      exact ⟨_, ⟨k + 1, (by first | (rw [← sumW_y (by assumption)]; rfl) | (rw [← sumW_n (by assumption)]; rfl)), rfl, hU3, (by first | omega | assumption | (simp_all; done) | (simp_all; omega))⟩, by omega⟩
    try simp only [nq] at hc7
    refine CW.skip ?_
    refine NQ.block ?_
    refine NQ.then ?_
    refine CW.reg ?_
    refine WL.pure rfl rfl rfl (PV.add rfl rfl (by constructor <;> omega)) ?_
    refine WL.mv rfl rfl ?_
    refine WL.nil ?_
    refine NQ.next (ρ := [(11, _), (61, _)]) ⟨rfl, rfl, rfl, rfl, rfl, trivial⟩ ?_
    exact ⟨_, ⟨k + 1, (by first | (rw [← sumW_y (by assumption)]; rfl) | (rw [← sumW_n (by assumption)]; rfl)), rfl, hU3, (by first | omega | assumption | (simp_all; done) | (simp_all; omega))⟩, by omega⟩
  try simp only [nq] at hc6
  refine CW.exit ?_
  refine XQ.then ?_
  refine XQ.then ?_
  refine XQ.here ?_
  refine NQ.then ?_
  refine CW.seq ?_
  refine CW.reg ?_
  refine WL.mv rfl rfl ?_
  refine WL.asg rfl rfl ?_
  refine WL.asg rfl rfl ?_
  refine WL.nilS ?_
  refine CW.ret ?_
  refine RQ.r2 rfl rfl ?_
  refine ⟨?_, hB⟩
  first | rfl | (rw [show k = a0.toNat from (by omega)])
theorem c_impl_ParsesShared {w : World} {a0 : Int} {a1 : Int} {va2 : Value} {xa2 : List R4} {vb : Value} {wss : List (List Int)} {wk : Int} (ha2 : Rd ER w va2 xa2) (hb : Rd (ESl EI) w vb wss) : Calls Try.prog 14 #[.agg #[.int .i64 a0, .int .i64 a1, va2], vb, .int .i64 wk] w (Ret1 (fun v w' => Ext w w' ∧ ∃ u og_u, v = .tuple #[u, .bool (psB a0 a1 xa2 wss wk)] ∧ Osl VI w' og_u u (onT (psB a0 a1 xa2 wss wk) (wss.map fun w => leastC xa2 w 0 w.length 0)) ∧ Lo w og_u)) := by
  have hB : Ext w w := Ext.refl w
  have hla2 := ha2.leI; have hlb9 := hb.leI
  refine callsOf (vs := [_, _, _]) Try.func14 rfl Try.ntmps14 rfl rfl ?_
  refine CW.seq ?_
  refine CW.reg ?_
  refine WL.op rfl (OpK.box rfl rfl (by first | exact Rd.cells1 (by assumption) | exact Osl.cells1 (by assumption) | exact Osn.cells1 (by assumption) | exact Rd.cells1 (NL.rd (by assumption)) | exact Inn.cell1 (by assumption) (by omega) | assumption | rfl) (fun b1 w1 hXw1 hb1 hge1 => ?_))
  have hl1 := Lo.new hB hge1
  have hB := hB.trans hXw1
  refine WL.asg rfl rfl ?_
  refine WL.asg rfl rfl ?_
  refine WL.nilS ?_
  refine CW.seq ?_
  refine CW.seq ?_
  refine CW.reg ?_
  refine WL.pure rfl rfl rfl (PV.loadA T.ag33 rfl hb1.cells (Ext.refl _) rfl) ?_
  refine WL.op rfl (OpK.callR rfl T.cf103 rfl (c_impl_ValidGrammar (by first | assumption | exact Rd.up (by assumption) hB | exact Osl.rd (by assumption) | exact Osn.rdR (by assumption))) (fun w2 hXw2 => ?_))
  have hB := hB.trans hXw2
  have hb1 := hb1.up hXw2
  refine WL.pure rfl rfl rfl (PV.not rfl) ?_
  refine WL.mv rfl rfl ?_
  refine WL.split (t := 16) rfl (fun hc1 => ?_) (fun hc1 => ?_)
  · skip
    try simp only [nq] at hc1
    refine WL.skip rfl rfl rfl rfl rfl ?_
    refine WL.skip rfl rfl rfl rfl rfl ?_
    refine WL.skip rfl rfl rfl rfl rfl ?_
    refine WL.pure rfl rfl rfl (PV.pickT rfl rfl) ?_
    refine WL.mv rfl rfl ?_
    refine WL.skip rfl rfl rfl rfl rfl ?_
    refine WL.skip rfl rfl rfl rfl rfl ?_
    refine WL.skip rfl rfl rfl rfl rfl ?_
    refine WL.pure rfl rfl rfl (PV.pickT rfl rfl) ?_
    refine WL.nilS ?_
    refine CW.condT rfl ?_
    refine CW.seq ?_
    refine CW.reg ?_
    refine WL.asg rfl rfl ?_
    refine WL.asg rfl rfl ?_
    refine WL.nilS ?_
    refine CW.ret ?_
    refine RQ.then ?_
    refine RQ.r2 rfl rfl ?_
    refine ⟨hB, (.slice none 0 0), none, ?_, osE (Osl.nil _ _) ?_, Lo.nl _⟩
    · skip
      first | exact tE2 rfl (bE (by first | exact ps_n1 (by assumption) | exact ps_n2 (by omega) | exact ps_n3 (by omega) | exact ps_n4 (k := k) (by omega) (by assumption))) | exact tE2 rfl (bE (ps_y (by assumption) (by omega) (by omega) (fun j h => he j (by omega))))
    · skip
      first | (have hS9 : false = (psB a0 a1 xa2 wss wk) := (by first | exact ps_n1 (by assumption) | exact ps_n2 (by omega) | exact ps_n3 (by omega) | exact ps_n4 (k := k) (by omega) (by assumption)); rw [← hS9]; rfl) | (have hS9 : true = (psB a0 a1 xa2 wss wk) := (ps_y (by assumption) (by omega) (by omega) (fun j h => he j (by omega))); rw [onT_yes hS9.symm, List.take_of_length_le (by omega)])
  try simp only [nq] at hc1
  refine WL.pureG rfl rfl rfl rfl rfl (PV.move rfl) ?_
  refine WL.pureG rfl rfl rfl rfl rfl ((by first | exact PV.len rfl (by assumption) T.sl25 | exact PV.lenOs rfl (by assumption) T.sl25 | exact PV.len rfl (NL.rd (by assumption)) T.sl25 | exact PV.len rfl (Inn.rd (by assumption) (by omega)) T.sl25)) ?_
  refine WL.pureG rfl rfl rfl rfl rfl (PV.gtr rfl rfl) ?_
  refine WL.pure rfl rfl rfl (PV.pickF rfl rfl) ?_
  refine WL.mv rfl rfl ?_
  refine WL.split (t := 21) rfl (fun hc2 => ?_) (fun hc2 => ?_)
  · skip
    try simp only [nq] at hc2
    refine WL.skip rfl rfl rfl rfl rfl ?_
    refine WL.skip rfl rfl rfl rfl rfl ?_
    refine WL.skip rfl rfl rfl rfl rfl ?_
    refine WL.pure rfl rfl rfl (PV.pickT rfl rfl) ?_
    refine WL.nilS ?_
    refine CW.condT rfl ?_
    refine CW.seq ?_
    refine CW.reg ?_
    refine WL.asg rfl rfl ?_
    refine WL.asg rfl rfl ?_
    refine WL.nilS ?_
    refine CW.ret ?_
    refine RQ.then ?_
    refine RQ.r2 rfl rfl ?_
    refine ⟨hB, (.slice none 0 0), none, ?_, osE (Osl.nil _ _) ?_, Lo.nl _⟩
    · skip
      first | exact tE2 rfl (bE (by first | exact ps_n1 (by assumption) | exact ps_n2 (by omega) | exact ps_n3 (by omega) | exact ps_n4 (k := k) (by omega) (by assumption))) | exact tE2 rfl (bE (ps_y (by assumption) (by omega) (by omega) (fun j h => he j (by omega))))
    · skip
      first | (have hS9 : false = (psB a0 a1 xa2 wss wk) := (by first | exact ps_n1 (by assumption) | exact ps_n2 (by omega) | exact ps_n3 (by omega) | exact ps_n4 (k := k) (by omega) (by assumption)); rw [← hS9]; rfl) | (have hS9 : true = (psB a0 a1 xa2 wss wk) := (ps_y (by assumption) (by omega) (by omega) (fun j h => he j (by omega))); rw [onT_yes hS9.symm, List.take_of_length_le (by omega)])
  try simp only [nq] at hc2
  refine WL.pureG rfl rfl rfl rfl rfl (PV.move rfl) ?_
  refine WL.opG rfl rfl rfl (OpK.callR rfl T.cf104 rfl (c_impl_within) (fun w3 hXw3 => ?_))
  have hB := hB.trans hXw3
  have hb1 := hb1.up hXw3
  refine WL.pureG rfl rfl rfl rfl rfl (PV.not rfl) ?_
  refine WL.pure rfl rfl rfl (PV.pickF rfl rfl) ?_
  refine WL.nilS ?_
  refine CW.cond rfl (fun hc3 => ?_) (fun hc3 => ?_)
  · skip
    try simp only [nq] at hc3
    refine CW.seq ?_
    refine CW.reg ?_
    refine WL.asg rfl rfl ?_
    refine WL.asg rfl rfl ?_
    refine WL.nilS ?_
    refine CW.ret ?_
    refine RQ.then ?_
    refine RQ.r2 rfl rfl ?_
    refine ⟨hB, (.slice none 0 0), none, ?_, osE (Osl.nil _ _) ?_, Lo.nl _⟩
    · skip
      first | exact tE2 rfl (bE (by first | exact ps_n1 (by assumption) | exact ps_n2 (by omega) | exact ps_n3 (by omega) | exact ps_n4 (k := k) (by omega) (by assumption))) | exact tE2 rfl (bE (ps_y (by assumption) (by omega) (by omega) (fun j h => he j (by omega))))
    · skip
      first | (have hS9 : false = (psB a0 a1 xa2 wss wk) := (by first | exact ps_n1 (by assumption) | exact ps_n2 (by omega) | exact ps_n3 (by omega) | exact ps_n4 (k := k) (by omega) (by assumption)); rw [← hS9]; rfl) | (have hS9 : true = (psB a0 a1 xa2 wss wk) := (ps_y (by assumption) (by omega) (by omega) (fun j h => he j (by omega))); rw [onT_yes hS9.symm, List.take_of_length_le (by omega)])
  try simp only [nq] at hc3
  refine CW.skipS ?_
  refine CW.seq ?_
  refine CW.reg ?_
  refine WL.op rfl (OpK.buildS VI (os := []) [] rfl T.sl28 rfl rfl T.zv2 rfl (by intro z hz; cases hz) rfl (fun v2 g2 w4 hXw4 ho2 hge2 => ?_))
  have hl2 := Lo.new hB hge2
  have hd1_2 := Dj.new hb1.ltO hge2
  have hB := hB.trans hXw4
  have hb1 := hb1.up hXw4
  refine WL.asg rfl rfl ?_
  refine WL.nilS ?_
  refine CW.seq ?_
  refine CW.seq ?_
  refine CW.reg ?_
  refine WL.mv rfl rfl ?_
  refine WL.pure rfl rfl rfl ((by first | exact PV.len rfl (by assumption) T.sl25 | exact PV.lenOs rfl (by assumption) T.sl25 | exact PV.len rfl (NL.rd (by assumption)) T.sl25 | exact PV.len rfl (Inn.rd (by assumption) (by omega)) T.sl25)) ?_
  refine WL.mv rfl rfl ?_
  refine WL.nilS ?_
  refine CW.block ?_
  have hlt1 := hb1.ltO
  have hlt2 := ho2.ltO
  refine CW.loop (σk := [(3, _), (27, _), (28, _)]) (fun ρ wz m => ∃ (v3 : Value) (og3 : Option Nat) (k : Nat), ρ = [(8, v3), (29, .int .i64 (k : Nat))] ∧ m = wss.length - k ∧ UpdL [(some g2)] w4 wz ∧ Osl VI wz og3 v3 ((wss.take k).map fun w => leastC xa2 w 0 w.length 0) ∧ OgR w4 (some g2) og3 ∧ (k ≤ wss.length) ∧ (∀ j : Nat, j < k → canB a0 a1 xa2 (wss.getD j []) = true)) (ρ₀ := [(8, _), (29, _)]) (m₀ := _) ⟨rfl, rfl, rfl, rfl, rfl, trivial⟩ ⟨v2, (some g2), 0, rfl, rfl, (UpdL.refl _ _), osE ho2 (by rfl), OgR.refl _ _, (by first | omega | rfl | (simp; done) | assumption | (simp_all; done)), (by intro j h; omega)⟩ ?_
  rintro _ wl1 _ ⟨v3, og3, k, rfl, rfl, hU0, ho3, ha3, hk, he⟩
  have hb1 := hb1.loop hU0 ⟨hd1_2, trivial⟩
  have hl3 := Lo.ogr hl2 hB ha3
  have hg0_3 := ha3
  have hk0_3 : OkB [(some g2)] w4 og3 := OkB.ogr (OkB.mem (by simp)) (Nat.le_refl _) ha3
  have hd1_3 := Dj.ogr hd1_2 hlt1 ha3
  have hB := hB.loop hU0 ⟨hl2, trivial⟩
  have hmk : ((wss.take k).map fun w => leastC xa2 w 0 w.length 0).length = k := (by simp; omega)
  refine CW.seq ?_
  refine CW.reg ?_
  refine WL.pure rfl rfl rfl (PV.lss rfl rfl) ?_
  refine WL.nilS ?_
  refine CW.seq ?_
  refine CW.cond rfl (fun hc4 => ?_) (fun hc4 => ?_)
  · skip
    try simp only [nq] at hc4
    refine CW.skipS ?_
    refine CW.seq ?_
    refine CW.block ?_
    refine CW.seq ?_
    refine CW.reg ?_
    first
      | refine WL.at (x := .tmp 27) (y := .tmp 29) (E := ESl EI) ([]) rfl rfl (by first | assumption | exact Inn.rd (by assumption) (by omega)) (by first | omega | (simp only [List.length_set]; omega) | (simp only [List.length_append, List.length_take, List.length_replicate, List.length_drop]; omega)) (fun p1 csp1 hpp1 hcp1 hq => ?_)
      | refine WL.atZ (x := .tmp 27) (y := .tmp 29) (E := ESl EI) ([]) rfl rfl (by first | assumption | exact Inn.rd (by assumption) (by omega)) (by first | omega | (simp only [List.length_set]; omega) | (simp only [List.length_append, List.length_take, List.length_replicate, List.length_drop]; omega)) (fun p1 csp1 hpp1 hzp1 hcp1 hq => ?_)
    obtain ⟨vq, rfl, hrq⟩ := hq; have hrql := hrq.leI
    refine WL.pure rfl rfl rfl ((by first | exact PV.indexAddr hpp1 rfl rfl T.sl25 | exact PV.indexAddr hpp1 rfl (by rw [← hzp1]; rfl) T.sl25)) ?_
    refine WL.pure rfl rfl rfl ((by first | exact PV.load0 T.na28 rfl (by first | exact Cells.up (by assumption) hB | exact Bx.cells (by assumption) | assumption) (Ext.refl _) rfl | exact PV.load1 T.na28 rfl (by first | exact Cells.up (by assumption) hB | exact Bx.cells (by assumption) | assumption) (Ext.refl _) rfl)) ?_
    refine WL.asg rfl rfl ?_
    refine WL.nilS ?_
    refine CW.seq ?_
    refine CW.reg ?_
    refine WL.pure rfl rfl rfl (PV.loadA T.ag33 rfl hb1.cells (Ext.refl _) rfl) ?_
    refine WL.mv rfl rfl ?_
    refine WL.op rfl (OpK.callR rfl T.cf26 rfl (c_impl_ParseCost (by first | assumption | exact Rd.up (by assumption) hB | exact Osl.rd (by assumption) | exact Osn.rdR (by assumption)) (by first | assumption | exact Rd.up (by assumption) hB | exact Osl.rd (by assumption) | exact Osn.rdR (by assumption))) (fun w5 hXw5 => ?_))
    have hB := hB.trans hXw5
    have hb1 := hb1.up hXw5
    have ho3 := ho3.up hXw5
    have hU0 := hU0.ext hXw5
    refine WL.mv rfl rfl ?_
    refine WL.pure rfl rfl rfl (PV.extract rfl rfl) ?_
    refine WL.pure rfl rfl rfl (PV.extract rfl rfl) ?_
    refine WL.asg rfl rfl ?_
    refine WL.asg rfl rfl ?_
    refine WL.nilS ?_
    refine CW.seq ?_
    refine CW.seq ?_
    refine CW.reg ?_
    refine WL.mv rfl rfl ?_
    refine WL.pure rfl rfl rfl (PV.not rfl) ?_
    refine WL.nilS ?_
    refine CW.cond rfl (fun hc5 => ?_) (fun hc5 => ?_)
    · skip
      try simp only [nq] at hc5
      refine CW.seq ?_
      refine CW.reg ?_
      refine WL.asg rfl rfl ?_
      refine WL.asg rfl rfl ?_
      refine WL.nilS ?_
      refine CW.ret ?_
      refine RQ.then ?_
      refine RQ.block ?_
      refine RQ.then ?_
      refine RQ.then ?_
      refine RQ.block ?_
      refine RQ.then ?_
      refine RQ.r2 rfl rfl ?_
      refine ⟨hB, (.slice none 0 0), none, ?_, osE (Osl.nil _ _) ?_, Lo.nl _⟩
      · skip
        first | exact tE2 rfl (bE (by first | exact ps_n1 (by assumption) | exact ps_n2 (by omega) | exact ps_n3 (by omega) | exact ps_n4 (k := k) (by omega) (by assumption))) | exact tE2 rfl (bE (ps_y (by assumption) (by omega) (by omega) (fun j h => he j (by omega))))
      · skip
        first | (have hS9 : false = (psB a0 a1 xa2 wss wk) := (by first | exact ps_n1 (by assumption) | exact ps_n2 (by omega) | exact ps_n3 (by omega) | exact ps_n4 (k := k) (by omega) (by assumption)); rw [← hS9]; rfl) | (have hS9 : true = (psB a0 a1 xa2 wss wk) := (ps_y (by assumption) (by omega) (by omega) (fun j h => he j (by omega))); rw [onT_yes hS9.symm, List.take_of_length_le (by omega)])
    try simp only [nq] at hc5
    refine CW.skipS ?_
    refine CW.reg ?_
    refine WL.mv rfl rfl ?_
    refine WL.mv rfl rfl ?_
    refine WL.op rfl (OpK.buildS VI (os := [.tmp 42]) [_] rfl T.sl28 rfl rfl T.zv2 rfl (by intro z hz; first | rfl | (simp only [List.mem_cons, List.not_mem_nil, or_false] at hz; subst hz; exact (by first | exact Rd.cells1 (by assumption) | exact Osl.cells1 (by assumption) | exact Osn.cells1 (by assumption) | exact Rd.cells1 (NL.rd (by assumption)) | exact Inn.cell1 (by assumption) (by omega) | assumption | rfl))) rfl (fun v4 g4 w6 hXw6 ho4 hge4 => ?_))
    have hl4 := Lo.new hB hge4
    have hd1_4 := Dj.new hb1.ltO hge4
    have hd3_4 := Dj.new ho3.ltO hge4
    have hk0_4 := OkN.new hU0 hge4
    have hg0_4 := OgR.new hU0.size hge4
    have hB := hB.trans hXw6
    have hb1 := hb1.up hXw6
    have ho3 := ho3.up hXw6
    have hU0 := hU0.ext hXw6
    refine WL.op rfl (OpK.appendS (f := VI) rfl T.sl28 T.zv2 rfl rfl ho3 rfl (Osl.src ho4 (fun _ => rfl)) (by first | (simp only [List.length_cons, List.length_nil]; omega) | (simp_all; omega)) (fun v5 og5 w7 hXw7 ho5 hap5 => ?_))
    have hl5 := Lo.app hl3 hB hap5
    have hd1_5 := Dj.app hd1_3 hb1.ltO hap5
    have hd4_5 := Dj.app (Dj.symm hd3_4) ho4.ltO hap5
    have hk0_5 := OkN.app hU0 hk0_3 hap5
    have hg0_5 := OgR.app hg0_3 hU0.size hap5
    have hB := hB.updL hXw7 hl3
    have hb1 := hb1.updD hXw7 hd1_3
    have ho4 := ho4.updD hXw7 (Dj.symm hd3_4)
    have hU0 := hU0.step hXw7 hk0_3
    refine WL.asg rfl rfl ?_
    refine WL.nil ?_
    refine NQ.block ?_
    refine NQ.then ?_
    refine CW.reg ?_
    refine WL.pure rfl rfl rfl (PV.add rfl rfl (by constructor <;> omega)) ?_
    refine WL.mv rfl rfl ?_
    refine WL.nil ?_
    refine NQ.next (ρ := [(8, _), (29, _)]) ⟨rfl, rfl, rfl, rfl, rfl, trivial⟩ ?_
    exact ⟨_, ⟨v5, og5, k + 1, rfl, rfl, hU0, osE ho5 (by first | exact mapI_put (by omega) rfl | exact mapI_put (by omega) (onI_yes (by assumption))), (by first | exact hg0_5 | exact OgR.weak hg0_5), (by first | omega | assumption | (simp_all; done) | (simp_all; omega)), (by intro j h; rcases Nat.lt_succ_iff_lt_or_eq.1 h with h | rfl; exact he j h; assumption)⟩, by omega⟩
  try simp only [nq] at hc4
  refine CW.exit ?_
  refine XQ.then ?_
  refine XQ.then ?_
  refine XQ.here ?_
  refine NQ.then ?_
  refine CW.seq ?_
  refine CW.reg ?_
  refine WL.mv rfl rfl ?_
  refine WL.asg rfl rfl ?_
  refine WL.asg rfl rfl ?_
  refine WL.nilS ?_
  refine CW.ret ?_
  refine RQ.r2 rfl rfl ?_
  refine ⟨hB, v3, og3, ?_, osE ho3 ?_, hl3⟩
  · skip
    first | exact tE2 rfl (bE (by first | exact ps_n1 (by assumption) | exact ps_n2 (by omega) | exact ps_n3 (by omega) | exact ps_n4 (k := k) (by omega) (by assumption))) | exact tE2 rfl (bE (ps_y (by assumption) (by omega) (by omega) (fun j h => he j (by omega))))
  · skip
    first | (have hS9 : false = (psB a0 a1 xa2 wss wk) := (by first | exact ps_n1 (by assumption) | exact ps_n2 (by omega) | exact ps_n3 (by omega) | exact ps_n4 (k := k) (by omega) (by assumption)); rw [← hS9]; rfl) | (have hS9 : true = (psB a0 a1 xa2 wss wk) := (ps_y (by assumption) (by omega) (by omega) (fun j h => he j (by omega))); rw [onT_yes hS9.symm, List.take_of_length_le (by omega)])

end Go.Proofs.Ythemmoceomdccaa
