/- Walks of the functions that the law FnTrees reaches: each says what its function computes. No condition. -/
import Derived.Test.YthemmoceomdccaaProg
import Derived.Test.YthemmoceomdccaaLibM
import Derived.Test.YthemmoceomdccaaPlA
import Derived.Test.YthemmoceomdccaaPlM
import Derived.Test.YthemmoceomdccaaLibN
import Derived.Test.YthemmoceomdccaaLibO
import Derived.Test.YthemmoceomdccaaLibG2
import Derived.Test.YthemmoceomdccaaPlG
import Derived.Test.YthemmoceomdccaaLibRf
import Derived.Test.YthemmoceomdccaaPlTr
import Derived.Test.YthemmoceomdccaaPlTs
import Derived.Test.YthemmoceomdccaaLibRs
import Derived.Test.YthemmoceomdccaaLibR
import Derived.Test.YthemmoceomdccaaPlX
import Derived.Test.YthemmoceomdccaaPlCt
import Derived.Test.YthemmoceomdccaaPlFt
import Derived.Test.YthemmoceomdccaaLibKp
import Derived.Test.YthemmoceomdccaaLibKa
import Derived.Test.YthemmoceomdccaaPlCl
import Derived.Test.YthemmoceomdccaaPlR
import Derived.Test.YthemmoceomdccaaPlDq
import Derived.Test.YthemmoceomdccaaPlFu
import Derived.Test.YthemmoceomdccaaPlFv
import Derived.Test.YthemmoceomdccaaPlId
import Derived.Test.YthemmoceomdccaaPlCn
import Derived.Test.YthemmoceomdccaaPlFy
import Derived.Test.YthemmoceomdccaaPlR8
import Derived.Test.YthemmoceomdccaaWFnTreesb
namespace Go.Proofs.Ythemmoceomdccaa
open Go Go.WX Go.Proofs
set_option linter.unusedSimpArgs false
set_option linter.unusedVariables false

theorem c_impl_OtherTrees {w : World} {a0 : Int} {a1 : Int} {va2 : Value} {xa2 : List Int} {va3 : Value} {xa3 : List Int} {va4 : Value} {xa4 : List Bool}  (ha2 : Rd EI w va2 xa2) (ha3 : Rd EI w va3 xa3) (ha4 : Rd EB w va4 xa4) : Calls Try.prog 53 #[.agg #[.int .i64 a0, .int .i64 a1, va2, va3, va4]] w (Ret1 (fun v w' => Ext w w' ∧ ∃ u2 og_u2 u3 og_u3 u4 og_u4, v = .tuple #[.agg #[.int .i64 (onI (treesB a0 a1 xa2 xa3 xa4) a0), .int .i64 (onI (treesB a0 a1 xa2 xa3 xa4) a1), u2, u3, u4], .bool (treesB a0 a1 xa2 xa3 xa4)] ∧ Osl VI w' og_u2 u2 (onT (treesB a0 a1 xa2 xa3 xa4) xa2) ∧ Lo w og_u2 ∧ Osl VI w' og_u3 u3 (onT (treesB a0 a1 xa2 xa3 xa4) xa3) ∧ Lo w og_u3 ∧ Osl VB w' og_u4 u4 (onT (treesB a0 a1 xa2 xa3 xa4) (xa4.map not)) ∧ Lo w og_u4 ∧ Dj og_u2 og_u3 ∧ Dj og_u2 og_u4 ∧ Dj og_u3 og_u4)) := by
  have hB : Ext w w := Ext.refl w
  have hla2 := ha2.leI; have hla3 := ha3.leI; have hla4 := ha4.leI
  refine callsOf (vs := [_]) Try.func53 rfl Try.ntmps53 rfl rfl ?_
  refine CW.seq ?_
  refine CW.reg ?_
  refine WL.op rfl (OpK.box rfl rfl (by first | exact Rd.cells1 (by assumption) | exact Osl.cells1 (by assumption) | exact Osn.cells1 (by assumption) | exact Rd.cells1 (NL.rd (by assumption)) | exact Inn.cell1 (by assumption) (by omega) | assumption | rfl) (fun b1 w1 hXw1 hb1 hge1 => ?_))
  have hl1 := Lo.new hB hge1
  have hB := hB.trans hXw1
  refine WL.op rfl (OpK.alloc rfl T.zv72 rfl (fun b2 w2 hXw2 hb2 hge2 => ?_))
  have hl2 := Lo.new hB hge2
  have hd1_2 := Dj.new hb1.ltO hge2
  have hB := hB.trans hXw2
  have hb1 := hb1.up hXw2
  refine WL.asg rfl rfl ?_
  refine WL.nilS ?_
  refine CW.seq ?_
  refine CW.seq ?_
  refine CW.reg ?_
  refine WL.pure rfl rfl rfl (PV.loadA T.ag72 rfl hb1.cells (Ext.refl _) rfl) ?_
  refine WL.op rfl (OpK.callR rfl T.cf56 rfl (c_impl_ValidTrees (by first | assumption | exact Rd.up (by assumption) hB | exact Osl.rd (by assumption) | exact Osn.rdR (by assumption) | exact NL.rd (by assumption) | exact rdII (by assumption) (by assumption) | exact Inn.rd (by assumption) (by omega)) (by first | assumption | exact Rd.up (by assumption) hB | exact Osl.rd (by assumption) | exact Osn.rdR (by assumption) | exact NL.rd (by assumption) | exact rdII (by assumption) (by assumption) | exact Inn.rd (by assumption) (by omega)) (by first | assumption | exact Rd.up (by assumption) hB | exact Osl.rd (by assumption) | exact Osn.rdR (by assumption) | exact NL.rd (by assumption) | exact rdII (by assumption) (by assumption) | exact Inn.rd (by assumption) (by omega))) (fun w3 hXw3 => ?_))
  have hB := hB.trans hXw3
  have hb1 := hb1.up hXw3
  have hb2 := hb2.up hXw3
  refine WL.pure rfl rfl rfl (PV.not rfl) ?_
  refine WL.nilS ?_
  refine CW.cond rfl (fun hc1 => ?_) (fun hc1 => ?_)
  · skip
    try simp only [nq] at hc1
    refine CW.seq ?_
    refine CW.reg ?_
    refine WL.pure rfl rfl rfl (PV.build (ks := []) (os := []) (css := []) (ds := [_, _, _, _, _]) T.bu72 rfl rfl trivial rfl) ?_
    refine WL.op rfl (OpK.storeA T.sz72 rfl rfl rfl rfl (by simp [Value.oneCell'] <;> first | done | (repeat' apply And.intro) <;> first | rfl | exact Inn.one1 (by assumption) (by omega) | exact Osl.oneCell (by assumption) | exact Osn.oneCell (by assumption) | exact Rd.oneCell (by assumption) | exact Rd.oneCell (NL.rd (by assumption)) | assumption) hb2 (fun w4 hXw4 hb2 => ?_))
    have hB := hB.updL hXw4 hl2
    have hb1 := hb1.updD hXw4 hd1_2
    refine WL.asg rfl rfl ?_
    refine WL.nilS ?_
    refine CW.ret ?_
    refine RQ.then ?_
    refine RQ.rc1 T.ag72 rfl (by first | exact Cells.up (by assumption) hB | exact Bx.cells (by assumption) | assumption) rfl rfl ?_
    refine ⟨hB, (.slice none 0 0), none, (.slice none 0 0), none, (.slice none 0 0), none, ?_, osE (Osl.nil _ _) ?_, Lo.nl _, osE (Osl.nil _ _) ?_, Lo.nl _, osE (Osl.nil _ _) ?_, Lo.nl _, (Dj.nl _), (Dj.nl _), (Dj.nl _)⟩
    · skip
      first | (exact tE2 (by rw [onI_yes (treesB_yes (by assumption)), onI_yes (treesB_yes (by assumption))]) (bE (treesB_yes (by assumption)).symm)) | (exact tE2 (by rw [onI_no (treesB_no (by assumption)), onI_no (treesB_no (by assumption))]) (bE (Bool.eq_false_iff.2 (treesB_no (by assumption))).symm))
    · skip
      first | (rw [onT_no (treesB_no (by assumption))]; done) | (rw [onT_yes (treesB_yes (by assumption))]; done) | (rw [onT_yes (treesB_yes (by assumption))]; first | (simp; done) | exact notL_all (by omega))
    · skip
      first | (rw [onT_no (treesB_no (by assumption))]; done) | (rw [onT_yes (treesB_yes (by assumption))]; done) | (rw [onT_yes (treesB_yes (by assumption))]; first | (simp; done) | exact notL_all (by omega))
    · skip
      first | (rw [onT_no (treesB_no (by assumption))]; done) | (rw [onT_yes (treesB_yes (by assumption))]; done) | (rw [onT_yes (treesB_yes (by assumption))]; first | (simp; done) | exact notL_all (by omega))
  try simp only [nq] at hc1
  have hs16 := sq16 (s := a0) (by omega)
  refine CW.skipS ?_
  refine CW.seq ?_
  refine CW.draw T.mixed (by kernel_rfl) (fun _ _ _ _ _ h => h) (fun w8 w9 => Upd none w8 w9) 13 (.take 0 (.take 1 (.take 2 (.take 3 (.take 4 (.take 5 (.take 7 (.take 8 (.fork 6 11 (.fork 9 11 (.take 10 (.must 11 (.must 12 .done))) (.must 9 (.take 10 (.must 12 .done)))) (.must 6 (.must 9 (.take 10 (.must 12 .done))))))))))))) (by kernel_rfl) (fun w5 hXd => ?_)
  have hB := hB.trans hXd
  have hb1 := hb1.up hXd
  have hb2 := hb2.up hXd
  have hBr := hB
  have hS : Upd none w5 w5 := Ext.toUpd (Ext.refl _)
  refine HP.take rfl rfl rfl rfl hS (fun wS hS1 => PV.fieldAddr T.fl72_0 rfl hb1.cells) ?_
  refine HP.take rfl rfl rfl rfl hS (fun wS hS1 => PV.load1 T.na2 rfl (Bx.cells (Bx.updD (by assumption) hS1 (Dj.nlR _))) (Ext.refl _) rfl) ?_
  refine HP.take rfl rfl rfl rfl hS (fun wS hS1 => PV.fieldAddr T.fl72_1 rfl hb1.cells) ?_
  refine HP.take rfl rfl rfl rfl hS (fun wS hS1 => PV.load1 T.na2 rfl (Bx.cells (Bx.updD (by assumption) hS1 (Dj.nlR _))) (Ext.refl _) rfl) ?_
  refine HP.take rfl rfl rfl rfl hS (fun wS hS1 => PV.fieldAddr T.fl72_2 rfl hb1.cells) ?_
  refine HP.take rfl rfl rfl rfl hS (fun wS hS1 => PV.load1 T.na28 rfl (Bx.cells (Bx.updD (by assumption) hS1 (Dj.nlR _))) (Ext.refl _) rfl) ?_
  refine HP.take rfl rfl rfl rfl hS (fun wS hS1 => PV.fieldAddr T.fl72_3 rfl hb1.cells) ?_
  refine HP.take rfl rfl rfl rfl hS (fun wS hS1 => PV.load1 T.na28 rfl (Bx.cells (Bx.updD (by assumption) hS1 (Dj.nlR _))) (Ext.refl _) rfl) ?_
  refine HP.fork rfl rfl rfl rfl ?_ ?_
  · skip
    refine (OpK.call rfl T.cf141 rfl (c_slices_Clone_int64_int64 (by first | assumption | exact Rd.up (by assumption) hB | exact Osl.rd (by assumption) | exact Osn.rdR (by assumption) | exact NL.rd (by assumption) | exact rdII (by assumption) (by assumption) | exact Inn.rd (by assumption) (by omega)) (by first | assumption | omega | (simp only [marks_len, marksB_len, marksR_len]; omega))) (fun rv1 w6 hR => ?_))
    obtain ⟨hXw6, v3, og3, rfl, ho3, hq3⟩ := hR
    have hl3 := Lo.up hq3 hB
    have hv3 := Lo.up hq3 hS
    have hd1_3 := Dj.lo hb1.ltO hq3
    have hd2_3 := Dj.lo hb2.ltO hq3
    refine ⟨Upd.trans hS hXw6, ?_⟩
    have hS := Upd.trans hS hXw6
    have hB := hB.trans hXw6
    have hb1 := hb1.up hXw6
    have hb2 := hb2.up hXw6
    refine HP.fork rfl rfl rfl rfl ?_ ?_
    · skip
      refine (OpK.call rfl T.cf141 rfl (c_slices_Clone_int64_int64 (by first | assumption | exact Rd.up (by assumption) hB | exact Osl.rd (by assumption) | exact Osn.rdR (by assumption) | exact NL.rd (by assumption) | exact rdII (by assumption) (by assumption) | exact Inn.rd (by assumption) (by omega)) (by first | assumption | omega | (simp only [marks_len, marksB_len, marksR_len]; omega))) (fun rv2 w7 hR => ?_))
      obtain ⟨hXw7, v4, og4, rfl, ho4, hq4⟩ := hR
      have hl4 := Lo.up hq4 hB
      have hv4 := Lo.up hq4 hS
      have hd1_4 := Dj.lo hb1.ltO hq4
      have hd2_4 := Dj.lo hb2.ltO hq4
      have hd3_4 := Dj.lo ho3.ltO hq4
      refine ⟨Upd.trans hS hXw7, ?_⟩
      have hS := Upd.trans hS hXw7
      have hB := hB.trans hXw7
      have hb1 := hb1.up hXw7
      have hb2 := hb2.up hXw7
      have ho3 := ho3.up hXw7
      refine HP.take rfl rfl rfl rfl hS (fun wS hS1 => PV.build (ks := [0, 1, 2, 3]) (os := [.tmp 12, .tmp 14, .tmp 17, .tmp 20]) (css := [[_], [_], [_], [_]]) (ds := [_, _, _, _, _]) T.bu72 rfl rfl ⟨rfl, rfl, (by first | exact Rd.cells1 (by assumption) | exact Osl.cells1 (by assumption) | exact Osn.cells1 (by assumption) | exact Rd.cells1 (NL.rd (by assumption)) | exact Inn.cell1 (by assumption) (by omega) | assumption | rfl), (by first | exact Rd.cells1 (by assumption) | exact Osl.cells1 (by assumption) | exact Osn.cells1 (by assumption) | exact Rd.cells1 (NL.rd (by assumption)) | exact Inn.cell1 (by assumption) (by omega) | assumption | rfl), trivial⟩ rfl) ?_
      refine HP.must rfl rfl (OpK.alloc rfl T.zv72 rfl (fun b5 w8 hXw8 hb5 hge5 => ?_))
      have hl5 := Lo.new hB hge5
      have hv5 := Lo.new hS hge5
      have hd1_5 := Dj.new hb1.ltO hge5
      have hd2_5 := Dj.new hb2.ltO hge5
      have hd3_5 := Dj.new ho3.ltO hge5
      have hd4_5 := Dj.new ho4.ltO hge5
      refine ⟨Upd.trans hS hXw8, ?_⟩
      have hS := Upd.trans hS hXw8
      have hB := hB.trans hXw8
      have hb1 := hb1.up hXw8
      have hb2 := hb2.up hXw8
      have ho3 := ho3.up hXw8
      have ho4 := ho4.up hXw8
      refine HP.must rfl rfl (OpK.storeA T.sz72 rfl rfl rfl rfl (by simp [Value.oneCell'] <;> first | done | (repeat' apply And.intro) <;> first | rfl | exact Inn.one1 (by assumption) (by omega) | exact Osl.oneCell (by assumption) | exact Osn.oneCell (by assumption) | exact Rd.oneCell (by assumption) | exact Rd.oneCell (NL.rd (by assumption)) | assumption) hb5 (fun w9 hXw9 hb5 => ?_))
      refine ⟨Ext.updL hS hXw9 hv5, ?_⟩
      have hS := Ext.updL hS hXw9 hv5
      have hB := hB.updL hXw9 hl5
      have hb1 := hb1.updD hXw9 hd1_5
      have hb2 := hb2.updD hXw9 hd2_5
      have ho3 := ho3.updD hXw9 hd3_5
      have ho4 := ho4.updD hXw9 hd4_5
      refine HP.doneS ?_
      refine CW.seq ?_
      refine CW.seq ?_
      refine CW.reg ?_
      refine WL.pure rfl rfl rfl (PV.fieldAddr T.fl72_4 rfl hb1.cells) ?_
      refine WL.pure rfl rfl rfl (PV.load1 T.na62 rfl hb1.cells (Ext.refl _) rfl) ?_
      refine WL.pure rfl rfl rfl ((by first | exact PV.len rfl (by assumption) T.sl62 | exact PV.lenOs rfl (by assumption) T.sl62 | exact PV.len rfl (NL.rd (by assumption)) T.sl62 | exact PV.len rfl (Inn.rd (by assumption) (by omega)) T.sl62)) ?_
      refine WL.mv rfl rfl ?_
      refine WL.nilS ?_
      refine CW.block ?_
      have ho6 : Osl VB w9 none (.slice none 0 0) [] := (Osl.nil _ _)
      have hl6 : Lo w none := Lo.nl _
      have hd1_6 : Dj (some b1.block) none := Dj.nlR _
      have hd2_6 : Dj (some b2.block) none := Dj.nlR _
      have hd3_6 : Dj og3 none := Dj.nlR _
      have hd4_6 : Dj og4 none := Dj.nlR _
      have hd5_6 : Dj (some b5.block) none := Dj.nlR _
      have hlt1 := hb1.ltO
      have hlt2 := hb2.ltO
      have hlt3 := ho3.ltO
      have hlt4 := ho4.ltO
      have hlt5 := hb5.ltO
      have hlt6 := ho6.ltO
      refine CW.loop (σk := [(2, _), (4, _), (23, _), (24, _)]) (fun ρ wz m => ∃ (v7 : Value) (og7 : Option Nat) (v8 : Value) (og8 : Option Nat) (v9 : Value) (og9 : Option Nat) (k : Nat), ρ = [(25, .int .i64 (k : Nat))] ∧ m = xa4.length - k ∧ UpdL [og3, og4, none, (some b5.block)] w9 wz ∧ Osl VI wz og7 v7 (xa2) ∧ OgR w9 og3 og7 ∧ Osl VI wz og8 v8 (xa3) ∧ OgR w9 og4 og8 ∧ Osl VB wz og9 v9 ((xa4.take k).map not) ∧ OgR w9 none og9 ∧ Bx wz b5 [.int .i64 a0, .int .i64 a1, v7, v8, v9] ∧ Dj og7 og8 ∧ Dj og7 og9 ∧ Dj og8 og9 ∧ (k ≤ xa4.length)) (ρ₀ := [(25, _)]) (m₀ := _) ⟨rfl, rfl, rfl, rfl, rfl, trivial⟩ ⟨rv1, og3, rv2, og4, (.slice none 0 0), none, 0, rfl, rfl, (UpdL.refl _ _), osE ho3 (by first | rfl | (simp_all; done) | (simp_all; omega)), OgR.refl _ _, osE ho4 (by first | rfl | (simp_all; done) | (simp_all; omega)), OgR.refl _ _, osE ho6 (by simp), OgR.refl _ _, bxE hb5 (by first | rfl | (simp_all; done) | (simp_all; omega)), hd3_4, hd3_6, hd4_6, (by first | omega | rfl | (simp; done) | assumption | (simp_all; done))⟩ ?_
      rintro _ wl1 _ ⟨v7, og7, v8, og8, v9, og9, k, rfl, rfl, hU0, ho7, ha7, ho8, ha8, ho9, ha9, hb5, hd7_8, hd7_9, hd8_9, hk⟩
      have hb1 := hb1.loop hU0 ⟨hd1_3, hd1_4, hd1_6, hd1_5, trivial⟩
      have hb2 := hb2.loop hU0 ⟨hd2_3, hd2_4, hd2_6, hd2_5, trivial⟩
      have hl7 := Lo.ogr hl3 hB ha7
      have hg0_7 := ha7
      have hk0_7 : OkB [og3, og4, none, (some b5.block)] w9 og7 := OkB.ogr (OkB.mem (by simp)) (Nat.le_refl _) ha7
      have hd1_7 := Dj.ogr hd1_3 hlt1 ha7
      have hd2_7 := Dj.ogr hd2_3 hlt2 ha7
      have hd5_7 := Dj.ogr (Dj.symm hd3_5) hlt5 ha7
      have hl8 := Lo.ogr hl4 hB ha8
      have hg0_8 := ha8
      have hk0_8 : OkB [og3, og4, none, (some b5.block)] w9 og8 := OkB.ogr (OkB.mem (by simp)) (Nat.le_refl _) ha8
      have hd1_8 := Dj.ogr hd1_4 hlt1 ha8
      have hd2_8 := Dj.ogr hd2_4 hlt2 ha8
      have hd5_8 := Dj.ogr (Dj.symm hd4_5) hlt5 ha8
      have hl9 := Lo.ogr hl6 hB ha9
      have hg0_9 := ha9
      have hk0_9 : OkB [og3, og4, none, (some b5.block)] w9 og9 := OkB.ogr (OkB.mem (by simp)) (Nat.le_refl _) ha9
      have hd1_9 := Dj.ogr hd1_6 hlt1 ha9
      have hd2_9 := Dj.ogr hd2_6 hlt2 ha9
      have hd5_9 := Dj.ogr hd5_6 hlt5 ha9
      have hk0_5 : OkB [og3, og4, none, (some b5.block)] w9 (some b5.block) := OkB.mem (by simp)
      have hB := hB.loop hU0 ⟨hl3, hl4, hl6, hl5, trivial⟩
      refine CW.seq ?_
      refine CW.reg ?_
      refine WL.pure rfl rfl rfl (PV.lss rfl rfl) ?_
      refine WL.nilS ?_
      refine CW.seq ?_
      refine CW.cond rfl (fun hc2 => ?_) (fun hc2 => ?_)
      · skip
        try simp only [nq] at hc2
        refine CW.skipS ?_
        refine CW.seq ?_
        refine CW.block ?_
        refine CW.seq ?_
        refine CW.reg ?_
        first
          | refine WL.at (x := .tmp 23) (y := .tmp 25) (E := EB) (false) rfl rfl (by first | assumption | exact Inn.rd (by assumption) (by omega)) (by first | omega | (simp only [List.length_set]; omega) | (simp only [List.length_append, List.length_take, List.length_replicate, List.length_drop]; omega)) (fun p1 csp1 hpp1 hcp1 hq => ?_)
          | refine WL.atZ (x := .tmp 23) (y := .tmp 25) (E := EB) (false) rfl rfl (by first | assumption | exact Inn.rd (by assumption) (by omega)) (by first | omega | (simp only [List.length_set]; omega) | (simp only [List.length_append, List.length_take, List.length_replicate, List.length_drop]; omega)) (fun p1 csp1 hpp1 hzp1 hcp1 hq => ?_)
        cases hq
        refine WL.pure rfl rfl rfl ((by first | exact PV.indexAddr hpp1 rfl rfl T.sl62 | exact PV.indexAddr hpp1 rfl (by rw [← hzp1]; rfl) T.sl62)) ?_
        refine WL.pure rfl rfl rfl ((by first | exact PV.load0 T.na4 rfl (by first | exact Cells.up (by assumption) hB | exact Bx.cells (by assumption) | assumption) (Ext.refl _) rfl | exact PV.load1 T.na4 rfl (by first | exact Cells.up (by assumption) hB | exact Bx.cells (by assumption) | assumption) (Ext.refl _) rfl)) ?_
        refine WL.asg rfl rfl ?_
        refine WL.nilS ?_
        refine CW.reg ?_
        refine WL.pure rfl rfl rfl (PV.fieldAddr T.fl72_4 rfl hb5.cells) ?_
        refine WL.pure rfl rfl rfl (PV.load1 T.na62 rfl hb5.cells (Ext.refl _) rfl) ?_
        refine WL.mv rfl rfl ?_
        refine WL.pure rfl rfl rfl (PV.not rfl) ?_
        refine WL.op rfl (OpK.buildS VB (os := [.tmp 32]) [_] rfl T.sl62 rfl rfl T.zv4 rfl (by intro z hz; first | rfl | (simp only [List.mem_cons, List.not_mem_nil, or_false] at hz; subst hz; exact (by first | exact Rd.cells1 (by assumption) | exact Osl.cells1 (by assumption) | exact Osn.cells1 (by assumption) | exact Rd.cells1 (NL.rd (by assumption)) | exact Inn.cell1 (by assumption) (by omega) | assumption | rfl))) rfl (fun v11 g11 w10 hXw10 ho11 hge11 => ?_))
        have hl11 := Lo.new hB hge11
        have hd1_11 := Dj.new hb1.ltO hge11
        have hd2_11 := Dj.new hb2.ltO hge11
        have hd5_11 := Dj.new hb5.ltO hge11
        have hd7_11 := Dj.new ho7.ltO hge11
        have hd8_11 := Dj.new ho8.ltO hge11
        have hd9_11 := Dj.new ho9.ltO hge11
        have hk0_11 := OkN.new hU0 hge11
        have hg0_11 := OgR.new hU0.size hge11
        have hB := hB.trans hXw10
        have hb1 := hb1.up hXw10
        have hb2 := hb2.up hXw10
        have hb5 := hb5.up hXw10
        have ho7 := ho7.up hXw10
        have ho8 := ho8.up hXw10
        have ho9 := ho9.up hXw10
        have hU0 := hU0.ext hXw10
        refine WL.op rfl (OpK.appendS (f := VB) rfl T.sl62 T.zv4 rfl rfl ho9 rfl (Osl.src ho11 (fun _ => rfl)) (by first | (simp only [List.length_cons, List.length_nil]; omega) | (simp_all; omega)) (fun v12 og12 w11 hXw11 ho12 hap12 => ?_))
        have hl12 := Lo.app hl9 hB hap12
        have hd1_12 := Dj.app hd1_9 hb1.ltO hap12
        have hd2_12 := Dj.app hd2_9 hb2.ltO hap12
        have hd5_12 := Dj.app hd5_9 hb5.ltO hap12
        have hd7_12 := Dj.app hd7_9 ho7.ltO hap12
        have hd8_12 := Dj.app hd8_9 ho8.ltO hap12
        have hd11_12 := Dj.app (Dj.symm hd9_11) ho11.ltO hap12
        have hk0_12 := OkN.app hU0 hk0_9 hap12
        have hg0_12 := OgR.app hg0_9 hU0.size hap12
        have hB := hB.updL hXw11 hl9
        have hb1 := hb1.updD hXw11 hd1_9
        have hb2 := hb2.updD hXw11 hd2_9
        have hb5 := hb5.updD hXw11 hd5_9
        have ho7 := ho7.updD hXw11 hd7_9
        have ho8 := ho8.updD hXw11 hd8_9
        have ho11 := ho11.updD hXw11 (Dj.symm hd9_11)
        have hU0 := hU0.step hXw11 hk0_9
        refine WL.pure rfl rfl rfl (PV.fieldAddr T.fl72_4 rfl hb5.cells) ?_
        refine WL.op rfl (OpK.storeB T.sz62 rfl rfl (by first | rfl | exact Inn.one1 (by assumption) (by omega) | exact Osl.oneCell (by assumption) | exact Osn.oneCell (by assumption) | exact Rd.oneCell (by assumption) | exact Rd.oneCell (NL.rd (by assumption)) | assumption) hb5 rfl (fun w12 hXw12 hb5 => ?_))
        have hB := hB.updL hXw12 hl5
        have hb1 := hb1.updD hXw12 hd1_5
        have hb2 := hb2.updD hXw12 hd2_5
        have ho7 := ho7.updD hXw12 (Dj.symm hd5_7)
        have ho8 := ho8.updD hXw12 (Dj.symm hd5_8)
        have ho11 := ho11.updD hXw12 (Dj.symm hd5_11)
        have ho12 := ho12.updD hXw12 (Dj.symm hd5_12)
        have hU0 := hU0.step hXw12 hk0_5
        refine WL.nil ?_
        refine NQ.block ?_
        refine NQ.then ?_
        refine CW.reg ?_
        refine WL.pure rfl rfl rfl (PV.add rfl rfl (by constructor <;> omega)) ?_
        refine WL.mv rfl rfl ?_
        refine WL.nil ?_
        refine NQ.next (ρ := [(25, _)]) ⟨rfl, rfl, rfl, rfl, rfl, trivial⟩ ?_
        exact ⟨_, ⟨v7, og7, v8, og8, v12, og12, k + 1, rfl, rfl, hU0, osE ho7 (by first | rfl | (simp_all; done) | (simp_all; omega)), (by first | exact hg0_7 | exact OgR.weak hg0_7), osE ho8 (by first | rfl | (simp_all; done) | (simp_all; omega)), (by first | exact hg0_8 | exact OgR.weak hg0_8), osE ho12 (by exact notL_put (by omega)), (by first | exact hg0_12 | exact OgR.weak hg0_12), bxE hb5 (by first | rfl | (simp_all; done) | (simp_all; omega)), hd7_8, hd7_12, hd8_12, (by first | omega | assumption | (simp_all; done) | (simp_all; omega))⟩, by omega⟩
      try simp only [nq] at hc2
      refine CW.exit ?_
      refine XQ.then ?_
      refine XQ.then ?_
      refine XQ.here ?_
      refine NQ.then ?_
      refine CW.seq ?_
      refine CW.reg ?_
      refine WL.pure rfl rfl rfl (PV.loadA T.ag72 rfl hb5.cells (Ext.refl _) rfl) ?_
      refine WL.op rfl (OpK.storeA T.sz72 rfl rfl rfl rfl (by simp [Value.oneCell'] <;> first | done | (repeat' apply And.intro) <;> first | rfl | exact Inn.one1 (by assumption) (by omega) | exact Osl.oneCell (by assumption) | exact Osn.oneCell (by assumption) | exact Rd.oneCell (by assumption) | exact Rd.oneCell (NL.rd (by assumption)) | assumption) hb2 (fun w13 hXw13 hb2 => ?_))
      have hB := hB.updL hXw13 hl2
      have hb1 := hb1.updD hXw13 hd1_2
      have hb5 := hb5.updD hXw13 (Dj.symm hd2_5)
      have ho7 := ho7.updD hXw13 (Dj.symm hd2_7)
      have ho8 := ho8.updD hXw13 (Dj.symm hd2_8)
      have ho9 := ho9.updD hXw13 (Dj.symm hd2_9)
      refine WL.asg rfl rfl ?_
      refine WL.nilS ?_
      refine CW.ret ?_
      refine RQ.rc1 T.ag72 rfl (by first | exact Cells.up (by assumption) hB | exact Bx.cells (by assumption) | assumption) rfl rfl ?_
      refine ⟨hB, v7, og7, v8, og8, v9, og9, ?_, osE ho7 ?_, hl7, osE ho8 ?_, hl8, osE ho9 ?_, hl9, hd7_8, hd7_9, hd8_9⟩
      · skip
        first | (exact tE2 (by rw [onI_yes (treesB_yes (by assumption)), onI_yes (treesB_yes (by assumption))]) (bE (treesB_yes (by assumption)).symm)) | (exact tE2 (by rw [onI_no (treesB_no (by assumption)), onI_no (treesB_no (by assumption))]) (bE (Bool.eq_false_iff.2 (treesB_no (by assumption))).symm))
      · skip
        first | (rw [onT_no (treesB_no (by assumption))]; done) | (rw [onT_yes (treesB_yes (by assumption))]; done) | (rw [onT_yes (treesB_yes (by assumption))]; first | (simp; done) | exact notL_all (by omega))
      · skip
        first | (rw [onT_no (treesB_no (by assumption))]; done) | (rw [onT_yes (treesB_yes (by assumption))]; done) | (rw [onT_yes (treesB_yes (by assumption))]; first | (simp; done) | exact notL_all (by omega))
      · skip
        first | (rw [onT_no (treesB_no (by assumption))]; done) | (rw [onT_yes (treesB_yes (by assumption))]; done) | (rw [onT_yes (treesB_yes (by assumption))]; first | (simp; done) | exact notL_all (by omega))
    · skip
      refine (OpK.alloc rfl T.zv72 rfl (fun b13 w14 hXw14 hb13 hge13 => ?_))
      have hl13 := Lo.new hB hge13
      have hv13 := Lo.new hS hge13
      have hd1_13 := Dj.new hb1.ltO hge13
      have hd2_13 := Dj.new hb2.ltO hge13
      have hd3_13 := Dj.new ho3.ltO hge13
      refine ⟨Upd.trans hS hXw14, ?_⟩
      have hS := Upd.trans hS hXw14
      have hB := hB.trans hXw14
      have hb1 := hb1.up hXw14
      have hb2 := hb2.up hXw14
      have ho3 := ho3.up hXw14
      refine HP.must rfl rfl (OpK.call rfl T.cf141 rfl (c_slices_Clone_int64_int64 (by first | assumption | exact Rd.up (by assumption) hB | exact Osl.rd (by assumption) | exact Osn.rdR (by assumption) | exact NL.rd (by assumption) | exact rdII (by assumption) (by assumption) | exact Inn.rd (by assumption) (by omega)) (by first | assumption | omega | (simp only [marks_len, marksB_len, marksR_len]; omega))) (fun rv3 w15 hR => ?_))
      obtain ⟨hXw15, v14, og14, rfl, ho14, hq14⟩ := hR
      have hl14 := Lo.up hq14 hB
      have hv14 := Lo.up hq14 hS
      have hd1_14 := Dj.lo hb1.ltO hq14
      have hd2_14 := Dj.lo hb2.ltO hq14
      have hd3_14 := Dj.lo ho3.ltO hq14
      have hd13_14 := Dj.lo hb13.ltO hq14
      refine ⟨Upd.trans hS hXw15, ?_⟩
      have hS := Upd.trans hS hXw15
      have hB := hB.trans hXw15
      have hb1 := hb1.up hXw15
      have hb2 := hb2.up hXw15
      have ho3 := ho3.up hXw15
      have hb13 := hb13.up hXw15
      refine HP.take rfl rfl rfl rfl hS (fun wS hS1 => PV.build (ks := [0, 1, 2, 3]) (os := [.tmp 12, .tmp 14, .tmp 17, .tmp 20]) (css := [[_], [_], [_], [_]]) (ds := [_, _, _, _, _]) T.bu72 rfl rfl ⟨rfl, rfl, (by first | exact Rd.cells1 (by assumption) | exact Osl.cells1 (by assumption) | exact Osn.cells1 (by assumption) | exact Rd.cells1 (NL.rd (by assumption)) | exact Inn.cell1 (by assumption) (by omega) | assumption | rfl), (by first | exact Rd.cells1 (by assumption) | exact Osl.cells1 (by assumption) | exact Osn.cells1 (by assumption) | exact Rd.cells1 (NL.rd (by assumption)) | exact Inn.cell1 (by assumption) (by omega) | assumption | rfl), trivial⟩ rfl) ?_
      refine HP.must rfl rfl (OpK.storeA T.sz72 rfl rfl rfl rfl (by simp [Value.oneCell'] <;> first | done | (repeat' apply And.intro) <;> first | rfl | exact Inn.one1 (by assumption) (by omega) | exact Osl.oneCell (by assumption) | exact Osn.oneCell (by assumption) | exact Rd.oneCell (by assumption) | exact Rd.oneCell (NL.rd (by assumption)) | assumption) hb13 (fun w16 hXw16 hb13 => ?_))
      refine ⟨Ext.updL hS hXw16 hv13, ?_⟩
      have hS := Ext.updL hS hXw16 hv13
      have hB := hB.updL hXw16 hl13
      have hb1 := hb1.updD hXw16 hd1_13
      have hb2 := hb2.updD hXw16 hd2_13
      have ho3 := ho3.updD hXw16 hd3_13
      have ho14 := ho14.updD hXw16 (Dj.symm hd13_14)
      refine HP.doneS ?_
      refine CW.seq ?_
      refine CW.seq ?_
      refine CW.reg ?_
      refine WL.pure rfl rfl rfl (PV.fieldAddr T.fl72_4 rfl hb1.cells) ?_
      refine WL.pure rfl rfl rfl (PV.load1 T.na62 rfl hb1.cells (Ext.refl _) rfl) ?_
      refine WL.pure rfl rfl rfl ((by first | exact PV.len rfl (by assumption) T.sl62 | exact PV.lenOs rfl (by assumption) T.sl62 | exact PV.len rfl (NL.rd (by assumption)) T.sl62 | exact PV.len rfl (Inn.rd (by assumption) (by omega)) T.sl62)) ?_
      refine WL.mv rfl rfl ?_
      refine WL.nilS ?_
      refine CW.block ?_
      have ho15 : Osl VB w16 none (.slice none 0 0) [] := (Osl.nil _ _)
      have hl15 : Lo w none := Lo.nl _
      have hd1_15 : Dj (some b1.block) none := Dj.nlR _
      have hd2_15 : Dj (some b2.block) none := Dj.nlR _
      have hd3_15 : Dj og3 none := Dj.nlR _
      have hd13_15 : Dj (some b13.block) none := Dj.nlR _
      have hd14_15 : Dj og14 none := Dj.nlR _
      have hlt1 := hb1.ltO
      have hlt2 := hb2.ltO
      have hlt3 := ho3.ltO
      have hlt13 := hb13.ltO
      have hlt14 := ho14.ltO
      have hlt15 := ho15.ltO
      refine CW.loop (σk := [(2, _), (4, _), (23, _), (24, _)]) (fun ρ wz m => ∃ (v16 : Value) (og16 : Option Nat) (v17 : Value) (og17 : Option Nat) (v18 : Value) (og18 : Option Nat) (k : Nat), ρ = [(25, .int .i64 (k : Nat))] ∧ m = xa4.length - k ∧ UpdL [og3, og14, none, (some b13.block)] w16 wz ∧ Osl VI wz og16 v16 (xa2) ∧ OgR w16 og3 og16 ∧ Osl VI wz og17 v17 (xa3) ∧ OgR w16 og14 og17 ∧ Osl VB wz og18 v18 ((xa4.take k).map not) ∧ OgR w16 none og18 ∧ Bx wz b13 [.int .i64 a0, .int .i64 a1, v16, v17, v18] ∧ Dj og16 og17 ∧ Dj og16 og18 ∧ Dj og17 og18 ∧ (k ≤ xa4.length)) (ρ₀ := [(25, _)]) (m₀ := _) ⟨rfl, rfl, rfl, rfl, rfl, trivial⟩ ⟨rv1, og3, rv3, og14, (.slice none 0 0), none, 0, rfl, rfl, (UpdL.refl _ _), osE ho3 (by first | rfl | (simp_all; done) | (simp_all; omega)), OgR.refl _ _, osE ho14 (by first | rfl | (simp_all; done) | (simp_all; omega)), OgR.refl _ _, osE ho15 (by simp), OgR.refl _ _, bxE hb13 (by first | rfl | (simp_all; done) | (simp_all; omega)), hd3_14, hd3_15, hd14_15, (by first | omega | rfl | (simp; done) | assumption | (simp_all; done))⟩ ?_
      rintro _ wl2 _ ⟨v16, og16, v17, og17, v18, og18, k, rfl, rfl, hU0, ho16, ha16, ho17, ha17, ho18, ha18, hb13, hd16_17, hd16_18, hd17_18, hk⟩
      have hb1 := hb1.loop hU0 ⟨hd1_3, hd1_14, hd1_15, hd1_13, trivial⟩
      have hb2 := hb2.loop hU0 ⟨hd2_3, hd2_14, hd2_15, hd2_13, trivial⟩
      have hl16 := Lo.ogr hl3 hB ha16
      have hg0_16 := ha16
      have hk0_16 : OkB [og3, og14, none, (some b13.block)] w16 og16 := OkB.ogr (OkB.mem (by simp)) (Nat.le_refl _) ha16
      have hd1_16 := Dj.ogr hd1_3 hlt1 ha16
      have hd2_16 := Dj.ogr hd2_3 hlt2 ha16
      have hd13_16 := Dj.ogr (Dj.symm hd3_13) hlt13 ha16
      have hl17 := Lo.ogr hl14 hB ha17
      have hg0_17 := ha17
      have hk0_17 : OkB [og3, og14, none, (some b13.block)] w16 og17 := OkB.ogr (OkB.mem (by simp)) (Nat.le_refl _) ha17
      have hd1_17 := Dj.ogr hd1_14 hlt1 ha17
      have hd2_17 := Dj.ogr hd2_14 hlt2 ha17
      have hd13_17 := Dj.ogr hd13_14 hlt13 ha17
      have hl18 := Lo.ogr hl15 hB ha18
      have hg0_18 := ha18
      have hk0_18 : OkB [og3, og14, none, (some b13.block)] w16 og18 := OkB.ogr (OkB.mem (by simp)) (Nat.le_refl _) ha18
      have hd1_18 := Dj.ogr hd1_15 hlt1 ha18
      have hd2_18 := Dj.ogr hd2_15 hlt2 ha18
      have hd13_18 := Dj.ogr hd13_15 hlt13 ha18
      have hk0_13 : OkB [og3, og14, none, (some b13.block)] w16 (some b13.block) := OkB.mem (by simp)
      have hB := hB.loop hU0 ⟨hl3, hl14, hl15, hl13, trivial⟩
      refine CW.seq ?_
      refine CW.reg ?_
      refine WL.pure rfl rfl rfl (PV.lss rfl rfl) ?_
      refine WL.nilS ?_
      refine CW.seq ?_
      refine CW.cond rfl (fun hc3 => ?_) (fun hc3 => ?_)
      · skip
        try simp only [nq] at hc3
        refine CW.skipS ?_
        refine CW.seq ?_
        refine CW.block ?_
        refine CW.seq ?_
        refine CW.reg ?_
        first
          | refine WL.at (x := .tmp 23) (y := .tmp 25) (E := EB) (false) rfl rfl (by first | assumption | exact Inn.rd (by assumption) (by omega)) (by first | omega | (simp only [List.length_set]; omega) | (simp only [List.length_append, List.length_take, List.length_replicate, List.length_drop]; omega)) (fun p2 csp2 hpp2 hcp2 hq => ?_)
          | refine WL.atZ (x := .tmp 23) (y := .tmp 25) (E := EB) (false) rfl rfl (by first | assumption | exact Inn.rd (by assumption) (by omega)) (by first | omega | (simp only [List.length_set]; omega) | (simp only [List.length_append, List.length_take, List.length_replicate, List.length_drop]; omega)) (fun p2 csp2 hpp2 hzp2 hcp2 hq => ?_)
        cases hq
        refine WL.pure rfl rfl rfl ((by first | exact PV.indexAddr hpp2 rfl rfl T.sl62 | exact PV.indexAddr hpp2 rfl (by rw [← hzp2]; rfl) T.sl62)) ?_
        refine WL.pure rfl rfl rfl ((by first | exact PV.load0 T.na4 rfl (by first | exact Cells.up (by assumption) hB | exact Bx.cells (by assumption) | assumption) (Ext.refl _) rfl | exact PV.load1 T.na4 rfl (by first | exact Cells.up (by assumption) hB | exact Bx.cells (by assumption) | assumption) (Ext.refl _) rfl)) ?_
        refine WL.asg rfl rfl ?_
        refine WL.nilS ?_
        refine CW.reg ?_
        refine WL.pure rfl rfl rfl (PV.fieldAddr T.fl72_4 rfl hb13.cells) ?_
        refine WL.pure rfl rfl rfl (PV.load1 T.na62 rfl hb13.cells (Ext.refl _) rfl) ?_
        refine WL.mv rfl rfl ?_
        refine WL.pure rfl rfl rfl (PV.not rfl) ?_
        refine WL.op rfl (OpK.buildS VB (os := [.tmp 32]) [_] rfl T.sl62 rfl rfl T.zv4 rfl (by intro z hz; first | rfl | (simp only [List.mem_cons, List.not_mem_nil, or_false] at hz; subst hz; exact (by first | exact Rd.cells1 (by assumption) | exact Osl.cells1 (by assumption) | exact Osn.cells1 (by assumption) | exact Rd.cells1 (NL.rd (by assumption)) | exact Inn.cell1 (by assumption) (by omega) | assumption | rfl))) rfl (fun v20 g20 w17 hXw17 ho20 hge20 => ?_))
        have hl20 := Lo.new hB hge20
        have hd1_20 := Dj.new hb1.ltO hge20
        have hd2_20 := Dj.new hb2.ltO hge20
        have hd13_20 := Dj.new hb13.ltO hge20
        have hd16_20 := Dj.new ho16.ltO hge20
        have hd17_20 := Dj.new ho17.ltO hge20
        have hd18_20 := Dj.new ho18.ltO hge20
        have hk0_20 := OkN.new hU0 hge20
        have hg0_20 := OgR.new hU0.size hge20
        have hB := hB.trans hXw17
        have hb1 := hb1.up hXw17
        have hb2 := hb2.up hXw17
        have hb13 := hb13.up hXw17
        have ho16 := ho16.up hXw17
        have ho17 := ho17.up hXw17
        have ho18 := ho18.up hXw17
        have hU0 := hU0.ext hXw17
        refine WL.op rfl (OpK.appendS (f := VB) rfl T.sl62 T.zv4 rfl rfl ho18 rfl (Osl.src ho20 (fun _ => rfl)) (by first | (simp only [List.length_cons, List.length_nil]; omega) | (simp_all; omega)) (fun v21 og21 w18 hXw18 ho21 hap21 => ?_))
        have hl21 := Lo.app hl18 hB hap21
        have hd1_21 := Dj.app hd1_18 hb1.ltO hap21
        have hd2_21 := Dj.app hd2_18 hb2.ltO hap21
        have hd13_21 := Dj.app hd13_18 hb13.ltO hap21
        have hd16_21 := Dj.app hd16_18 ho16.ltO hap21
        have hd17_21 := Dj.app hd17_18 ho17.ltO hap21
        have hd20_21 := Dj.app (Dj.symm hd18_20) ho20.ltO hap21
        have hk0_21 := OkN.app hU0 hk0_18 hap21
        have hg0_21 := OgR.app hg0_18 hU0.size hap21
        have hB := hB.updL hXw18 hl18
        have hb1 := hb1.updD hXw18 hd1_18
        have hb2 := hb2.updD hXw18 hd2_18
        have hb13 := hb13.updD hXw18 hd13_18
        have ho16 := ho16.updD hXw18 hd16_18
        have ho17 := ho17.updD hXw18 hd17_18
        have ho20 := ho20.updD hXw18 (Dj.symm hd18_20)
        have hU0 := hU0.step hXw18 hk0_18
        refine WL.pure rfl rfl rfl (PV.fieldAddr T.fl72_4 rfl hb13.cells) ?_
        refine WL.op rfl (OpK.storeB T.sz62 rfl rfl (by first | rfl | exact Inn.one1 (by assumption) (by omega) | exact Osl.oneCell (by assumption) | exact Osn.oneCell (by assumption) | exact Rd.oneCell (by assumption) | exact Rd.oneCell (NL.rd (by assumption)) | assumption) hb13 rfl (fun w19 hXw19 hb13 => ?_))
        have hB := hB.updL hXw19 hl13
        have hb1 := hb1.updD hXw19 hd1_13
        have hb2 := hb2.updD hXw19 hd2_13
        have ho16 := ho16.updD hXw19 (Dj.symm hd13_16)
        have ho17 := ho17.updD hXw19 (Dj.symm hd13_17)
        have ho20 := ho20.updD hXw19 (Dj.symm hd13_20)
        have ho21 := ho21.updD hXw19 (Dj.symm hd13_21)
        have hU0 := hU0.step hXw19 hk0_13
        refine WL.nil ?_
        refine NQ.block ?_
        refine NQ.then ?_
        refine CW.reg ?_
        refine WL.pure rfl rfl rfl (PV.add rfl rfl (by constructor <;> omega)) ?_
        refine WL.mv rfl rfl ?_
        refine WL.nil ?_
        refine NQ.next (ρ := [(25, _)]) ⟨rfl, rfl, rfl, rfl, rfl, trivial⟩ ?_
        exact ⟨_, ⟨v16, og16, v17, og17, v21, og21, k + 1, rfl, rfl, hU0, osE ho16 (by first | rfl | (simp_all; done) | (simp_all; omega)), (by first | exact hg0_16 | exact OgR.weak hg0_16), osE ho17 (by first | rfl | (simp_all; done) | (simp_all; omega)), (by first | exact hg0_17 | exact OgR.weak hg0_17), osE ho21 (by exact notL_put (by omega)), (by first | exact hg0_21 | exact OgR.weak hg0_21), bxE hb13 (by first | rfl | (simp_all; done) | (simp_all; omega)), hd16_17, hd16_21, hd17_21, (by first | omega | assumption | (simp_all; done) | (simp_all; omega))⟩, by omega⟩
      try simp only [nq] at hc3
      refine CW.exit ?_
      refine XQ.then ?_
      refine XQ.then ?_
      refine XQ.here ?_
      refine NQ.then ?_
      refine CW.seq ?_
      refine CW.reg ?_
      refine WL.pure rfl rfl rfl (PV.loadA T.ag72 rfl hb13.cells (Ext.refl _) rfl) ?_
      refine WL.op rfl (OpK.storeA T.sz72 rfl rfl rfl rfl (by simp [Value.oneCell'] <;> first | done | (repeat' apply And.intro) <;> first | rfl | exact Inn.one1 (by assumption) (by omega) | exact Osl.oneCell (by assumption) | exact Osn.oneCell (by assumption) | exact Rd.oneCell (by assumption) | exact Rd.oneCell (NL.rd (by assumption)) | assumption) hb2 (fun w20 hXw20 hb2 => ?_))
      have hB := hB.updL hXw20 hl2
      have hb1 := hb1.updD hXw20 hd1_2
      have hb13 := hb13.updD hXw20 (Dj.symm hd2_13)
      have ho16 := ho16.updD hXw20 (Dj.symm hd2_16)
      have ho17 := ho17.updD hXw20 (Dj.symm hd2_17)
      have ho18 := ho18.updD hXw20 (Dj.symm hd2_18)
      refine WL.asg rfl rfl ?_
      refine WL.nilS ?_
      refine CW.ret ?_
      refine RQ.rc1 T.ag72 rfl (by first | exact Cells.up (by assumption) hB | exact Bx.cells (by assumption) | assumption) rfl rfl ?_
      refine ⟨hB, v16, og16, v17, og17, v18, og18, ?_, osE ho16 ?_, hl16, osE ho17 ?_, hl17, osE ho18 ?_, hl18, hd16_17, hd16_18, hd17_18⟩
      · skip
        first | (exact tE2 (by rw [onI_yes (treesB_yes (by assumption)), onI_yes (treesB_yes (by assumption))]) (bE (treesB_yes (by assumption)).symm)) | (exact tE2 (by rw [onI_no (treesB_no (by assumption)), onI_no (treesB_no (by assumption))]) (bE (Bool.eq_false_iff.2 (treesB_no (by assumption))).symm))
      · skip
        first | (rw [onT_no (treesB_no (by assumption))]; done) | (rw [onT_yes (treesB_yes (by assumption))]; done) | (rw [onT_yes (treesB_yes (by assumption))]; first | (simp; done) | exact notL_all (by omega))
      · skip
        first | (rw [onT_no (treesB_no (by assumption))]; done) | (rw [onT_yes (treesB_yes (by assumption))]; done) | (rw [onT_yes (treesB_yes (by assumption))]; first | (simp; done) | exact notL_all (by omega))
      · skip
        first | (rw [onT_no (treesB_no (by assumption))]; done) | (rw [onT_yes (treesB_yes (by assumption))]; done) | (rw [onT_yes (treesB_yes (by assumption))]; first | (simp; done) | exact notL_all (by omega))
  · skip
    refine (OpK.alloc rfl T.zv72 rfl (fun b22 w21 hXw21 hb22 hge22 => ?_))
    have hl22 := Lo.new hB hge22
    have hv22 := Lo.new hS hge22
    have hd1_22 := Dj.new hb1.ltO hge22
    have hd2_22 := Dj.new hb2.ltO hge22
    refine ⟨Upd.trans hS hXw21, ?_⟩
    have hS := Upd.trans hS hXw21
    have hB := hB.trans hXw21
    have hb1 := hb1.up hXw21
    have hb2 := hb2.up hXw21
    refine HP.must rfl rfl (OpK.call rfl T.cf141 rfl (c_slices_Clone_int64_int64 (by first | assumption | exact Rd.up (by assumption) hB | exact Osl.rd (by assumption) | exact Osn.rdR (by assumption) | exact NL.rd (by assumption) | exact rdII (by assumption) (by assumption) | exact Inn.rd (by assumption) (by omega)) (by first | assumption | omega | (simp only [marks_len, marksB_len, marksR_len]; omega))) (fun rv4 w22 hR => ?_))
    obtain ⟨hXw22, v23, og23, rfl, ho23, hq23⟩ := hR
    have hl23 := Lo.up hq23 hB
    have hv23 := Lo.up hq23 hS
    have hd1_23 := Dj.lo hb1.ltO hq23
    have hd2_23 := Dj.lo hb2.ltO hq23
    have hd22_23 := Dj.lo hb22.ltO hq23
    refine ⟨Upd.trans hS hXw22, ?_⟩
    have hS := Upd.trans hS hXw22
    have hB := hB.trans hXw22
    have hb1 := hb1.up hXw22
    have hb2 := hb2.up hXw22
    have hb22 := hb22.up hXw22
    refine HP.must rfl rfl (OpK.call rfl T.cf141 rfl (c_slices_Clone_int64_int64 (by first | assumption | exact Rd.up (by assumption) hB | exact Osl.rd (by assumption) | exact Osn.rdR (by assumption) | exact NL.rd (by assumption) | exact rdII (by assumption) (by assumption) | exact Inn.rd (by assumption) (by omega)) (by first | assumption | omega | (simp only [marks_len, marksB_len, marksR_len]; omega))) (fun rv5 w23 hR => ?_))
    obtain ⟨hXw23, v24, og24, rfl, ho24, hq24⟩ := hR
    have hl24 := Lo.up hq24 hB
    have hv24 := Lo.up hq24 hS
    have hd1_24 := Dj.lo hb1.ltO hq24
    have hd2_24 := Dj.lo hb2.ltO hq24
    have hd22_24 := Dj.lo hb22.ltO hq24
    have hd23_24 := Dj.lo ho23.ltO hq24
    refine ⟨Upd.trans hS hXw23, ?_⟩
    have hS := Upd.trans hS hXw23
    have hB := hB.trans hXw23
    have hb1 := hb1.up hXw23
    have hb2 := hb2.up hXw23
    have hb22 := hb22.up hXw23
    have ho23 := ho23.up hXw23
    refine HP.take rfl rfl rfl rfl hS (fun wS hS1 => PV.build (ks := [0, 1, 2, 3]) (os := [.tmp 12, .tmp 14, .tmp 17, .tmp 20]) (css := [[_], [_], [_], [_]]) (ds := [_, _, _, _, _]) T.bu72 rfl rfl ⟨rfl, rfl, (by first | exact Rd.cells1 (by assumption) | exact Osl.cells1 (by assumption) | exact Osn.cells1 (by assumption) | exact Rd.cells1 (NL.rd (by assumption)) | exact Inn.cell1 (by assumption) (by omega) | assumption | rfl), (by first | exact Rd.cells1 (by assumption) | exact Osl.cells1 (by assumption) | exact Osn.cells1 (by assumption) | exact Rd.cells1 (NL.rd (by assumption)) | exact Inn.cell1 (by assumption) (by omega) | assumption | rfl), trivial⟩ rfl) ?_
    refine HP.must rfl rfl (OpK.storeA T.sz72 rfl rfl rfl rfl (by simp [Value.oneCell'] <;> first | done | (repeat' apply And.intro) <;> first | rfl | exact Inn.one1 (by assumption) (by omega) | exact Osl.oneCell (by assumption) | exact Osn.oneCell (by assumption) | exact Rd.oneCell (by assumption) | exact Rd.oneCell (NL.rd (by assumption)) | assumption) hb22 (fun w24 hXw24 hb22 => ?_))
    refine ⟨Ext.updL hS hXw24 hv22, ?_⟩
    have hS := Ext.updL hS hXw24 hv22
    have hB := hB.updL hXw24 hl22
    have hb1 := hb1.updD hXw24 hd1_22
    have hb2 := hb2.updD hXw24 hd2_22
    have ho23 := ho23.updD hXw24 (Dj.symm hd22_23)
    have ho24 := ho24.updD hXw24 (Dj.symm hd22_24)
    refine HP.doneS ?_
    refine CW.seq ?_
    refine CW.seq ?_
    refine CW.reg ?_
    refine WL.pure rfl rfl rfl (PV.fieldAddr T.fl72_4 rfl hb1.cells) ?_
    refine WL.pure rfl rfl rfl (PV.load1 T.na62 rfl hb1.cells (Ext.refl _) rfl) ?_
    refine WL.pure rfl rfl rfl ((by first | exact PV.len rfl (by assumption) T.sl62 | exact PV.lenOs rfl (by assumption) T.sl62 | exact PV.len rfl (NL.rd (by assumption)) T.sl62 | exact PV.len rfl (Inn.rd (by assumption) (by omega)) T.sl62)) ?_
    refine WL.mv rfl rfl ?_
    refine WL.nilS ?_
    refine CW.block ?_
    have ho25 : Osl VB w24 none (.slice none 0 0) [] := (Osl.nil _ _)
    have hl25 : Lo w none := Lo.nl _
    have hd1_25 : Dj (some b1.block) none := Dj.nlR _
    have hd2_25 : Dj (some b2.block) none := Dj.nlR _
    have hd22_25 : Dj (some b22.block) none := Dj.nlR _
    have hd23_25 : Dj og23 none := Dj.nlR _
    have hd24_25 : Dj og24 none := Dj.nlR _
    have hlt1 := hb1.ltO
    have hlt2 := hb2.ltO
    have hlt22 := hb22.ltO
    have hlt23 := ho23.ltO
    have hlt24 := ho24.ltO
    have hlt25 := ho25.ltO
    refine CW.loop (σk := [(2, _), (4, _), (23, _), (24, _)]) (fun ρ wz m => ∃ (v26 : Value) (og26 : Option Nat) (v27 : Value) (og27 : Option Nat) (v28 : Value) (og28 : Option Nat) (k : Nat), ρ = [(25, .int .i64 (k : Nat))] ∧ m = xa4.length - k ∧ UpdL [og23, og24, none, (some b22.block)] w24 wz ∧ Osl VI wz og26 v26 (xa2) ∧ OgR w24 og23 og26 ∧ Osl VI wz og27 v27 (xa3) ∧ OgR w24 og24 og27 ∧ Osl VB wz og28 v28 ((xa4.take k).map not) ∧ OgR w24 none og28 ∧ Bx wz b22 [.int .i64 a0, .int .i64 a1, v26, v27, v28] ∧ Dj og26 og27 ∧ Dj og26 og28 ∧ Dj og27 og28 ∧ (k ≤ xa4.length)) (ρ₀ := [(25, _)]) (m₀ := _) ⟨rfl, rfl, rfl, rfl, rfl, trivial⟩ ⟨rv4, og23, rv5, og24, (.slice none 0 0), none, 0, rfl, rfl, (UpdL.refl _ _), osE ho23 (by first | rfl | (simp_all; done) | (simp_all; omega)), OgR.refl _ _, osE ho24 (by first | rfl | (simp_all; done) | (simp_all; omega)), OgR.refl _ _, osE ho25 (by simp), OgR.refl _ _, bxE hb22 (by first | rfl | (simp_all; done) | (simp_all; omega)), hd23_24, hd23_25, hd24_25, (by first | omega | rfl | (simp; done) | assumption | (simp_all; done))⟩ ?_
    rintro _ wl3 _ ⟨v26, og26, v27, og27, v28, og28, k, rfl, rfl, hU0, ho26, ha26, ho27, ha27, ho28, ha28, hb22, hd26_27, hd26_28, hd27_28, hk⟩
    have hb1 := hb1.loop hU0 ⟨hd1_23, hd1_24, hd1_25, hd1_22, trivial⟩
    have hb2 := hb2.loop hU0 ⟨hd2_23, hd2_24, hd2_25, hd2_22, trivial⟩
    have hl26 := Lo.ogr hl23 hB ha26
    have hg0_26 := ha26
    have hk0_26 : OkB [og23, og24, none, (some b22.block)] w24 og26 := OkB.ogr (OkB.mem (by simp)) (Nat.le_refl _) ha26
    have hd1_26 := Dj.ogr hd1_23 hlt1 ha26
    have hd2_26 := Dj.ogr hd2_23 hlt2 ha26
    have hd22_26 := Dj.ogr hd22_23 hlt22 ha26
    have hl27 := Lo.ogr hl24 hB ha27
    have hg0_27 := ha27
    have hk0_27 : OkB [og23, og24, none, (some b22.block)] w24 og27 := OkB.ogr (OkB.mem (by simp)) (Nat.le_refl _) ha27
    have hd1_27 := Dj.ogr hd1_24 hlt1 ha27
    have hd2_27 := Dj.ogr hd2_24 hlt2 ha27
    have hd22_27 := Dj.ogr hd22_24 hlt22 ha27
    have hl28 := Lo.ogr hl25 hB ha28
    have hg0_28 := ha28
    have hk0_28 : OkB [og23, og24, none, (some b22.block)] w24 og28 := OkB.ogr (OkB.mem (by simp)) (Nat.le_refl _) ha28
    have hd1_28 := Dj.ogr hd1_25 hlt1 ha28
    have hd2_28 := Dj.ogr hd2_25 hlt2 ha28
    have hd22_28 := Dj.ogr hd22_25 hlt22 ha28
    have hk0_22 : OkB [og23, og24, none, (some b22.block)] w24 (some b22.block) := OkB.mem (by simp)
    have hB := hB.loop hU0 ⟨hl23, hl24, hl25, hl22, trivial⟩
    refine CW.seq ?_
    refine CW.reg ?_
    refine WL.pure rfl rfl rfl (PV.lss rfl rfl) ?_
    refine WL.nilS ?_
    refine CW.seq ?_
    refine CW.cond rfl (fun hc4 => ?_) (fun hc4 => ?_)
    · skip
      try simp only [nq] at hc4
      refine CW.skipS ?_
      refine CW.seq ?_
      refine CW.block ?_
      refine CW.seq ?_
      refine CW.reg ?_
      first
        | refine WL.at (x := .tmp 23) (y := .tmp 25) (E := EB) (false) rfl rfl (by first | assumption | exact Inn.rd (by assumption) (by omega)) (by first | omega | (simp only [List.length_set]; omega) | (simp only [List.length_append, List.length_take, List.length_replicate, List.length_drop]; omega)) (fun p3 csp3 hpp3 hcp3 hq => ?_)
        | refine WL.atZ (x := .tmp 23) (y := .tmp 25) (E := EB) (false) rfl rfl (by first | assumption | exact Inn.rd (by assumption) (by omega)) (by first | omega | (simp only [List.length_set]; omega) | (simp only [List.length_append, List.length_take, List.length_replicate, List.length_drop]; omega)) (fun p3 csp3 hpp3 hzp3 hcp3 hq => ?_)
      cases hq
      refine WL.pure rfl rfl rfl ((by first | exact PV.indexAddr hpp3 rfl rfl T.sl62 | exact PV.indexAddr hpp3 rfl (by rw [← hzp3]; rfl) T.sl62)) ?_
      refine WL.pure rfl rfl rfl ((by first | exact PV.load0 T.na4 rfl (by first | exact Cells.up (by assumption) hB | exact Bx.cells (by assumption) | assumption) (Ext.refl _) rfl | exact PV.load1 T.na4 rfl (by first | exact Cells.up (by assumption) hB | exact Bx.cells (by assumption) | assumption) (Ext.refl _) rfl)) ?_
      refine WL.asg rfl rfl ?_
      refine WL.nilS ?_
      refine CW.reg ?_
      refine WL.pure rfl rfl rfl (PV.fieldAddr T.fl72_4 rfl hb22.cells) ?_
      refine WL.pure rfl rfl rfl (PV.load1 T.na62 rfl hb22.cells (Ext.refl _) rfl) ?_
      refine WL.mv rfl rfl ?_
      refine WL.pure rfl rfl rfl (PV.not rfl) ?_
      refine WL.op rfl (OpK.buildS VB (os := [.tmp 32]) [_] rfl T.sl62 rfl rfl T.zv4 rfl (by intro z hz; first | rfl | (simp only [List.mem_cons, List.not_mem_nil, or_false] at hz; subst hz; exact (by first | exact Rd.cells1 (by assumption) | exact Osl.cells1 (by assumption) | exact Osn.cells1 (by assumption) | exact Rd.cells1 (NL.rd (by assumption)) | exact Inn.cell1 (by assumption) (by omega) | assumption | rfl))) rfl (fun v30 g30 w25 hXw25 ho30 hge30 => ?_))
      have hl30 := Lo.new hB hge30
      have hd1_30 := Dj.new hb1.ltO hge30
      have hd2_30 := Dj.new hb2.ltO hge30
      have hd22_30 := Dj.new hb22.ltO hge30
      have hd26_30 := Dj.new ho26.ltO hge30
      have hd27_30 := Dj.new ho27.ltO hge30
      have hd28_30 := Dj.new ho28.ltO hge30
      have hk0_30 := OkN.new hU0 hge30
      have hg0_30 := OgR.new hU0.size hge30
      have hB := hB.trans hXw25
      have hb1 := hb1.up hXw25
      have hb2 := hb2.up hXw25
      have hb22 := hb22.up hXw25
      have ho26 := ho26.up hXw25
      have ho27 := ho27.up hXw25
      have ho28 := ho28.up hXw25
      have hU0 := hU0.ext hXw25
      refine WL.op rfl (OpK.appendS (f := VB) rfl T.sl62 T.zv4 rfl rfl ho28 rfl (Osl.src ho30 (fun _ => rfl)) (by first | (simp only [List.length_cons, List.length_nil]; omega) | (simp_all; omega)) (fun v31 og31 w26 hXw26 ho31 hap31 => ?_))
      have hl31 := Lo.app hl28 hB hap31
      have hd1_31 := Dj.app hd1_28 hb1.ltO hap31
      have hd2_31 := Dj.app hd2_28 hb2.ltO hap31
      have hd22_31 := Dj.app hd22_28 hb22.ltO hap31
      have hd26_31 := Dj.app hd26_28 ho26.ltO hap31
      have hd27_31 := Dj.app hd27_28 ho27.ltO hap31
      have hd30_31 := Dj.app (Dj.symm hd28_30) ho30.ltO hap31
      have hk0_31 := OkN.app hU0 hk0_28 hap31
      have hg0_31 := OgR.app hg0_28 hU0.size hap31
      have hB := hB.updL hXw26 hl28
      have hb1 := hb1.updD hXw26 hd1_28
      have hb2 := hb2.updD hXw26 hd2_28
      have hb22 := hb22.updD hXw26 hd22_28
      have ho26 := ho26.updD hXw26 hd26_28
      have ho27 := ho27.updD hXw26 hd27_28
      have ho30 := ho30.updD hXw26 (Dj.symm hd28_30)
      have hU0 := hU0.step hXw26 hk0_28
      refine WL.pure rfl rfl rfl (PV.fieldAddr T.fl72_4 rfl hb22.cells) ?_
      refine WL.op rfl (OpK.storeB T.sz62 rfl rfl (by first | rfl | exact Inn.one1 (by assumption) (by omega) | exact Osl.oneCell (by assumption) | exact Osn.oneCell (by assumption) | exact Rd.oneCell (by assumption) | exact Rd.oneCell (NL.rd (by assumption)) | assumption) hb22 rfl (fun w27 hXw27 hb22 => ?_))
      have hB := hB.updL hXw27 hl22
      have hb1 := hb1.updD hXw27 hd1_22
      have hb2 := hb2.updD hXw27 hd2_22
      have ho26 := ho26.updD hXw27 (Dj.symm hd22_26)
      have ho27 := ho27.updD hXw27 (Dj.symm hd22_27)
      have ho30 := ho30.updD hXw27 (Dj.symm hd22_30)
      have ho31 := ho31.updD hXw27 (Dj.symm hd22_31)
      have hU0 := hU0.step hXw27 hk0_22
      refine WL.nil ?_
      refine NQ.block ?_
      refine NQ.then ?_
      refine CW.reg ?_
      refine WL.pure rfl rfl rfl (PV.add rfl rfl (by constructor <;> omega)) ?_
      refine WL.mv rfl rfl ?_
      refine WL.nil ?_
      refine NQ.next (ρ := [(25, _)]) ⟨rfl, rfl, rfl, rfl, rfl, trivial⟩ ?_
      exact ⟨_, ⟨v26, og26, v27, og27, v31, og31, k + 1, rfl, rfl, hU0, osE ho26 (by first | rfl | (simp_all; done) | (simp_all; omega)), (by first | exact hg0_26 | exact OgR.weak hg0_26), osE ho27 (by first | rfl | (simp_all; done) | (simp_all; omega)), (by first | exact hg0_27 | exact OgR.weak hg0_27), osE ho31 (by exact notL_put (by omega)), (by first | exact hg0_31 | exact OgR.weak hg0_31), bxE hb22 (by first | rfl | (simp_all; done) | (simp_all; omega)), hd26_27, hd26_31, hd27_31, (by first | omega | assumption | (simp_all; done) | (simp_all; omega))⟩, by omega⟩
    try simp only [nq] at hc4
    refine CW.exit ?_
    refine XQ.then ?_
    refine XQ.then ?_
    refine XQ.here ?_
    refine NQ.then ?_
    refine CW.seq ?_
    refine CW.reg ?_
    refine WL.pure rfl rfl rfl (PV.loadA T.ag72 rfl hb22.cells (Ext.refl _) rfl) ?_
    refine WL.op rfl (OpK.storeA T.sz72 rfl rfl rfl rfl (by simp [Value.oneCell'] <;> first | done | (repeat' apply And.intro) <;> first | rfl | exact Inn.one1 (by assumption) (by omega) | exact Osl.oneCell (by assumption) | exact Osn.oneCell (by assumption) | exact Rd.oneCell (by assumption) | exact Rd.oneCell (NL.rd (by assumption)) | assumption) hb2 (fun w28 hXw28 hb2 => ?_))
    have hB := hB.updL hXw28 hl2
    have hb1 := hb1.updD hXw28 hd1_2
    have hb22 := hb22.updD hXw28 (Dj.symm hd2_22)
    have ho26 := ho26.updD hXw28 (Dj.symm hd2_26)
    have ho27 := ho27.updD hXw28 (Dj.symm hd2_27)
    have ho28 := ho28.updD hXw28 (Dj.symm hd2_28)
    refine WL.asg rfl rfl ?_
    refine WL.nilS ?_
    refine CW.ret ?_
    refine RQ.rc1 T.ag72 rfl (by first | exact Cells.up (by assumption) hB | exact Bx.cells (by assumption) | assumption) rfl rfl ?_
    refine ⟨hB, v26, og26, v27, og27, v28, og28, ?_, osE ho26 ?_, hl26, osE ho27 ?_, hl27, osE ho28 ?_, hl28, hd26_27, hd26_28, hd27_28⟩
    · skip
      first | (exact tE2 (by rw [onI_yes (treesB_yes (by assumption)), onI_yes (treesB_yes (by assumption))]) (bE (treesB_yes (by assumption)).symm)) | (exact tE2 (by rw [onI_no (treesB_no (by assumption)), onI_no (treesB_no (by assumption))]) (bE (Bool.eq_false_iff.2 (treesB_no (by assumption))).symm))
    · skip
      first | (rw [onT_no (treesB_no (by assumption))]; done) | (rw [onT_yes (treesB_yes (by assumption))]; done) | (rw [onT_yes (treesB_yes (by assumption))]; first | (simp; done) | exact notL_all (by omega))
    · skip
      first | (rw [onT_no (treesB_no (by assumption))]; done) | (rw [onT_yes (treesB_yes (by assumption))]; done) | (rw [onT_yes (treesB_yes (by assumption))]; first | (simp; done) | exact notL_all (by omega))
    · skip
      first | (rw [onT_no (treesB_no (by assumption))]; done) | (rw [onT_yes (treesB_yes (by assumption))]; done) | (rw [onT_yes (treesB_yes (by assumption))]; first | (simp; done) | exact notL_all (by omega))
theorem c_impl_MeetTrees {w : World} {a0 : Int} {a1 : Int} {va2 : Value} {xa2 : List Int} {va3 : Value} {xa3 : List Int} {va4 : Value} {xa4 : List Bool} {y0 : Int} {y1 : Int} {vy2 : Value} {xy2 : List Int} {vy3 : Value} {xy3 : List Int} {vy4 : Value} {xy4 : List Bool}  (ha2 : Rd EI w va2 xa2) (ha3 : Rd EI w va3 xa3) (ha4 : Rd EB w va4 xa4) (hy2 : Rd EI w vy2 xy2) (hy3 : Rd EI w vy3 xy3) (hy4 : Rd EB w vy4 xy4) : Calls Try.prog 54 #[.agg #[.int .i64 a0, .int .i64 a1, va2, va3, va4], .agg #[.int .i64 y0, .int .i64 y1, vy2, vy3, vy4]] w (Ret1 (fun v w' => Ext w w' ∧ ∃ u2 og_u2 u3 og_u3 u4 og_u4, v = .tuple #[.agg #[.int .i64 (onI (meetB a0 a1 y0 y1 xa2 xa3 xy2 xy3 xa4 xy4) (a0 * y0)), .int .i64 (onI (meetB a0 a1 y0 y1 xa2 xa3 xy2 xy3 xa4 xy4) a1), u2, u3, u4], .bool (meetB a0 a1 y0 y1 xa2 xa3 xy2 xy3 xa4 xy4)] ∧ Osl VI w' og_u2 u2 (onT (meetB a0 a1 y0 y1 xa2 xa3 xy2 xy3 xa4 xy4) (mapR (leafM y0 xa2 xy2) a1.toNat)) ∧ Lo w og_u2 ∧ Osl VI w' og_u3 u3 (onT (meetB a0 a1 y0 y1 xa2 xa3 xy2 xy3 xa4 xy4) (rowsM (a0 * y0).toNat (nextM a0 y0 xa3 xy3) (a0 * y0).toNat)) ∧ Lo w og_u3 ∧ Osl VB w' og_u4 u4 (onT (meetB a0 a1 y0 y1 xa2 xa3 xy2 xy3 xa4 xy4) (mapR (endM y0 xa4 xy4) (a0 * y0).toNat)) ∧ Lo w og_u4 ∧ Dj og_u2 og_u3 ∧ Dj og_u2 og_u4 ∧ Dj og_u3 og_u4)) := by
  have hB : Ext w w := Ext.refl w
  have hla2 := ha2.leI; have hla3 := ha3.leI; have hla4 := ha4.leI; have hly2 := hy2.leI; have hly3 := hy3.leI; have hly4 := hy4.leI
  refine callsOf (vs := [_, _]) Try.func54 rfl Try.ntmps54 rfl rfl ?_
  refine CW.seq ?_
  refine CW.reg ?_
  refine WL.op rfl (OpK.box rfl rfl (by first | exact Rd.cells1 (by assumption) | exact Osl.cells1 (by assumption) | exact Osn.cells1 (by assumption) | exact Rd.cells1 (NL.rd (by assumption)) | exact Inn.cell1 (by assumption) (by omega) | assumption | rfl) (fun b1 w1 hXw1 hb1 hge1 => ?_))
  have hl1 := Lo.new hB hge1
  have hB := hB.trans hXw1
  refine WL.op rfl (OpK.box rfl rfl (by first | exact Rd.cells1 (by assumption) | exact Osl.cells1 (by assumption) | exact Osn.cells1 (by assumption) | exact Rd.cells1 (NL.rd (by assumption)) | exact Inn.cell1 (by assumption) (by omega) | assumption | rfl) (fun b2 w2 hXw2 hb2 hge2 => ?_))
  have hl2 := Lo.new hB hge2
  have hd1_2 := Dj.new hb1.ltO hge2
  have hB := hB.trans hXw2
  have hb1 := hb1.up hXw2
  refine WL.op rfl (OpK.alloc rfl T.zv72 rfl (fun b3 w3 hXw3 hb3 hge3 => ?_))
  have hl3 := Lo.new hB hge3
  have hd1_3 := Dj.new hb1.ltO hge3
  have hd2_3 := Dj.new hb2.ltO hge3
  have hB := hB.trans hXw3
  have hb1 := hb1.up hXw3
  have hb2 := hb2.up hXw3
  refine WL.asg rfl rfl ?_
  refine WL.nilS ?_
  refine CW.seq ?_
  refine CW.seq ?_
  refine CW.reg ?_
  refine WL.pure rfl rfl rfl (PV.loadA T.ag72 rfl hb1.cells (Ext.refl _) rfl) ?_
  refine WL.op rfl (OpK.callR rfl T.cf56 rfl (c_impl_ValidTrees (by first | assumption | exact Rd.up (by assumption) hB | exact Osl.rd (by assumption) | exact Osn.rdR (by assumption) | exact NL.rd (by assumption) | exact rdII (by assumption) (by assumption) | exact Inn.rd (by assumption) (by omega)) (by first | assumption | exact Rd.up (by assumption) hB | exact Osl.rd (by assumption) | exact Osn.rdR (by assumption) | exact NL.rd (by assumption) | exact rdII (by assumption) (by assumption) | exact Inn.rd (by assumption) (by omega)) (by first | assumption | exact Rd.up (by assumption) hB | exact Osl.rd (by assumption) | exact Osn.rdR (by assumption) | exact NL.rd (by assumption) | exact rdII (by assumption) (by assumption) | exact Inn.rd (by assumption) (by omega))) (fun w4 hXw4 => ?_))
  have hB := hB.trans hXw4
  have hb1 := hb1.up hXw4
  have hb2 := hb2.up hXw4
  have hb3 := hb3.up hXw4
  refine WL.pure rfl rfl rfl (PV.not rfl) ?_
  refine WL.mv rfl rfl ?_
  refine WL.split (t := 13) rfl (fun hc1 => ?_) (fun hc1 => ?_)
  · skip
    try simp only [nq] at hc1
    refine WL.skip rfl rfl rfl rfl rfl ?_
    refine WL.skip rfl rfl rfl rfl rfl ?_
    refine WL.skip rfl rfl rfl rfl rfl ?_
    refine WL.pure rfl rfl rfl (PV.pickT rfl rfl) ?_
    refine WL.mv rfl rfl ?_
    refine WL.skip rfl rfl rfl rfl rfl ?_
    refine WL.skip rfl rfl rfl rfl rfl ?_
    refine WL.skip rfl rfl rfl rfl rfl ?_
    refine WL.skip rfl rfl rfl rfl rfl ?_
    refine WL.skip rfl rfl rfl rfl rfl ?_
    refine WL.pure rfl rfl rfl (PV.pickT rfl rfl) ?_
    refine WL.mv rfl rfl ?_
    refine WL.skip rfl rfl rfl rfl rfl ?_
    refine WL.skip rfl rfl rfl rfl rfl ?_
    refine WL.skip rfl rfl rfl rfl rfl ?_
    refine WL.skip rfl rfl rfl rfl rfl ?_
    refine WL.skip rfl rfl rfl rfl rfl ?_
    refine WL.skip rfl rfl rfl rfl rfl ?_
    refine WL.pure rfl rfl rfl (PV.pickT rfl rfl) ?_
    refine WL.nilS ?_
    refine CW.condT rfl ?_
    refine CW.seq ?_
    refine CW.reg ?_
    refine WL.pure rfl rfl rfl (PV.build (ks := []) (os := []) (css := []) (ds := [_, _, _, _, _]) T.bu72 rfl rfl trivial rfl) ?_
    refine WL.op rfl (OpK.storeA T.sz72 rfl rfl rfl rfl (by simp [Value.oneCell'] <;> first | done | (repeat' apply And.intro) <;> first | rfl | exact Inn.one1 (by assumption) (by omega) | exact Osl.oneCell (by assumption) | exact Osn.oneCell (by assumption) | exact Rd.oneCell (by assumption) | exact Rd.oneCell (NL.rd (by assumption)) | assumption) hb3 (fun w5 hXw5 hb3 => ?_))
    have hB := hB.updL hXw5 hl3
    have hb1 := hb1.updD hXw5 hd1_3
    have hb2 := hb2.updD hXw5 hd2_3
    refine WL.asg rfl rfl ?_
    refine WL.nilS ?_
    refine CW.ret ?_
    refine RQ.then ?_
    refine RQ.rc1 T.ag72 rfl (by first | exact Cells.up (by assumption) hB | exact Bx.cells (by assumption) | assumption) rfl rfl ?_
    refine ⟨hB, (.slice none 0 0), none, (.slice none 0 0), none, (.slice none 0 0), none, ?_, osE (Osl.nil _ _) ?_, Lo.nl _, osE (Osl.nil _ _) ?_, Lo.nl _, osE (Osl.nil _ _) ?_, Lo.nl _, (Dj.nl _), (Dj.nl _), (Dj.nl _)⟩
    · skip
      first | (exact tE2 (by rw [onI_no (by first | exact meetB_n1 (treesB_no (by assumption)) | exact meetB_n2 (treesB_no (by assumption)) | exact meetB_n3 (by omega) | exact meetB_n4 (by omega)), onI_no (by first | exact meetB_n1 (treesB_no (by assumption)) | exact meetB_n2 (treesB_no (by assumption)) | exact meetB_n3 (by omega) | exact meetB_n4 (by omega))]) (bE (Bool.eq_false_iff.2 (by first | exact meetB_n1 (treesB_no (by assumption)) | exact meetB_n2 (treesB_no (by assumption)) | exact meetB_n3 (by omega) | exact meetB_n4 (by omega))).symm)) | (exact tE2 (by rw [onI_yes (meetB_yes (treesB_yes (by assumption)) (treesB_yes (by assumption)) (by omega) (by omega)), onI_yes (meetB_yes (treesB_yes (by assumption)) (treesB_yes (by assumption)) (by omega) (by omega))]) (bE (meetB_yes (treesB_yes (by assumption)) (treesB_yes (by assumption)) (by omega) (by omega)).symm))
    · skip
      first | (rw [onT_no (by first | exact meetB_n1 (treesB_no (by assumption)) | exact meetB_n2 (treesB_no (by assumption)) | exact meetB_n3 (by omega) | exact meetB_n4 (by omega))]; done) | (rw [onT_yes (meetB_yes (treesB_yes (by assumption)) (treesB_yes (by assumption)) (by omega) (by omega))]; done)
    · skip
      first | (rw [onT_no (by first | exact meetB_n1 (treesB_no (by assumption)) | exact meetB_n2 (treesB_no (by assumption)) | exact meetB_n3 (by omega) | exact meetB_n4 (by omega))]; done) | (rw [onT_yes (meetB_yes (treesB_yes (by assumption)) (treesB_yes (by assumption)) (by omega) (by omega)), show i = (a0 * y0).toNat from (by omega)])
    · skip
      first | (rw [onT_no (by first | exact meetB_n1 (treesB_no (by assumption)) | exact meetB_n2 (treesB_no (by assumption)) | exact meetB_n3 (by omega) | exact meetB_n4 (by omega))]; done) | (rw [onT_yes (meetB_yes (treesB_yes (by assumption)) (treesB_yes (by assumption)) (by omega) (by omega)), show i = (a0 * y0).toNat from (by omega)])
  try simp only [nq] at hc1
  refine WL.pureG rfl rfl rfl rfl rfl (PV.loadA T.ag72 rfl hb2.cells (Ext.refl _) rfl) ?_
  refine WL.opG rfl rfl rfl (OpK.callR rfl T.cf56 rfl (c_impl_ValidTrees (by first | assumption | exact Rd.up (by assumption) hB | exact Osl.rd (by assumption) | exact Osn.rdR (by assumption) | exact NL.rd (by assumption) | exact rdII (by assumption) (by assumption) | exact Inn.rd (by assumption) (by omega)) (by first | assumption | exact Rd.up (by assumption) hB | exact Osl.rd (by assumption) | exact Osn.rdR (by assumption) | exact NL.rd (by assumption) | exact rdII (by assumption) (by assumption) | exact Inn.rd (by assumption) (by omega)) (by first | assumption | exact Rd.up (by assumption) hB | exact Osl.rd (by assumption) | exact Osn.rdR (by assumption) | exact NL.rd (by assumption) | exact rdII (by assumption) (by assumption) | exact Inn.rd (by assumption) (by omega))) (fun w6 hXw6 => ?_))
  have hB := hB.trans hXw6
  have hb1 := hb1.up hXw6
  have hb2 := hb2.up hXw6
  have hb3 := hb3.up hXw6
  refine WL.pureG rfl rfl rfl rfl rfl (PV.not rfl) ?_
  refine WL.pure rfl rfl rfl (PV.pickF rfl rfl) ?_
  refine WL.mv rfl rfl ?_
  refine WL.split (t := 18) rfl (fun hc2 => ?_) (fun hc2 => ?_)
  · skip
    try simp only [nq] at hc2
    refine WL.skip rfl rfl rfl rfl rfl ?_
    refine WL.skip rfl rfl rfl rfl rfl ?_
    refine WL.skip rfl rfl rfl rfl rfl ?_
    refine WL.skip rfl rfl rfl rfl rfl ?_
    refine WL.skip rfl rfl rfl rfl rfl ?_
    refine WL.pure rfl rfl rfl (PV.pickT rfl rfl) ?_
    refine WL.mv rfl rfl ?_
    refine WL.skip rfl rfl rfl rfl rfl ?_
    refine WL.skip rfl rfl rfl rfl rfl ?_
    refine WL.skip rfl rfl rfl rfl rfl ?_
    refine WL.skip rfl rfl rfl rfl rfl ?_
    refine WL.skip rfl rfl rfl rfl rfl ?_
    refine WL.skip rfl rfl rfl rfl rfl ?_
    refine WL.pure rfl rfl rfl (PV.pickT rfl rfl) ?_
    refine WL.nilS ?_
    refine CW.condT rfl ?_
    refine CW.seq ?_
    refine CW.reg ?_
    refine WL.pure rfl rfl rfl (PV.build (ks := []) (os := []) (css := []) (ds := [_, _, _, _, _]) T.bu72 rfl rfl trivial rfl) ?_
    refine WL.op rfl (OpK.storeA T.sz72 rfl rfl rfl rfl (by simp [Value.oneCell'] <;> first | done | (repeat' apply And.intro) <;> first | rfl | exact Inn.one1 (by assumption) (by omega) | exact Osl.oneCell (by assumption) | exact Osn.oneCell (by assumption) | exact Rd.oneCell (by assumption) | exact Rd.oneCell (NL.rd (by assumption)) | assumption) hb3 (fun w7 hXw7 hb3 => ?_))
    have hB := hB.updL hXw7 hl3
    have hb1 := hb1.updD hXw7 hd1_3
    have hb2 := hb2.updD hXw7 hd2_3
    refine WL.asg rfl rfl ?_
    refine WL.nilS ?_
    refine CW.ret ?_
    refine RQ.then ?_
    refine RQ.rc1 T.ag72 rfl (by first | exact Cells.up (by assumption) hB | exact Bx.cells (by assumption) | assumption) rfl rfl ?_
    refine ⟨hB, (.slice none 0 0), none, (.slice none 0 0), none, (.slice none 0 0), none, ?_, osE (Osl.nil _ _) ?_, Lo.nl _, osE (Osl.nil _ _) ?_, Lo.nl _, osE (Osl.nil _ _) ?_, Lo.nl _, (Dj.nl _), (Dj.nl _), (Dj.nl _)⟩
    · skip
      first | (exact tE2 (by rw [onI_no (by first | exact meetB_n1 (treesB_no (by assumption)) | exact meetB_n2 (treesB_no (by assumption)) | exact meetB_n3 (by omega) | exact meetB_n4 (by omega)), onI_no (by first | exact meetB_n1 (treesB_no (by assumption)) | exact meetB_n2 (treesB_no (by assumption)) | exact meetB_n3 (by omega) | exact meetB_n4 (by omega))]) (bE (Bool.eq_false_iff.2 (by first | exact meetB_n1 (treesB_no (by assumption)) | exact meetB_n2 (treesB_no (by assumption)) | exact meetB_n3 (by omega) | exact meetB_n4 (by omega))).symm)) | (exact tE2 (by rw [onI_yes (meetB_yes (treesB_yes (by assumption)) (treesB_yes (by assumption)) (by omega) (by omega)), onI_yes (meetB_yes (treesB_yes (by assumption)) (treesB_yes (by assumption)) (by omega) (by omega))]) (bE (meetB_yes (treesB_yes (by assumption)) (treesB_yes (by assumption)) (by omega) (by omega)).symm))
    · skip
      first | (rw [onT_no (by first | exact meetB_n1 (treesB_no (by assumption)) | exact meetB_n2 (treesB_no (by assumption)) | exact meetB_n3 (by omega) | exact meetB_n4 (by omega))]; done) | (rw [onT_yes (meetB_yes (treesB_yes (by assumption)) (treesB_yes (by assumption)) (by omega) (by omega))]; done)
    · skip
      first | (rw [onT_no (by first | exact meetB_n1 (treesB_no (by assumption)) | exact meetB_n2 (treesB_no (by assumption)) | exact meetB_n3 (by omega) | exact meetB_n4 (by omega))]; done) | (rw [onT_yes (meetB_yes (treesB_yes (by assumption)) (treesB_yes (by assumption)) (by omega) (by omega)), show i = (a0 * y0).toNat from (by omega)])
    · skip
      first | (rw [onT_no (by first | exact meetB_n1 (treesB_no (by assumption)) | exact meetB_n2 (treesB_no (by assumption)) | exact meetB_n3 (by omega) | exact meetB_n4 (by omega))]; done) | (rw [onT_yes (meetB_yes (treesB_yes (by assumption)) (treesB_yes (by assumption)) (by omega) (by omega)), show i = (a0 * y0).toNat from (by omega)])
  try simp only [nq] at hc2
  refine WL.pureG rfl rfl rfl rfl rfl (PV.fieldAddr T.fl72_1 rfl hb1.cells) ?_
  refine WL.pureG rfl rfl rfl rfl rfl (PV.load1 T.na2 rfl hb1.cells (Ext.refl _) rfl) ?_
  refine WL.pureG rfl rfl rfl rfl rfl (PV.fieldAddr T.fl72_1 rfl hb2.cells) ?_
  refine WL.pureG rfl rfl rfl rfl rfl (PV.load1 T.na2 rfl hb2.cells (Ext.refl _) rfl) ?_
  refine WL.pureG rfl rfl rfl rfl rfl (PV.neq rfl rfl) ?_
  refine WL.pure rfl rfl rfl (PV.pickF rfl rfl) ?_
  refine WL.mv rfl rfl ?_
  refine WL.split (t := 25) rfl (fun hc3 => ?_) (fun hc3 => ?_)
  · skip
    try simp only [nq] at hc3
    refine WL.skip rfl rfl rfl rfl rfl ?_
    refine WL.skip rfl rfl rfl rfl rfl ?_
    refine WL.skip rfl rfl rfl rfl rfl ?_
    refine WL.skip rfl rfl rfl rfl rfl ?_
    refine WL.skip rfl rfl rfl rfl rfl ?_
    refine WL.skip rfl rfl rfl rfl rfl ?_
    refine WL.pure rfl rfl rfl (PV.pickT rfl rfl) ?_
    refine WL.nilS ?_
    refine CW.condT rfl ?_
    refine CW.seq ?_
    refine CW.reg ?_
    refine WL.pure rfl rfl rfl (PV.build (ks := []) (os := []) (css := []) (ds := [_, _, _, _, _]) T.bu72 rfl rfl trivial rfl) ?_
    refine WL.op rfl (OpK.storeA T.sz72 rfl rfl rfl rfl (by simp [Value.oneCell'] <;> first | done | (repeat' apply And.intro) <;> first | rfl | exact Inn.one1 (by assumption) (by omega) | exact Osl.oneCell (by assumption) | exact Osn.oneCell (by assumption) | exact Rd.oneCell (by assumption) | exact Rd.oneCell (NL.rd (by assumption)) | assumption) hb3 (fun w8 hXw8 hb3 => ?_))
    have hB := hB.updL hXw8 hl3
    have hb1 := hb1.updD hXw8 hd1_3
    have hb2 := hb2.updD hXw8 hd2_3
    refine WL.asg rfl rfl ?_
    refine WL.nilS ?_
    refine CW.ret ?_
    refine RQ.then ?_
    refine RQ.rc1 T.ag72 rfl (by first | exact Cells.up (by assumption) hB | exact Bx.cells (by assumption) | assumption) rfl rfl ?_
    refine ⟨hB, (.slice none 0 0), none, (.slice none 0 0), none, (.slice none 0 0), none, ?_, osE (Osl.nil _ _) ?_, Lo.nl _, osE (Osl.nil _ _) ?_, Lo.nl _, osE (Osl.nil _ _) ?_, Lo.nl _, (Dj.nl _), (Dj.nl _), (Dj.nl _)⟩
    · skip
      first | (exact tE2 (by rw [onI_no (by first | exact meetB_n1 (treesB_no (by assumption)) | exact meetB_n2 (treesB_no (by assumption)) | exact meetB_n3 (by omega) | exact meetB_n4 (by omega)), onI_no (by first | exact meetB_n1 (treesB_no (by assumption)) | exact meetB_n2 (treesB_no (by assumption)) | exact meetB_n3 (by omega) | exact meetB_n4 (by omega))]) (bE (Bool.eq_false_iff.2 (by first | exact meetB_n1 (treesB_no (by assumption)) | exact meetB_n2 (treesB_no (by assumption)) | exact meetB_n3 (by omega) | exact meetB_n4 (by omega))).symm)) | (exact tE2 (by rw [onI_yes (meetB_yes (treesB_yes (by assumption)) (treesB_yes (by assumption)) (by omega) (by omega)), onI_yes (meetB_yes (treesB_yes (by assumption)) (treesB_yes (by assumption)) (by omega) (by omega))]) (bE (meetB_yes (treesB_yes (by assumption)) (treesB_yes (by assumption)) (by omega) (by omega)).symm))
    · skip
      first | (rw [onT_no (by first | exact meetB_n1 (treesB_no (by assumption)) | exact meetB_n2 (treesB_no (by assumption)) | exact meetB_n3 (by omega) | exact meetB_n4 (by omega))]; done) | (rw [onT_yes (meetB_yes (treesB_yes (by assumption)) (treesB_yes (by assumption)) (by omega) (by omega))]; done)
    · skip
      first | (rw [onT_no (by first | exact meetB_n1 (treesB_no (by assumption)) | exact meetB_n2 (treesB_no (by assumption)) | exact meetB_n3 (by omega) | exact meetB_n4 (by omega))]; done) | (rw [onT_yes (meetB_yes (treesB_yes (by assumption)) (treesB_yes (by assumption)) (by omega) (by omega)), show i = (a0 * y0).toNat from (by omega)])
    · skip
      first | (rw [onT_no (by first | exact meetB_n1 (treesB_no (by assumption)) | exact meetB_n2 (treesB_no (by assumption)) | exact meetB_n3 (by omega) | exact meetB_n4 (by omega))]; done) | (rw [onT_yes (meetB_yes (treesB_yes (by assumption)) (treesB_yes (by assumption)) (by omega) (by omega)), show i = (a0 * y0).toNat from (by omega)])
  try simp only [nq] at hc3
  refine WL.pureG rfl rfl rfl rfl rfl (PV.fieldAddr T.fl72_0 rfl hb1.cells) ?_
  refine WL.pureG rfl rfl rfl rfl rfl (PV.load1 T.na2 rfl hb1.cells (Ext.refl _) rfl) ?_
  refine WL.pureG rfl rfl rfl rfl rfl (PV.fieldAddr T.fl72_0 rfl hb2.cells) ?_
  refine WL.pureG rfl rfl rfl rfl rfl (PV.load1 T.na2 rfl hb2.cells (Ext.refl _) rfl) ?_
  refine WL.pureG rfl rfl rfl rfl rfl (PV.mul rfl rfl (by constructor <;> (have hm0 := pair_le (x := a0) (n := y0) (by omega) (by omega); omega))) ?_
  refine WL.pureG rfl rfl rfl rfl rfl (PV.gtr rfl rfl) ?_
  refine WL.pure rfl rfl rfl (PV.pickF rfl rfl) ?_
  refine WL.nilS ?_
  refine CW.cond rfl (fun hc4 => ?_) (fun hc4 => ?_)
  · skip
    try simp only [nq] at hc4
    refine CW.seq ?_
    refine CW.reg ?_
    refine WL.pure rfl rfl rfl (PV.build (ks := []) (os := []) (css := []) (ds := [_, _, _, _, _]) T.bu72 rfl rfl trivial rfl) ?_
    refine WL.op rfl (OpK.storeA T.sz72 rfl rfl rfl rfl (by simp [Value.oneCell'] <;> first | done | (repeat' apply And.intro) <;> first | rfl | exact Inn.one1 (by assumption) (by omega) | exact Osl.oneCell (by assumption) | exact Osn.oneCell (by assumption) | exact Rd.oneCell (by assumption) | exact Rd.oneCell (NL.rd (by assumption)) | assumption) hb3 (fun w9 hXw9 hb3 => ?_))
    have hB := hB.updL hXw9 hl3
    have hb1 := hb1.updD hXw9 hd1_3
    have hb2 := hb2.updD hXw9 hd2_3
    refine WL.asg rfl rfl ?_
    refine WL.nilS ?_
    refine CW.ret ?_
    refine RQ.then ?_
    refine RQ.rc1 T.ag72 rfl (by first | exact Cells.up (by assumption) hB | exact Bx.cells (by assumption) | assumption) rfl rfl ?_
    refine ⟨hB, (.slice none 0 0), none, (.slice none 0 0), none, (.slice none 0 0), none, ?_, osE (Osl.nil _ _) ?_, Lo.nl _, osE (Osl.nil _ _) ?_, Lo.nl _, osE (Osl.nil _ _) ?_, Lo.nl _, (Dj.nl _), (Dj.nl _), (Dj.nl _)⟩
    · skip
      first | (exact tE2 (by rw [onI_no (by first | exact meetB_n1 (treesB_no (by assumption)) | exact meetB_n2 (treesB_no (by assumption)) | exact meetB_n3 (by omega) | exact meetB_n4 (by omega)), onI_no (by first | exact meetB_n1 (treesB_no (by assumption)) | exact meetB_n2 (treesB_no (by assumption)) | exact meetB_n3 (by omega) | exact meetB_n4 (by omega))]) (bE (Bool.eq_false_iff.2 (by first | exact meetB_n1 (treesB_no (by assumption)) | exact meetB_n2 (treesB_no (by assumption)) | exact meetB_n3 (by omega) | exact meetB_n4 (by omega))).symm)) | (exact tE2 (by rw [onI_yes (meetB_yes (treesB_yes (by assumption)) (treesB_yes (by assumption)) (by omega) (by omega)), onI_yes (meetB_yes (treesB_yes (by assumption)) (treesB_yes (by assumption)) (by omega) (by omega))]) (bE (meetB_yes (treesB_yes (by assumption)) (treesB_yes (by assumption)) (by omega) (by omega)).symm))
    · skip
      first | (rw [onT_no (by first | exact meetB_n1 (treesB_no (by assumption)) | exact meetB_n2 (treesB_no (by assumption)) | exact meetB_n3 (by omega) | exact meetB_n4 (by omega))]; done) | (rw [onT_yes (meetB_yes (treesB_yes (by assumption)) (treesB_yes (by assumption)) (by omega) (by omega))]; done)
    · skip
      first | (rw [onT_no (by first | exact meetB_n1 (treesB_no (by assumption)) | exact meetB_n2 (treesB_no (by assumption)) | exact meetB_n3 (by omega) | exact meetB_n4 (by omega))]; done) | (rw [onT_yes (meetB_yes (treesB_yes (by assumption)) (treesB_yes (by assumption)) (by omega) (by omega)), show i = (a0 * y0).toNat from (by omega)])
    · skip
      first | (rw [onT_no (by first | exact meetB_n1 (treesB_no (by assumption)) | exact meetB_n2 (treesB_no (by assumption)) | exact meetB_n3 (by omega) | exact meetB_n4 (by omega))]; done) | (rw [onT_yes (meetB_yes (treesB_yes (by assumption)) (treesB_yes (by assumption)) (by omega) (by omega)), show i = (a0 * y0).toNat from (by omega)])
  try simp only [nq] at hc4
  refine CW.skipS ?_
  refine CW.seq ?_
  refine CW.reg ?_
  obtain ⟨pa1, pa2, pa3, pa4, pa5, pa6, pa7⟩ := (by assumption : (1 ≤ a0 ∧ a0 ≤ 16) ∧ (1 ≤ a1 ∧ a1 ≤ 4) ∧ (xa2.length : Int) = a1 ∧ (xa3.length : Int) = a0 * a0 ∧ (xa4.length : Int) = a0 ∧ allIn xa2 0 (a0 - 1) = true ∧ allIn xa3 0 (a0 - 1) = true); obtain ⟨pb1, pb2, pb3, pb4, pb5, pb6, pb7⟩ := (by assumption : (1 ≤ y0 ∧ y0 ≤ 16) ∧ (1 ≤ y1 ∧ y1 ≤ 4) ∧ (xy2.length : Int) = y1 ∧ (xy3.length : Int) = y0 * y0 ∧ (xy4.length : Int) = y0 ∧ allIn xy2 0 (y0 - 1) = true ∧ allIn xy3 0 (y0 - 1) = true); have hm1 := pair_le (x := a0) (n := y0) (by omega) (by omega)
  refine WL.pure rfl rfl rfl (PV.fieldAddr T.fl72_0 rfl hb1.cells) ?_
  refine WL.pure rfl rfl rfl (PV.load1 T.na2 rfl hb1.cells (Ext.refl _) rfl) ?_
  refine WL.pure rfl rfl rfl (PV.fieldAddr T.fl72_0 rfl hb2.cells) ?_
  refine WL.pure rfl rfl rfl (PV.load1 T.na2 rfl hb2.cells (Ext.refl _) rfl) ?_
  refine WL.pure rfl rfl rfl (PV.mul rfl rfl (by constructor <;> omega)) ?_
  refine WL.pure rfl rfl rfl (PV.fieldAddr T.fl72_1 rfl hb1.cells) ?_
  refine WL.pure rfl rfl rfl (PV.load1 T.na2 rfl hb1.cells (Ext.refl _) rfl) ?_
  refine WL.pure rfl rfl rfl (PV.build (ks := [0, 1]) (os := [.tmp 38, .tmp 40]) (css := [[_], [_]]) (ds := [_, _, _, _, _]) T.bu72 rfl rfl ⟨rfl, rfl, trivial⟩ rfl) ?_
  refine WL.op rfl (OpK.alloc rfl T.zv72 rfl (fun b4 w10 hXw10 hb4 hge4 => ?_))
  have hl4 := Lo.new hB hge4
  have hd1_4 := Dj.new hb1.ltO hge4
  have hd2_4 := Dj.new hb2.ltO hge4
  have hd3_4 := Dj.new hb3.ltO hge4
  have hB := hB.trans hXw10
  have hb1 := hb1.up hXw10
  have hb2 := hb2.up hXw10
  have hb3 := hb3.up hXw10
  refine WL.op rfl (OpK.storeA T.sz72 rfl rfl rfl rfl (by simp [Value.oneCell'] <;> first | done | (repeat' apply And.intro) <;> first | rfl | exact Inn.one1 (by assumption) (by omega) | exact Osl.oneCell (by assumption) | exact Osn.oneCell (by assumption) | exact Rd.oneCell (by assumption) | exact Rd.oneCell (NL.rd (by assumption)) | assumption) hb4 (fun w11 hXw11 hb4 => ?_))
  have hB := hB.updL hXw11 hl4
  have hb1 := hb1.updD hXw11 hd1_4
  have hb2 := hb2.updD hXw11 hd2_4
  have hb3 := hb3.updD hXw11 hd3_4
  refine WL.nilS ?_
  refine CW.seq ?_
  refine CW.seq ?_
  refine CW.reg ?_
  refine WL.pure rfl rfl rfl (PV.fieldAddr T.fl72_1 rfl hb1.cells) ?_
  refine WL.pure rfl rfl rfl (PV.load1 T.na2 rfl hb1.cells (Ext.refl _) rfl) ?_
  refine WL.mv rfl rfl ?_
  refine WL.nilS ?_
  refine CW.block ?_
  have ho5 : Osl VI w11 none (.slice none 0 0) [] := (Osl.nil _ _)
  have hl5 : Lo w none := Lo.nl _
  have hd1_5 : Dj (some b1.block) none := Dj.nlR _
  have hd2_5 : Dj (some b2.block) none := Dj.nlR _
  have hd3_5 : Dj (some b3.block) none := Dj.nlR _
  have hd4_5 : Dj (some b4.block) none := Dj.nlR _
  have ho6 : Osl VI w11 none (.slice none 0 0) [] := (Osl.nil _ _)
  have hl6 : Lo w none := Lo.nl _
  have hd1_6 : Dj (some b1.block) none := Dj.nlR _
  have hd2_6 : Dj (some b2.block) none := Dj.nlR _
  have hd3_6 : Dj (some b3.block) none := Dj.nlR _
  have hd4_6 : Dj (some b4.block) none := Dj.nlR _
  have hd5_6 : Dj none none := Dj.nlR _
  have ho7 : Osl VB w11 none (.slice none 0 0) [] := (Osl.nil _ _)
  have hl7 : Lo w none := Lo.nl _
  have hd1_7 : Dj (some b1.block) none := Dj.nlR _
  have hd2_7 : Dj (some b2.block) none := Dj.nlR _
  have hd3_7 : Dj (some b3.block) none := Dj.nlR _
  have hd4_7 : Dj (some b4.block) none := Dj.nlR _
  have hd5_7 : Dj none none := Dj.nlR _
  have hd6_7 : Dj none none := Dj.nlR _
  have hlt1 := hb1.ltO
  have hlt2 := hb2.ltO
  have hlt3 := hb3.ltO
  have hlt4 := hb4.ltO
  have hlt5 := ho5.ltO
  have hlt6 := ho6.ltO
  have hlt7 := ho7.ltO
  refine CW.loop (σk := [(2, _), (3, _), (4, _), (6, _), (43, _)]) (fun ρ wz m => ∃ (v8 : Value) (og8 : Option Nat) (v9 : Value) (og9 : Option Nat) (v10 : Value) (og10 : Option Nat) (k : Nat), ρ = [(44, .int .i64 (k : Nat))] ∧ m = a1.toNat - k ∧ UpdL [none, none, none, (some b4.block)] w11 wz ∧ Osl VI wz og8 v8 (mapR (leafM y0 xa2 xy2) k) ∧ OgR w11 none og8 ∧ Osl VI wz og9 v9 (([] : List Int)) ∧ OgR w11 none og9 ∧ Osl VB wz og10 v10 (([] : List Bool)) ∧ OgR w11 none og10 ∧ Bx wz b4 [.int .i64 (a0 * y0), .int .i64 a1, v8, v9, v10] ∧ Dj og8 og9 ∧ Dj og8 og10 ∧ Dj og9 og10 ∧ ((k : Int) ≤ a1)) (ρ₀ := [(44, _)]) (m₀ := _) ⟨rfl, rfl, rfl, rfl, rfl, rfl, trivial⟩ ⟨(.slice none 0 0), none, (.slice none 0 0), none, (.slice none 0 0), none, 0, rfl, rfl, (UpdL.refl _ _), osE ho5 (by rfl), OgR.refl _ _, osE ho6 (by rfl), OgR.refl _ _, osE ho7 (by rfl), OgR.refl _ _, bxE hb4 (by first | rfl | (simp_all; done) | (simp_all; omega)), hd5_6, hd5_7, hd6_7, (by first | omega | rfl | (simp; done) | assumption | (simp_all; done))⟩ ?_
  rintro _ wl1 _ ⟨v8, og8, v9, og9, v10, og10, k, rfl, rfl, hU0, ho8, ha8, ho9, ha9, ho10, ha10, hb4, hd8_9, hd8_10, hd9_10, hk⟩
  have hb1 := hb1.loop hU0 ⟨hd1_5, hd1_6, hd1_7, hd1_4, trivial⟩
  have hb2 := hb2.loop hU0 ⟨hd2_5, hd2_6, hd2_7, hd2_4, trivial⟩
  have hb3 := hb3.loop hU0 ⟨hd3_5, hd3_6, hd3_7, hd3_4, trivial⟩
  have hl8 := Lo.ogr hl5 hB ha8
  have hg0_8 := ha8
  have hk0_8 : OkB [none, none, none, (some b4.block)] w11 og8 := OkB.ogr (OkB.mem (by simp)) (Nat.le_refl _) ha8
  have hd1_8 := Dj.ogr hd1_5 hlt1 ha8
  have hd2_8 := Dj.ogr hd2_5 hlt2 ha8
  have hd3_8 := Dj.ogr hd3_5 hlt3 ha8
  have hd4_8 := Dj.ogr hd4_5 hlt4 ha8
  have hl9 := Lo.ogr hl6 hB ha9
  have hg0_9 := ha9
  have hk0_9 : OkB [none, none, none, (some b4.block)] w11 og9 := OkB.ogr (OkB.mem (by simp)) (Nat.le_refl _) ha9
  have hd1_9 := Dj.ogr hd1_6 hlt1 ha9
  have hd2_9 := Dj.ogr hd2_6 hlt2 ha9
  have hd3_9 := Dj.ogr hd3_6 hlt3 ha9
  have hd4_9 := Dj.ogr hd4_6 hlt4 ha9
  have hl10 := Lo.ogr hl7 hB ha10
  have hg0_10 := ha10
  have hk0_10 : OkB [none, none, none, (some b4.block)] w11 og10 := OkB.ogr (OkB.mem (by simp)) (Nat.le_refl _) ha10
  have hd1_10 := Dj.ogr hd1_7 hlt1 ha10
  have hd2_10 := Dj.ogr hd2_7 hlt2 ha10
  have hd3_10 := Dj.ogr hd3_7 hlt3 ha10
  have hd4_10 := Dj.ogr hd4_7 hlt4 ha10
  have hk0_4 : OkB [none, none, none, (some b4.block)] w11 (some b4.block) := OkB.mem (by simp)
  have hB := hB.loop hU0 ⟨hl5, hl6, hl7, hl4, trivial⟩
  have hml := mapR_len (leafM y0 xa2 xy2) k
  refine CW.seq ?_
  refine CW.reg ?_
  refine WL.pure rfl rfl rfl (PV.lss rfl rfl) ?_
  refine WL.nilS ?_
  refine CW.seq ?_
  refine CW.cond rfl (fun hc5 => ?_) (fun hc5 => ?_)
  · skip
    try simp only [nq] at hc5
    refine CW.skipS ?_
    refine CW.seq ?_
    refine CW.block ?_
    refine CW.seq ?_
    refine CW.reg ?_
    refine WL.mv rfl rfl ?_
    refine WL.asg rfl rfl ?_
    refine WL.nilS ?_
    refine CW.draw T.mixed (by kernel_rfl) (fun _ _ _ _ _ h => h) (fun w8 w9 => Upd og8 w8 w9) 15 (.take 0 (.take 1 (.take 2 (.take 3 (.take 5 (.take 6 (.take 8 (.take 9 (.must 4 (.take 7 (.must 10 (.take 11 (.must 12 (.must 13 (.take 14 (.must 15 .done)))))))))))))))) (by kernel_rfl) (fun w12 hXd => ?_)
    have hB := hB.trans hXd
    have hb1 := hb1.up hXd
    have hb2 := hb2.up hXd
    have hb3 := hb3.up hXd
    have hb4 := hb4.up hXd
    have ho8 := ho8.up hXd
    have ho9 := ho9.up hXd
    have ho10 := ho10.up hXd
    have hU0 := hU0.ext hXd
    have hBr := hB
    have hS : Upd og8 w12 w12 := Ext.toUpd (Ext.refl _)
    have hl := allIn_get (k := ((k : Int)).toNat) pa6 (by omega); have hlb := allIn_get (k := ((k : Int)).toNat) pb6 (by omega); have hlp := pair_le (x := xa2.getD ((k : Int)).toNat 0) (n := y0) (by omega) (by omega); have hl0 : ((k : Int)).toNat = k := Int.toNat_natCast k
    refine HP.take rfl rfl rfl rfl hS (fun wS hS1 => PV.fieldAddr T.fl72_2 rfl hb4.cells) ?_
    refine HP.take rfl rfl rfl rfl hS (fun wS hS1 => PV.load1 T.na28 rfl (Bx.cells (Bx.updD (by assumption) hS1 (by first | assumption | exact Dj.symm (by assumption)))) (Ext.refl _) rfl) ?_
    refine HP.take rfl rfl rfl rfl hS (fun wS hS1 => PV.loadA T.ag72 rfl (Bx.cells (Bx.updD (by assumption) hS1 (by first | assumption | exact Dj.symm (by assumption)))) (Ext.refl _) rfl) ?_
    refine HP.take rfl rfl rfl rfl hS (fun wS hS1 => PV.move rfl) ?_
    refine HP.take rfl rfl rfl rfl hS (fun wS hS1 => PV.fieldAddr T.fl72_0 rfl hb2.cells) ?_
    refine HP.take rfl rfl rfl rfl hS (fun wS hS1 => PV.load1 T.na2 rfl (Bx.cells (Bx.updD (by assumption) hS1 (by first | assumption | exact Dj.symm (by assumption)))) (Ext.refl _) rfl) ?_
    refine HP.take rfl rfl rfl rfl hS (fun wS hS1 => PV.loadA T.ag72 rfl (Bx.cells (Bx.updD (by assumption) hS1 (by first | assumption | exact Dj.symm (by assumption)))) (Ext.refl _) rfl) ?_
    refine HP.take rfl rfl rfl rfl hS (fun wS hS1 => PV.move rfl) ?_
    refine HP.must rfl rfl (OpK.callR rfl T.cf137 rfl (c_impl_TreeMachine_leaf (by first | assumption | exact Rd.up (by assumption) hB | exact Osl.rd (by assumption) | exact Osn.rdR (by assumption) | exact NL.rd (by assumption) | exact rdII (by assumption) (by assumption) | exact Inn.rd (by assumption) (by omega)) (by first | assumption | exact Rd.up (by assumption) hB | exact Osl.rd (by assumption) | exact Osn.rdR (by assumption) | exact NL.rd (by assumption) | exact rdII (by assumption) (by assumption) | exact Inn.rd (by assumption) (by omega)) (by first | assumption | exact Rd.up (by assumption) hB | exact Osl.rd (by assumption) | exact Osn.rdR (by assumption) | exact NL.rd (by assumption) | exact rdII (by assumption) (by assumption) | exact Inn.rd (by assumption) (by omega)) (by first | assumption | omega | (simp only [marks_len, marksB_len, marksR_len]; omega))) (fun w13 hXw13 => ?_))
    refine ⟨Upd.trans hS (Ext.toUpd hXw13), ?_⟩
    have hS := Upd.trans hS (Ext.toUpd hXw13)
    have hB := hB.trans hXw13
    have hb1 := hb1.up hXw13
    have hb2 := hb2.up hXw13
    have hb3 := hb3.up hXw13
    have hb4 := hb4.up hXw13
    have ho8 := ho8.up hXw13
    have ho9 := ho9.up hXw13
    have ho10 := ho10.up hXw13
    have hU0 := hU0.ext hXw13
    refine HP.take rfl rfl rfl rfl hS (fun wS hS1 => PV.mul rfl rfl (by constructor <;> omega)) ?_
    refine HP.must rfl rfl (OpK.callR rfl T.cf137 rfl (c_impl_TreeMachine_leaf (by first | assumption | exact Rd.up (by assumption) hB | exact Osl.rd (by assumption) | exact Osn.rdR (by assumption) | exact NL.rd (by assumption) | exact rdII (by assumption) (by assumption) | exact Inn.rd (by assumption) (by omega)) (by first | assumption | exact Rd.up (by assumption) hB | exact Osl.rd (by assumption) | exact Osn.rdR (by assumption) | exact NL.rd (by assumption) | exact rdII (by assumption) (by assumption) | exact Inn.rd (by assumption) (by omega)) (by first | assumption | exact Rd.up (by assumption) hB | exact Osl.rd (by assumption) | exact Osn.rdR (by assumption) | exact NL.rd (by assumption) | exact rdII (by assumption) (by assumption) | exact Inn.rd (by assumption) (by omega)) (by first | assumption | omega | (simp only [marks_len, marksB_len, marksR_len]; omega))) (fun w14 hXw14 => ?_))
    refine ⟨Upd.trans hS (Ext.toUpd hXw14), ?_⟩
    have hS := Upd.trans hS (Ext.toUpd hXw14)
    have hB := hB.trans hXw14
    have hb1 := hb1.up hXw14
    have hb2 := hb2.up hXw14
    have hb3 := hb3.up hXw14
    have hb4 := hb4.up hXw14
    have ho8 := ho8.up hXw14
    have ho9 := ho9.up hXw14
    have ho10 := ho10.up hXw14
    have hU0 := hU0.ext hXw14
    refine HP.take rfl rfl rfl rfl hS (fun wS hS1 => PV.add rfl rfl (by constructor <;> omega)) ?_
    refine HP.must rfl rfl (OpK.buildS VI (os := [.tmp 58]) [_] rfl T.sl28 rfl rfl T.zv2 rfl (by intro z hz; first | rfl | (simp only [List.mem_cons, List.not_mem_nil, or_false] at hz; subst hz; exact (by first | exact Rd.cells1 (by assumption) | exact Osl.cells1 (by assumption) | exact Osn.cells1 (by assumption) | exact Rd.cells1 (NL.rd (by assumption)) | exact Inn.cell1 (by assumption) (by omega) | assumption | rfl))) rfl (fun v12 g12 w15 hXw15 ho12 hge12 => ?_))
    have hl12 := Lo.new hB hge12
    have hd1_12 := Dj.new hb1.ltO hge12
    have hd2_12 := Dj.new hb2.ltO hge12
    have hd3_12 := Dj.new hb3.ltO hge12
    have hd4_12 := Dj.new hb4.ltO hge12
    have hd8_12 := Dj.new ho8.ltO hge12
    have hd9_12 := Dj.new ho9.ltO hge12
    have hd10_12 := Dj.new ho10.ltO hge12
    have hk0_12 := OkN.new hU0 hge12
    have hg0_12 := OgR.new hU0.size hge12
    refine ⟨Upd.trans hS (Ext.toUpd hXw15), ?_⟩
    have hS := Upd.trans hS (Ext.toUpd hXw15)
    have hB := hB.trans hXw15
    have hb1 := hb1.up hXw15
    have hb2 := hb2.up hXw15
    have hb3 := hb3.up hXw15
    have hb4 := hb4.up hXw15
    have ho8 := ho8.up hXw15
    have ho9 := ho9.up hXw15
    have ho10 := ho10.up hXw15
    have hU0 := hU0.ext hXw15
    refine HP.must rfl rfl (OpK.appendS (f := VI) rfl T.sl28 T.zv2 rfl rfl ho8 rfl (Osl.src ho12 (fun _ => rfl)) (by first | (simp only [List.length_cons, List.length_nil]; omega) | (simp only [List.length_append, List.length_cons, List.length_nil]; omega)) (fun v13 og13 w16 hXw16 ho13 hap13 => ?_))
    have hl13 := Lo.app hl8 hB hap13
    have hd1_13 := Dj.app hd1_8 hb1.ltO hap13
    have hd2_13 := Dj.app hd2_8 hb2.ltO hap13
    have hd3_13 := Dj.app hd3_8 hb3.ltO hap13
    have hd4_13 := Dj.app hd4_8 hb4.ltO hap13
    have hd9_13 := Dj.app (Dj.symm hd8_9) ho9.ltO hap13
    have hd10_13 := Dj.app (Dj.symm hd8_10) ho10.ltO hap13
    have hd12_13 := Dj.app (Dj.symm hd8_12) ho12.ltO hap13
    have hk0_13 := OkN.app hU0 hk0_8 hap13
    have hg0_13 := OgR.app hg0_8 hU0.size hap13
    refine ⟨Upd.trans hS hXw16, ?_⟩
    have hS := Upd.trans hS hXw16
    have hB := hB.updL hXw16 hl8
    have hb1 := hb1.updD hXw16 hd1_8
    have hb2 := hb2.updD hXw16 hd2_8
    have hb3 := hb3.updD hXw16 hd3_8
    have hb4 := hb4.updD hXw16 hd4_8
    have ho9 := ho9.updD hXw16 (Dj.symm hd8_9)
    have ho10 := ho10.updD hXw16 (Dj.symm hd8_10)
    have ho12 := ho12.updD hXw16 (Dj.symm hd8_12)
    have hU0 := hU0.step hXw16 hk0_8
    refine HP.take rfl rfl rfl rfl hS (fun wS hS1 => PV.fieldAddr T.fl72_2 rfl hb4.cells) ?_
    refine HP.last rfl rfl (OpK.storeB T.sz28 rfl rfl (by first | rfl | exact Inn.one1 (by assumption) (by omega) | exact Osl.oneCell (by assumption) | exact Osn.oneCell (by assumption) | exact Rd.oneCell (by assumption) | exact Rd.oneCell (NL.rd (by assumption)) | assumption) hb4 rfl (fun w17 hXw17 hb4 => ?_))
    have hB := hB.updL hXw17 hl4
    have hb1 := hb1.updD hXw17 hd1_4
    have hb2 := hb2.updD hXw17 hd2_4
    have hb3 := hb3.updD hXw17 hd3_4
    have ho9 := ho9.updD hXw17 (Dj.symm hd4_9)
    have ho10 := ho10.updD hXw17 (Dj.symm hd4_10)
    have ho12 := ho12.updD hXw17 (Dj.symm hd4_12)
    have ho13 := ho13.updD hXw17 (Dj.symm hd4_13)
    have hU0 := hU0.step hXw17 hk0_4
    refine HP.done ?_
    refine NQ.block ?_
    refine NQ.then ?_
    refine CW.reg ?_
    refine WL.pure rfl rfl rfl (PV.add rfl rfl (by constructor <;> omega)) ?_
    refine WL.mv rfl rfl ?_
    refine WL.nil ?_
    refine NQ.next (ρ := [(44, _)]) ⟨rfl, rfl, rfl, rfl, rfl, rfl, trivial⟩ ?_
    exact ⟨_, ⟨v13, og13, v9, og9, v10, og10, k + 1, rfl, rfl, hU0, osE ho13 (by exact mapR_put0 rfl), (by first | exact hg0_13 | exact OgR.weak hg0_13), osE ho9 (by first | rfl | (simp_all; done) | (simp_all; omega)), (by first | exact hg0_9 | exact OgR.weak hg0_9), osE ho10 (by first | rfl | (simp_all; done) | (simp_all; omega)), (by first | exact hg0_10 | exact OgR.weak hg0_10), bxE hb4 (by first | rfl | (simp_all; done) | (simp_all; omega)), (Dj.symm hd9_13), (Dj.symm hd10_13), hd9_10, (by first | omega | assumption | (simp_all; done) | (simp_all; omega))⟩, by omega⟩
  try simp only [nq] at hc5
  refine CW.exit ?_
  refine XQ.then ?_
  refine XQ.then ?_
  refine XQ.here ?_
  refine NQ.then ?_
  refine CW.seq ?_
  refine CW.seq ?_
  refine CW.reg ?_
  refine WL.pure rfl rfl rfl (PV.fieldAddr T.fl72_0 rfl hb4.cells) ?_
  refine WL.pure rfl rfl rfl (PV.load1 T.na2 rfl hb4.cells (Ext.refl _) rfl) ?_
  refine WL.mv rfl rfl ?_
  refine WL.nilS ?_
  refine CW.block ?_
  have hlt1 := hb1.ltO
  have hlt2 := hb2.ltO
  have hlt3 := hb3.ltO
  have hlt4 := hb4.ltO
  have hlt8 := ho8.ltO
  have hlt9 := ho9.ltO
  have hlt10 := ho10.ltO
  refine CW.loop (σk := [(2, _), (3, _), (4, _), (6, _), (64, _)]) (fun ρ wz m => ∃ (v14 : Value) (og14 : Option Nat) (v15 : Value) (og15 : Option Nat) (v16 : Value) (og16 : Option Nat) (i : Nat), ρ = [(65, .int .i64 (i : Nat))] ∧ m = (a0 * y0).toNat - i ∧ UpdL [og8, og9, og10, (some b4.block)] wl1 wz ∧ Osl VI wz og14 v14 (mapR (leafM y0 xa2 xy2) a1.toNat) ∧ OgR wl1 og8 og14 ∧ Osl VI wz og15 v15 (rowsM (a0 * y0).toNat (nextM a0 y0 xa3 xy3) i) ∧ OgR wl1 og9 og15 ∧ Osl VB wz og16 v16 (mapR (endM y0 xa4 xy4) i) ∧ OgR wl1 og10 og16 ∧ Bx wz b4 [.int .i64 (a0 * y0), .int .i64 a1, v14, v15, v16] ∧ Dj og14 og15 ∧ Dj og14 og16 ∧ Dj og15 og16 ∧ ((i : Int) ≤ a0 * y0)) (ρ₀ := [(65, _)]) (m₀ := _) ⟨rfl, rfl, rfl, rfl, rfl, rfl, trivial⟩ ⟨v8, og8, v9, og9, v10, og10, 0, rfl, rfl, (UpdL.refl _ _), osE ho8 (by rw [show k = a1.toNat from (by omega)]), OgR.refl _ _, osE ho9 (by rfl), OgR.refl _ _, osE ho10 (by rfl), OgR.refl _ _, bxE hb4 (by first | rfl | (simp_all; done) | (simp_all; omega)), hd8_9, hd8_10, hd9_10, (by first | omega | rfl | (simp; done) | assumption | (simp_all; done))⟩ ?_
  rintro _ wl2 _ ⟨v14, og14, v15, og15, v16, og16, i, rfl, rfl, hU1, ho14, ha14, ho15, ha15, ho16, ha16, hb4, hd14_15, hd14_16, hd15_16, hi⟩
  have hb1 := hb1.loop hU1 ⟨hd1_8, hd1_9, hd1_10, hd1_4, trivial⟩
  have hb2 := hb2.loop hU1 ⟨hd2_8, hd2_9, hd2_10, hd2_4, trivial⟩
  have hb3 := hb3.loop hU1 ⟨hd3_8, hd3_9, hd3_10, hd3_4, trivial⟩
  have hl14 := Lo.ogr hl8 hB ha14
  have hg1_14 := ha14
  have hk1_14 : OkB [og8, og9, og10, (some b4.block)] wl1 og14 := OkB.ogr (OkB.mem (by simp)) (Nat.le_refl _) ha14
  have hd1_14 := Dj.ogr hd1_8 hlt1 ha14
  have hd2_14 := Dj.ogr hd2_8 hlt2 ha14
  have hd3_14 := Dj.ogr hd3_8 hlt3 ha14
  have hd4_14 := Dj.ogr hd4_8 hlt4 ha14
  have hl15 := Lo.ogr hl9 hB ha15
  have hg1_15 := ha15
  have hk1_15 : OkB [og8, og9, og10, (some b4.block)] wl1 og15 := OkB.ogr (OkB.mem (by simp)) (Nat.le_refl _) ha15
  have hd1_15 := Dj.ogr hd1_9 hlt1 ha15
  have hd2_15 := Dj.ogr hd2_9 hlt2 ha15
  have hd3_15 := Dj.ogr hd3_9 hlt3 ha15
  have hd4_15 := Dj.ogr hd4_9 hlt4 ha15
  have hl16 := Lo.ogr hl10 hB ha16
  have hg1_16 := ha16
  have hk1_16 : OkB [og8, og9, og10, (some b4.block)] wl1 og16 := OkB.ogr (OkB.mem (by simp)) (Nat.le_refl _) ha16
  have hd1_16 := Dj.ogr hd1_10 hlt1 ha16
  have hd2_16 := Dj.ogr hd2_10 hlt2 ha16
  have hd3_16 := Dj.ogr hd3_10 hlt3 ha16
  have hd4_16 := Dj.ogr hd4_10 hlt4 ha16
  have hk1_4 : OkB [og8, og9, og10, (some b4.block)] wl1 (some b4.block) := OkB.mem (by simp)
  have hB := hB.loop hU1 ⟨hl8, hl9, hl10, hl4, trivial⟩
  have hel := mapR_len (endM y0 xa4 xy4) i; have hrl := rowsM_len (m := (a0 * y0).toNat) (f := nextM a0 y0 xa3 xy3) (by omega) i
  refine CW.seq ?_
  refine CW.reg ?_
  refine WL.pure rfl rfl rfl (PV.lss rfl rfl) ?_
  refine WL.nilS ?_
  refine CW.seq ?_
  refine CW.cond rfl (fun hc6 => ?_) (fun hc6 => ?_)
  · skip
    try simp only [nq] at hc6
    refine CW.skipS ?_
    refine CW.seq ?_
    refine CW.block ?_
    refine CW.seq ?_
    refine CW.reg ?_
    refine WL.mv rfl rfl ?_
    refine WL.asg rfl rfl ?_
    refine WL.nilS ?_
    refine CW.seq ?_
    refine CW.draw T.mixed (by kernel_rfl) (fun _ _ _ _ _ h => h) (fun w8 w9 => Upd og16 w8 w9) 23 (.take 0 (.take 1 (.take 2 (.take 3 (.take 4 (.take 5 (.take 6 (.take 7 (.take 8 (.take 9 (.take 10 (.split (.take 11 (.take 12 (.take 13 (.take 14 (.take 15 (.take 16 (.take 17 (.take 18 (.take 19 (.must 20 (.must 21 (.take 22 (.must 23 .done))))))))))))) (.take 11 (.take 12 (.take 13 (.take 14 (.take 15 (.take 16 (.take 17 (.take 18 (.take 19 (.must 20 (.must 21 (.take 22 (.must 23 .done))))))))))))))))))))))))) (by kernel_rfl) (fun w18 hXd => ?_)
    have hB := hB.trans hXd
    have hb1 := hb1.up hXd
    have hb2 := hb2.up hXd
    have hb3 := hb3.up hXd
    have hb4 := hb4.up hXd
    have ho14 := ho14.up hXd
    have ho15 := ho15.up hXd
    have ho16 := ho16.up hXd
    have hU1 := hU1.ext hXd
    have hBr := hB
    have hS : Upd og16 w18 w18 := Ext.toUpd (Ext.refl _)
    have di := dm (s := a0) (n := y0) (i := (i : Int)) (by omega) (by omega)
    refine HP.take rfl rfl rfl rfl hS (fun wS hS1 => PV.fieldAddr T.fl72_4 rfl hb4.cells) ?_
    refine HP.take rfl rfl rfl rfl hS (fun wS hS1 => PV.load1 T.na62 rfl (Bx.cells (Bx.updD (by assumption) hS1 (by first | assumption | exact Dj.symm (by assumption)))) (Ext.refl _) rfl) ?_
    refine HP.take rfl rfl rfl rfl hS (fun wS hS1 => PV.fieldAddr T.fl72_4 rfl hb1.cells) ?_
    refine HP.take rfl rfl rfl rfl hS (fun wS hS1 => PV.load1 T.na62 rfl (Bx.cells (Bx.updD (by assumption) hS1 (by first | assumption | exact Dj.symm (by assumption)))) (Ext.refl _) rfl) ?_
    refine HP.take rfl rfl rfl rfl hS (fun wS hS1 => PV.move rfl) ?_
    refine HP.take rfl rfl rfl rfl hS (fun wS hS1 => PV.fieldAddr T.fl72_0 rfl hb2.cells) ?_
    refine HP.take rfl rfl rfl rfl hS (fun wS hS1 => PV.load1 T.na2 rfl (Bx.cells (Bx.updD (by assumption) hS1 (by first | assumption | exact Dj.symm (by assumption)))) (Ext.refl _) rfl) ?_
    refine HP.take rfl rfl rfl rfl hS (fun wS hS1 => PV.quoN rfl rfl (by omega)) ?_
    first
      | refine HP.at (x := .tmp 71) (y := .tmp 75) (E := EB) (false) rfl rfl (by first | assumption | exact Inn.rd (by assumption) (by omega)) (by omega) (fun p1 csp1 hpp1 hcp1 hq => ?_)
      | refine HP.atZ (x := .tmp 71) (y := .tmp 75) (E := EB) (false) rfl rfl (by first | assumption | exact Inn.rd (by assumption) (by omega)) (by omega) (fun p1 csp1 hpp1 hzp1 hcp1 hq => ?_)
    cases hq
    refine HP.take rfl rfl rfl rfl hS (fun wS hS1 => (by first | exact PV.indexAddr hpp1 rfl rfl T.sl62 | exact PV.indexAddr hpp1 rfl (by rw [← hzp1]; rfl) T.sl62)) ?_
    refine HP.take rfl rfl rfl rfl hS (fun wS hS1 => (by first | exact PV.load0 T.na4 rfl (by first | exact Cells.up (by assumption) (hBr.updL hS1 hl16) | exact Bx.cells (Bx.updD (by assumption) hS1 (by first | assumption | exact Dj.symm (by assumption))) | exact Cells.upd (by assumption) hS1 (by simp)) (Ext.refl _) rfl | exact PV.load1 T.na4 rfl (by first | exact Cells.up (by assumption) (hBr.updL hS1 hl16) | exact Bx.cells (Bx.updD (by assumption) hS1 (by first | assumption | exact Dj.symm (by assumption))) | exact Cells.upd (by assumption) hS1 (by simp)) (Ext.refl _) rfl)) ?_
    refine HP.take rfl rfl rfl rfl hS (fun wS hS1 => PV.move rfl) ?_
    refine HP.split (t := 78) rfl (fun hc7 => ?_) (fun hc7 => ?_)
    rotate_left
    · skip
      try simp only [nq] at hc7
      refine HP.skip rfl rfl rfl rfl rfl rfl hS ?_
      refine HP.skip rfl rfl rfl rfl rfl rfl hS ?_
      refine HP.skip rfl rfl rfl rfl rfl rfl hS ?_
      refine HP.skip rfl rfl rfl rfl rfl rfl hS ?_
      refine HP.skip rfl rfl rfl rfl rfl rfl hS ?_
      refine HP.skip rfl rfl rfl rfl rfl rfl hS ?_
      refine HP.skip rfl rfl rfl rfl rfl rfl hS ?_
      refine HP.skip rfl rfl rfl rfl rfl rfl hS ?_
      refine HP.take rfl rfl rfl rfl hS (fun wS hS1 => PV.pickF rfl rfl) ?_
      refine HP.must rfl rfl (OpK.buildS VB (os := [.tmp 87]) [_] rfl T.sl62 rfl rfl T.zv4 rfl (by intro z hz; first | rfl | (simp only [List.mem_cons, List.not_mem_nil, or_false] at hz; subst hz; exact (by first | exact Rd.cells1 (by assumption) | exact Osl.cells1 (by assumption) | exact Osn.cells1 (by assumption) | exact Rd.cells1 (NL.rd (by assumption)) | exact Inn.cell1 (by assumption) (by omega) | assumption | rfl))) rfl (fun v18 g18 w19 hXw19 ho18 hge18 => ?_))
      have hl18 := Lo.new hB hge18
      have hd1_18 := Dj.new hb1.ltO hge18
      have hd2_18 := Dj.new hb2.ltO hge18
      have hd3_18 := Dj.new hb3.ltO hge18
      have hd4_18 := Dj.new hb4.ltO hge18
      have hd14_18 := Dj.new ho14.ltO hge18
      have hd15_18 := Dj.new ho15.ltO hge18
      have hd16_18 := Dj.new ho16.ltO hge18
      have hk1_18 := OkN.new hU1 hge18
      have hg1_18 := OgR.new hU1.size hge18
      refine ⟨Upd.trans hS (Ext.toUpd hXw19), ?_⟩
      have hS := Upd.trans hS (Ext.toUpd hXw19)
      have hB := hB.trans hXw19
      have hb1 := hb1.up hXw19
      have hb2 := hb2.up hXw19
      have hb3 := hb3.up hXw19
      have hb4 := hb4.up hXw19
      have ho14 := ho14.up hXw19
      have ho15 := ho15.up hXw19
      have ho16 := ho16.up hXw19
      have hU1 := hU1.ext hXw19
      refine HP.must rfl rfl (OpK.appendS (f := VB) rfl T.sl62 T.zv4 rfl rfl ho16 rfl (Osl.src ho18 (fun _ => rfl)) (by first | (simp only [List.length_cons, List.length_nil]; omega) | (simp only [List.length_append, List.length_cons, List.length_nil]; omega)) (fun v19 og19 w20 hXw20 ho19 hap19 => ?_))
      have hl19 := Lo.app hl16 hB hap19
      have hd1_19 := Dj.app hd1_16 hb1.ltO hap19
      have hd2_19 := Dj.app hd2_16 hb2.ltO hap19
      have hd3_19 := Dj.app hd3_16 hb3.ltO hap19
      have hd4_19 := Dj.app hd4_16 hb4.ltO hap19
      have hd14_19 := Dj.app hd14_16 ho14.ltO hap19
      have hd15_19 := Dj.app hd15_16 ho15.ltO hap19
      have hd18_19 := Dj.app (Dj.symm hd16_18) ho18.ltO hap19
      have hk1_19 := OkN.app hU1 hk1_16 hap19
      have hg1_19 := OgR.app hg1_16 hU1.size hap19
      refine ⟨Upd.trans hS hXw20, ?_⟩
      have hS := Upd.trans hS hXw20
      have hB := hB.updL hXw20 hl16
      have hb1 := hb1.updD hXw20 hd1_16
      have hb2 := hb2.updD hXw20 hd2_16
      have hb3 := hb3.updD hXw20 hd3_16
      have hb4 := hb4.updD hXw20 hd4_16
      have ho14 := ho14.updD hXw20 hd14_16
      have ho15 := ho15.updD hXw20 hd15_16
      have ho18 := ho18.updD hXw20 (Dj.symm hd16_18)
      have hU1 := hU1.step hXw20 hk1_16
      refine HP.take rfl rfl rfl rfl hS (fun wS hS1 => PV.fieldAddr T.fl72_4 rfl hb4.cells) ?_
      refine HP.last rfl rfl (OpK.storeB T.sz62 rfl rfl (by first | rfl | exact Inn.one1 (by assumption) (by omega) | exact Osl.oneCell (by assumption) | exact Osn.oneCell (by assumption) | exact Rd.oneCell (by assumption) | exact Rd.oneCell (NL.rd (by assumption)) | assumption) hb4 rfl (fun w21 hXw21 hb4 => ?_))
      have hB := hB.updL hXw21 hl4
      have hb1 := hb1.updD hXw21 hd1_4
      have hb2 := hb2.updD hXw21 hd2_4
      have hb3 := hb3.updD hXw21 hd3_4
      have ho14 := ho14.updD hXw21 (Dj.symm hd4_14)
      have ho15 := ho15.updD hXw21 (Dj.symm hd4_15)
      have ho18 := ho18.updD hXw21 (Dj.symm hd4_18)
      have ho19 := ho19.updD hXw21 (Dj.symm hd4_19)
      have hU1 := hU1.step hXw21 hk1_4
      refine HP.doneS ?_
      refine CW.seq ?_
      refine CW.reg ?_
      refine WL.pure rfl rfl rfl (PV.fieldAddr T.fl72_0 rfl hb4.cells) ?_
      refine WL.pure rfl rfl rfl (PV.load1 T.na2 rfl hb4.cells (Ext.refl _) rfl) ?_
      refine WL.mv rfl rfl ?_
      refine WL.nilS ?_
      refine CW.block ?_
      have hlt1 := hb1.ltO
      have hlt2 := hb2.ltO
      have hlt3 := hb3.ltO
      have hlt4 := hb4.ltO
      have hlt14 := ho14.ltO
      have hlt15 := ho15.ltO
      have hlt18 := ho18.ltO
      have hlt19 := ho19.ltO
      refine CW.loop (σk := [(2, _), (3, _), (4, _), (6, _), (8, _), (64, _), (65, _), (92, _)]) (fun ρ wz m => ∃ (v20 : Value) (og20 : Option Nat) (v21 : Value) (og21 : Option Nat) (v22 : Value) (og22 : Option Nat) (k : Nat), ρ = [(93, .int .i64 (k : Nat))] ∧ m = (a0 * y0).toNat - k ∧ UpdL [og14, og15, og19, (some b4.block)] w21 wz ∧ Osl VI wz og20 v20 (mapR (leafM y0 xa2 xy2) a1.toNat) ∧ OgR w21 og14 og20 ∧ Osl VI wz og21 v21 (rowsM (a0 * y0).toNat (nextM a0 y0 xa3 xy3) i ++ mapR (nextM a0 y0 xa3 xy3 i) k) ∧ OgR w21 og15 og21 ∧ Osl VB wz og22 v22 (mapR (endM y0 xa4 xy4) (i + 1)) ∧ OgR w21 og19 og22 ∧ Bx wz b4 [.int .i64 (a0 * y0), .int .i64 a1, v20, v21, v22] ∧ Dj og20 og21 ∧ Dj og20 og22 ∧ Dj og21 og22 ∧ ((k : Int) ≤ a0 * y0)) (ρ₀ := [(93, _)]) (m₀ := _) ⟨rfl, rfl, rfl, rfl, rfl, rfl, rfl, rfl, rfl, trivial⟩ ⟨v14, og14, v15, og15, v19, og19, 0, rfl, rfl, (UpdL.refl _ _), osE ho14 (by rfl), OgR.refl _ _, osE ho15 (by exact mapR_zero _ _), OgR.refl _ _, osE ho19 (by exact mapR_put0 (by first | exact endM_t (by assumption) | exact endM_f (by assumption))), OgR.refl _ _, bxE hb4 (by first | rfl | (simp_all; done) | (simp_all; omega)), hd14_15, hd14_19, hd15_19, (by first | omega | rfl | (simp; done) | assumption | (simp_all; done))⟩ ?_
      rintro _ wl3 _ ⟨v20, og20, v21, og21, v22, og22, k, rfl, rfl, hU2, ho20, ha20, ho21, ha21, ho22, ha22, hb4, hd20_21, hd20_22, hd21_22, hk⟩
      have hU1 := hU1.trans hU2 ⟨hk1_14, hk1_15, hk1_19, hk1_4, trivial⟩
      have hb1 := hb1.loop hU2 ⟨hd1_14, hd1_15, hd1_19, hd1_4, trivial⟩
      have hb2 := hb2.loop hU2 ⟨hd2_14, hd2_15, hd2_19, hd2_4, trivial⟩
      have hb3 := hb3.loop hU2 ⟨hd3_14, hd3_15, hd3_19, hd3_4, trivial⟩
      have ho18 := ho18.loop hU2 ⟨(Dj.symm hd14_18), (Dj.symm hd15_18), hd18_19, (Dj.symm hd4_18), trivial⟩
      have hl20 := Lo.ogr hl14 hB ha20
      have hg2_20 := ha20
      have hk2_20 : OkB [og14, og15, og19, (some b4.block)] w21 og20 := OkB.ogr (OkB.mem (by simp)) (Nat.le_refl _) ha20
      have hk1_20 := OkB.ogr hk1_14 (by first | assumption | exact UpdL.size (by assumption)) ha20
      have hg1_20 := OgR.trans hg1_14 (by first | assumption | exact UpdL.size (by assumption)) ha20
      have hd1_20 := Dj.ogr hd1_14 hlt1 ha20
      have hd2_20 := Dj.ogr hd2_14 hlt2 ha20
      have hd3_20 := Dj.ogr hd3_14 hlt3 ha20
      have hd4_20 := Dj.ogr hd4_14 hlt4 ha20
      have hd18_20 := Dj.ogr (Dj.symm hd14_18) hlt18 ha20
      have hl21 := Lo.ogr hl15 hB ha21
      have hg2_21 := ha21
      have hk2_21 : OkB [og14, og15, og19, (some b4.block)] w21 og21 := OkB.ogr (OkB.mem (by simp)) (Nat.le_refl _) ha21
      have hk1_21 := OkB.ogr hk1_15 (by first | assumption | exact UpdL.size (by assumption)) ha21
      have hg1_21 := OgR.trans hg1_15 (by first | assumption | exact UpdL.size (by assumption)) ha21
      have hd1_21 := Dj.ogr hd1_15 hlt1 ha21
      have hd2_21 := Dj.ogr hd2_15 hlt2 ha21
      have hd3_21 := Dj.ogr hd3_15 hlt3 ha21
      have hd4_21 := Dj.ogr hd4_15 hlt4 ha21
      have hd18_21 := Dj.ogr (Dj.symm hd15_18) hlt18 ha21
      have hl22 := Lo.ogr hl19 hB ha22
      have hg2_22 := ha22
      have hk2_22 : OkB [og14, og15, og19, (some b4.block)] w21 og22 := OkB.ogr (OkB.mem (by simp)) (Nat.le_refl _) ha22
      have hk1_22 := OkB.ogr hk1_19 (by first | assumption | exact UpdL.size (by assumption)) ha22
      have hg1_22 := OgR.trans hg1_19 (by first | assumption | exact UpdL.size (by assumption)) ha22
      have hd1_22 := Dj.ogr hd1_19 hlt1 ha22
      have hd2_22 := Dj.ogr hd2_19 hlt2 ha22
      have hd3_22 := Dj.ogr hd3_19 hlt3 ha22
      have hd4_22 := Dj.ogr hd4_19 hlt4 ha22
      have hd18_22 := Dj.ogr hd18_19 hlt18 ha22
      have hk2_4 : OkB [og14, og15, og19, (some b4.block)] w21 (some b4.block) := OkB.mem (by simp)
      have hB := hB.loop hU2 ⟨hl14, hl15, hl19, hl4, trivial⟩
      have hnl := mapR_len (nextM a0 y0 xa3 xy3 i) k
      refine CW.seq ?_
      refine CW.reg ?_
      refine WL.pure rfl rfl rfl (PV.lss rfl rfl) ?_
      refine WL.nilS ?_
      refine CW.seq ?_
      refine CW.cond rfl (fun hc8 => ?_) (fun hc8 => ?_)
      · skip
        try simp only [nq] at hc8
        refine CW.skipS ?_
        refine CW.seq ?_
        refine CW.block ?_
        refine CW.seq ?_
        refine CW.reg ?_
        refine WL.mv rfl rfl ?_
        refine WL.asg rfl rfl ?_
        refine WL.nilS ?_
        refine CW.draw T.mixed (by kernel_rfl) (fun _ _ _ _ _ h => h) (fun w8 w9 => Upd og21 w8 w9) 29 (.take 0 (.take 1 (.take 2 (.take 3 (.take 4 (.take 5 (.take 6 (.take 7 (.take 8 (.take 9 (.take 10 (.take 12 (.take 13 (.take 15 (.take 16 (.take 17 (.take 18 (.take 19 (.take 20 (.take 21 (.take 22 (.take 23 (.must 11 (.take 14 (.must 24 (.take 25 (.must 26 (.must 27 (.take 28 (.must 29 .done)))))))))))))))))))))))))))))) (by kernel_rfl) (fun w22 hXd => ?_)
        have hB := hB.trans hXd
        have hb1 := hb1.up hXd
        have hb2 := hb2.up hXd
        have hb3 := hb3.up hXd
        have hb4 := hb4.up hXd
        have ho18 := ho18.up hXd
        have ho20 := ho20.up hXd
        have ho21 := ho21.up hXd
        have ho22 := ho22.up hXd
        have hU1 := hU1.ext hXd
        have hU2 := hU2.ext hXd
        have hBr := hB
        have hS : Upd og21 w22 w22 := Ext.toUpd (Ext.refl _)
        have di := dm (s := a0) (n := y0) (i := (i : Int)) (by omega) (by omega); have dk := dm (s := a0) (n := y0) (i := (k : Int)) (by omega) (by omega); have ix := sq_idx (s := a0) (q := (i : Int).tdiv y0) (r := (k : Int).tdiv y0) (n := xa3.length) (by omega) (by omega) (by omega) (by omega); have iy := sq_idx (s := y0) (q := (i : Int).tmod y0) (r := (k : Int).tmod y0) (n := xy3.length) (by omega) (by omega) (by omega) (by omega); have vx := allIn_get (k := ((i : Int).tdiv y0 * a0 + (k : Int).tdiv y0).toNat) pa7 (by omega); have vy := allIn_get (k := ((i : Int).tmod y0 * y0 + (k : Int).tmod y0).toNat) pb7 (by omega); have vp := pair_le (x := xa3.getD ((i : Int).tdiv y0 * a0 + (k : Int).tdiv y0).toNat 0) (n := y0) (by omega) (by omega)
        refine HP.take rfl rfl rfl rfl hS (fun wS hS1 => PV.fieldAddr T.fl72_3 rfl hb4.cells) ?_
        refine HP.take rfl rfl rfl rfl hS (fun wS hS1 => PV.load1 T.na28 rfl (Bx.cells (Bx.updD (by assumption) hS1 (by first | assumption | exact Dj.symm (by assumption)))) (Ext.refl _) rfl) ?_
        refine HP.take rfl rfl rfl rfl hS (fun wS hS1 => PV.loadA T.ag72 rfl (Bx.cells (Bx.updD (by assumption) hS1 (by first | assumption | exact Dj.symm (by assumption)))) (Ext.refl _) rfl) ?_
        refine HP.take rfl rfl rfl rfl hS (fun wS hS1 => PV.move rfl) ?_
        refine HP.take rfl rfl rfl rfl hS (fun wS hS1 => PV.fieldAddr T.fl72_0 rfl hb2.cells) ?_
        refine HP.take rfl rfl rfl rfl hS (fun wS hS1 => PV.load1 T.na2 rfl (Bx.cells (Bx.updD (by assumption) hS1 (by first | assumption | exact Dj.symm (by assumption)))) (Ext.refl _) rfl) ?_
        refine HP.take rfl rfl rfl rfl hS (fun wS hS1 => PV.quoN rfl rfl (by omega)) ?_
        refine HP.take rfl rfl rfl rfl hS (fun wS hS1 => PV.move rfl) ?_
        refine HP.take rfl rfl rfl rfl hS (fun wS hS1 => PV.fieldAddr T.fl72_0 rfl hb2.cells) ?_
        refine HP.take rfl rfl rfl rfl hS (fun wS hS1 => PV.load1 T.na2 rfl (Bx.cells (Bx.updD (by assumption) hS1 (by first | assumption | exact Dj.symm (by assumption)))) (Ext.refl _) rfl) ?_
        refine HP.take rfl rfl rfl rfl hS (fun wS hS1 => PV.quoN rfl rfl (by omega)) ?_
        refine HP.take rfl rfl rfl rfl hS (fun wS hS1 => PV.fieldAddr T.fl72_0 rfl hb2.cells) ?_
        refine HP.take rfl rfl rfl rfl hS (fun wS hS1 => PV.load1 T.na2 rfl (Bx.cells (Bx.updD (by assumption) hS1 (by first | assumption | exact Dj.symm (by assumption)))) (Ext.refl _) rfl) ?_
        refine HP.take rfl rfl rfl rfl hS (fun wS hS1 => PV.loadA T.ag72 rfl (Bx.cells (Bx.updD (by assumption) hS1 (by first | assumption | exact Dj.symm (by assumption)))) (Ext.refl _) rfl) ?_
        refine HP.take rfl rfl rfl rfl hS (fun wS hS1 => PV.move rfl) ?_
        refine HP.take rfl rfl rfl rfl hS (fun wS hS1 => PV.fieldAddr T.fl72_0 rfl hb2.cells) ?_
        refine HP.take rfl rfl rfl rfl hS (fun wS hS1 => PV.load1 T.na2 rfl (Bx.cells (Bx.updD (by assumption) hS1 (by first | assumption | exact Dj.symm (by assumption)))) (Ext.refl _) rfl) ?_
        refine HP.take rfl rfl rfl rfl hS (fun wS hS1 => PV.rem rfl rfl (by omega) rfl) ?_
        refine HP.take rfl rfl rfl rfl hS (fun wS hS1 => PV.move rfl) ?_
        refine HP.take rfl rfl rfl rfl hS (fun wS hS1 => PV.fieldAddr T.fl72_0 rfl hb2.cells) ?_
        refine HP.take rfl rfl rfl rfl hS (fun wS hS1 => PV.load1 T.na2 rfl (Bx.cells (Bx.updD (by assumption) hS1 (by first | assumption | exact Dj.symm (by assumption)))) (Ext.refl _) rfl) ?_
        refine HP.take rfl rfl rfl rfl hS (fun wS hS1 => PV.rem rfl rfl (by omega) rfl) ?_
        refine HP.must rfl rfl (OpK.callR rfl T.cf138 rfl (c_impl_TreeMachine_join (by first | assumption | exact Rd.up (by assumption) hB | exact Osl.rd (by assumption) | exact Osn.rdR (by assumption) | exact NL.rd (by assumption) | exact rdII (by assumption) (by assumption) | exact Inn.rd (by assumption) (by omega)) (by first | assumption | exact Rd.up (by assumption) hB | exact Osl.rd (by assumption) | exact Osn.rdR (by assumption) | exact NL.rd (by assumption) | exact rdII (by assumption) (by assumption) | exact Inn.rd (by assumption) (by omega)) (by first | assumption | exact Rd.up (by assumption) hB | exact Osl.rd (by assumption) | exact Osn.rdR (by assumption) | exact NL.rd (by assumption) | exact rdII (by assumption) (by assumption) | exact Inn.rd (by assumption) (by omega)) (by first | assumption | omega | (simp only [marks_len, marksB_len, marksR_len]; omega)) (by first | assumption | omega | (simp only [marks_len, marksB_len, marksR_len]; omega)) (by first | assumption | omega | (simp only [marks_len, marksB_len, marksR_len]; omega)) (by first | assumption | omega | (simp only [marks_len, marksB_len, marksR_len]; omega))) (fun w23 hXw23 => ?_))
        refine ⟨Upd.trans hS (Ext.toUpd hXw23), ?_⟩
        have hS := Upd.trans hS (Ext.toUpd hXw23)
        have hB := hB.trans hXw23
        have hb1 := hb1.up hXw23
        have hb2 := hb2.up hXw23
        have hb3 := hb3.up hXw23
        have hb4 := hb4.up hXw23
        have ho18 := ho18.up hXw23
        have ho20 := ho20.up hXw23
        have ho21 := ho21.up hXw23
        have ho22 := ho22.up hXw23
        have hU1 := hU1.ext hXw23
        have hU2 := hU2.ext hXw23
        refine HP.take rfl rfl rfl rfl hS (fun wS hS1 => PV.mul rfl rfl (by constructor <;> omega)) ?_
        refine HP.must rfl rfl (OpK.callR rfl T.cf138 rfl (c_impl_TreeMachine_join (by first | assumption | exact Rd.up (by assumption) hB | exact Osl.rd (by assumption) | exact Osn.rdR (by assumption) | exact NL.rd (by assumption) | exact rdII (by assumption) (by assumption) | exact Inn.rd (by assumption) (by omega)) (by first | assumption | exact Rd.up (by assumption) hB | exact Osl.rd (by assumption) | exact Osn.rdR (by assumption) | exact NL.rd (by assumption) | exact rdII (by assumption) (by assumption) | exact Inn.rd (by assumption) (by omega)) (by first | assumption | exact Rd.up (by assumption) hB | exact Osl.rd (by assumption) | exact Osn.rdR (by assumption) | exact NL.rd (by assumption) | exact rdII (by assumption) (by assumption) | exact Inn.rd (by assumption) (by omega)) (by first | assumption | omega | (simp only [marks_len, marksB_len, marksR_len]; omega)) (by first | assumption | omega | (simp only [marks_len, marksB_len, marksR_len]; omega)) (by first | assumption | omega | (simp only [marks_len, marksB_len, marksR_len]; omega)) (by first | assumption | omega | (simp only [marks_len, marksB_len, marksR_len]; omega))) (fun w24 hXw24 => ?_))
        refine ⟨Upd.trans hS (Ext.toUpd hXw24), ?_⟩
        have hS := Upd.trans hS (Ext.toUpd hXw24)
        have hB := hB.trans hXw24
        have hb1 := hb1.up hXw24
        have hb2 := hb2.up hXw24
        have hb3 := hb3.up hXw24
        have hb4 := hb4.up hXw24
        have ho18 := ho18.up hXw24
        have ho20 := ho20.up hXw24
        have ho21 := ho21.up hXw24
        have ho22 := ho22.up hXw24
        have hU1 := hU1.ext hXw24
        have hU2 := hU2.ext hXw24
        refine HP.take rfl rfl rfl rfl hS (fun wS hS1 => PV.add rfl rfl (by constructor <;> omega)) ?_
        refine HP.must rfl rfl (OpK.buildS VI (os := [.tmp 121]) [_] rfl T.sl28 rfl rfl T.zv2 rfl (by intro z hz; first | rfl | (simp only [List.mem_cons, List.not_mem_nil, or_false] at hz; subst hz; exact (by first | exact Rd.cells1 (by assumption) | exact Osl.cells1 (by assumption) | exact Osn.cells1 (by assumption) | exact Rd.cells1 (NL.rd (by assumption)) | exact Inn.cell1 (by assumption) (by omega) | assumption | rfl))) rfl (fun v24 g24 w25 hXw25 ho24 hge24 => ?_))
        have hl24 := Lo.new hB hge24
        have hd1_24 := Dj.new hb1.ltO hge24
        have hd2_24 := Dj.new hb2.ltO hge24
        have hd3_24 := Dj.new hb3.ltO hge24
        have hd4_24 := Dj.new hb4.ltO hge24
        have hd18_24 := Dj.new ho18.ltO hge24
        have hd20_24 := Dj.new ho20.ltO hge24
        have hd21_24 := Dj.new ho21.ltO hge24
        have hd22_24 := Dj.new ho22.ltO hge24
        have hk1_24 := OkN.new hU1 hge24
        have hg1_24 := OgR.new hU1.size hge24
        have hk2_24 := OkN.new hU2 hge24
        have hg2_24 := OgR.new hU2.size hge24
        refine ⟨Upd.trans hS (Ext.toUpd hXw25), ?_⟩
        have hS := Upd.trans hS (Ext.toUpd hXw25)
        have hB := hB.trans hXw25
        have hb1 := hb1.up hXw25
        have hb2 := hb2.up hXw25
        have hb3 := hb3.up hXw25
        have hb4 := hb4.up hXw25
        have ho18 := ho18.up hXw25
        have ho20 := ho20.up hXw25
        have ho21 := ho21.up hXw25
        have ho22 := ho22.up hXw25
        have hU1 := hU1.ext hXw25
        have hU2 := hU2.ext hXw25
        refine HP.must rfl rfl (OpK.appendS (f := VI) rfl T.sl28 T.zv2 rfl rfl ho21 rfl (Osl.src ho24 (fun _ => rfl)) (by first | (simp only [List.length_cons, List.length_nil]; omega) | (simp only [List.length_append, List.length_cons, List.length_nil]; omega)) (fun v25 og25 w26 hXw26 ho25 hap25 => ?_))
        have hl25 := Lo.app hl21 hB hap25
        have hd1_25 := Dj.app hd1_21 hb1.ltO hap25
        have hd2_25 := Dj.app hd2_21 hb2.ltO hap25
        have hd3_25 := Dj.app hd3_21 hb3.ltO hap25
        have hd4_25 := Dj.app hd4_21 hb4.ltO hap25
        have hd18_25 := Dj.app hd18_21 ho18.ltO hap25
        have hd20_25 := Dj.app hd20_21 ho20.ltO hap25
        have hd22_25 := Dj.app (Dj.symm hd21_22) ho22.ltO hap25
        have hd24_25 := Dj.app (Dj.symm hd21_24) ho24.ltO hap25
        have hk1_25 := OkN.app hU1 hk1_21 hap25
        have hg1_25 := OgR.app hg1_21 hU1.size hap25
        have hk2_25 := OkN.app hU2 hk2_21 hap25
        have hg2_25 := OgR.app hg2_21 hU2.size hap25
        refine ⟨Upd.trans hS hXw26, ?_⟩
        have hS := Upd.trans hS hXw26
        have hB := hB.updL hXw26 hl21
        have hb1 := hb1.updD hXw26 hd1_21
        have hb2 := hb2.updD hXw26 hd2_21
        have hb3 := hb3.updD hXw26 hd3_21
        have hb4 := hb4.updD hXw26 hd4_21
        have ho18 := ho18.updD hXw26 hd18_21
        have ho20 := ho20.updD hXw26 hd20_21
        have ho22 := ho22.updD hXw26 (Dj.symm hd21_22)
        have ho24 := ho24.updD hXw26 (Dj.symm hd21_24)
        have hU1 := hU1.step hXw26 hk1_21
        have hU2 := hU2.step hXw26 hk2_21
        refine HP.take rfl rfl rfl rfl hS (fun wS hS1 => PV.fieldAddr T.fl72_3 rfl hb4.cells) ?_
        refine HP.last rfl rfl (OpK.storeB T.sz28 rfl rfl (by first | rfl | exact Inn.one1 (by assumption) (by omega) | exact Osl.oneCell (by assumption) | exact Osn.oneCell (by assumption) | exact Rd.oneCell (by assumption) | exact Rd.oneCell (NL.rd (by assumption)) | assumption) hb4 rfl (fun w27 hXw27 hb4 => ?_))
        have hB := hB.updL hXw27 hl4
        have hb1 := hb1.updD hXw27 hd1_4
        have hb2 := hb2.updD hXw27 hd2_4
        have hb3 := hb3.updD hXw27 hd3_4
        have ho18 := ho18.updD hXw27 (Dj.symm hd4_18)
        have ho20 := ho20.updD hXw27 (Dj.symm hd4_20)
        have ho22 := ho22.updD hXw27 (Dj.symm hd4_22)
        have ho24 := ho24.updD hXw27 (Dj.symm hd4_24)
        have ho25 := ho25.updD hXw27 (Dj.symm hd4_25)
        have hU1 := hU1.step hXw27 hk1_4
        have hU2 := hU2.step hXw27 hk2_4
        refine HP.done ?_
        refine NQ.block ?_
        refine NQ.then ?_
        refine CW.reg ?_
        refine WL.pure rfl rfl rfl (PV.add rfl rfl (by constructor <;> omega)) ?_
        refine WL.mv rfl rfl ?_
        refine WL.nil ?_
        refine NQ.next (ρ := [(93, _)]) ⟨rfl, rfl, rfl, rfl, rfl, rfl, rfl, rfl, rfl, trivial⟩ ?_
        exact ⟨_, ⟨v20, og20, v25, og25, v22, og22, k + 1, rfl, rfl, hU2, osE ho20 (by first | rfl | (simp_all; done) | (simp_all; omega)), (by first | exact hg2_20 | exact OgR.weak hg2_20), osE ho25 (by exact mapR_put rfl), (by first | exact hg2_25 | exact OgR.weak hg2_25), osE ho22 (by first | rfl | (simp_all; done) | (simp_all; omega)), (by first | exact hg2_22 | exact OgR.weak hg2_22), bxE hb4 (by first | rfl | (simp_all; done) | (simp_all; omega)), hd20_25, hd20_22, (Dj.symm hd22_25), (by first | omega | assumption | (simp_all; done) | (simp_all; omega))⟩, by omega⟩
      try simp only [nq] at hc8
      refine CW.exit ?_
      refine XQ.then ?_
      refine XQ.then ?_
      refine XQ.here ?_
      refine NQ.block ?_
      refine NQ.then ?_
      refine CW.reg ?_
      refine WL.pure rfl rfl rfl (PV.add rfl rfl (by constructor <;> omega)) ?_
      refine WL.mv rfl rfl ?_
      refine WL.nil ?_
      refine NQ.next (ρ := [(65, _)]) ⟨rfl, rfl, rfl, rfl, rfl, rfl, trivial⟩ ?_
      exact ⟨_, ⟨v20, og20, v21, og21, v22, og22, i + 1, rfl, rfl, hU1, osE ho20 (by first | rfl | (simp_all; done) | (simp_all; omega)), (by first | exact hg1_20 | exact OgR.weak hg1_20), osE ho21 (by exact rowsM_succ (by omega)), (by first | exact hg1_21 | exact OgR.weak hg1_21), osE ho22 (by rfl), (by first | exact hg1_22 | exact OgR.weak hg1_22), bxE hb4 (by first | rfl | (simp_all; done) | (simp_all; omega)), hd20_21, hd20_22, hd21_22, (by first | omega | assumption | (simp_all; done) | (simp_all; omega))⟩, by omega⟩
    try simp only [nq] at hc7
    refine HP.takeG rfl rfl rfl rfl rfl rfl hS (fun wS hS1 => PV.fieldAddr T.fl72_4 rfl hb2.cells) ?_
    refine HP.takeG rfl rfl rfl rfl rfl rfl hS (fun wS hS1 => PV.load1 T.na62 rfl (Bx.cells (Bx.updD (by assumption) hS1 (by first | assumption | exact Dj.symm (by assumption)))) (Ext.refl _) rfl) ?_
    refine HP.takeG rfl rfl rfl rfl rfl rfl hS (fun wS hS1 => PV.move rfl) ?_
    refine HP.takeG rfl rfl rfl rfl rfl rfl hS (fun wS hS1 => PV.fieldAddr T.fl72_0 rfl hb2.cells) ?_
    refine HP.takeG rfl rfl rfl rfl rfl rfl hS (fun wS hS1 => PV.load1 T.na2 rfl (Bx.cells (Bx.updD (by assumption) hS1 (by first | assumption | exact Dj.symm (by assumption)))) (Ext.refl _) rfl) ?_
    refine HP.takeG rfl rfl rfl rfl rfl rfl hS (fun wS hS1 => PV.rem rfl rfl (by omega) rfl) ?_
    first
      | refine HP.at (x := .tmp 80) (y := .tmp 84) (E := EB) (false) rfl rfl (by first | assumption | exact Inn.rd (by assumption) (by omega)) (by omega) (fun p2 csp2 hpp2 hcp2 hq => ?_)
      | refine HP.atZ (x := .tmp 80) (y := .tmp 84) (E := EB) (false) rfl rfl (by first | assumption | exact Inn.rd (by assumption) (by omega)) (by omega) (fun p2 csp2 hpp2 hzp2 hcp2 hq => ?_)
    cases hq
    refine HP.takeG rfl rfl rfl rfl rfl rfl hS (fun wS hS1 => (by first | exact PV.indexAddr hpp2 rfl rfl T.sl62 | exact PV.indexAddr hpp2 rfl (by rw [← hzp2]; rfl) T.sl62)) ?_
    refine HP.takeG rfl rfl rfl rfl rfl rfl hS (fun wS hS1 => (by first | exact PV.load0 T.na4 rfl (by first | exact Cells.up (by assumption) (hBr.updL hS1 hl16) | exact Bx.cells (Bx.updD (by assumption) hS1 (by first | assumption | exact Dj.symm (by assumption))) | exact Cells.upd (by assumption) hS1 (by simp)) (Ext.refl _) rfl | exact PV.load1 T.na4 rfl (by first | exact Cells.up (by assumption) (hBr.updL hS1 hl16) | exact Bx.cells (Bx.updD (by assumption) hS1 (by first | assumption | exact Dj.symm (by assumption))) | exact Cells.upd (by assumption) hS1 (by simp)) (Ext.refl _) rfl)) ?_
    refine HP.take rfl rfl rfl rfl hS (fun wS hS1 => PV.pickT rfl rfl) ?_
    refine HP.must rfl rfl (OpK.buildS VB (os := [.tmp 87]) [_] rfl T.sl62 rfl rfl T.zv4 rfl (by intro z hz; first | rfl | (simp only [List.mem_cons, List.not_mem_nil, or_false] at hz; subst hz; exact (by first | exact Rd.cells1 (by assumption) | exact Osl.cells1 (by assumption) | exact Osn.cells1 (by assumption) | exact Rd.cells1 (NL.rd (by assumption)) | exact Inn.cell1 (by assumption) (by omega) | assumption | rfl))) rfl (fun v26 g26 w28 hXw28 ho26 hge26 => ?_))
    have hl26 := Lo.new hB hge26
    have hd1_26 := Dj.new hb1.ltO hge26
    have hd2_26 := Dj.new hb2.ltO hge26
    have hd3_26 := Dj.new hb3.ltO hge26
    have hd4_26 := Dj.new hb4.ltO hge26
    have hd14_26 := Dj.new ho14.ltO hge26
    have hd15_26 := Dj.new ho15.ltO hge26
    have hd16_26 := Dj.new ho16.ltO hge26
    have hk1_26 := OkN.new hU1 hge26
    have hg1_26 := OgR.new hU1.size hge26
    refine ⟨Upd.trans hS (Ext.toUpd hXw28), ?_⟩
    have hS := Upd.trans hS (Ext.toUpd hXw28)
    have hB := hB.trans hXw28
    have hb1 := hb1.up hXw28
    have hb2 := hb2.up hXw28
    have hb3 := hb3.up hXw28
    have hb4 := hb4.up hXw28
    have ho14 := ho14.up hXw28
    have ho15 := ho15.up hXw28
    have ho16 := ho16.up hXw28
    have hU1 := hU1.ext hXw28
    refine HP.must rfl rfl (OpK.appendS (f := VB) rfl T.sl62 T.zv4 rfl rfl ho16 rfl (Osl.src ho26 (fun _ => rfl)) (by first | (simp only [List.length_cons, List.length_nil]; omega) | (simp only [List.length_append, List.length_cons, List.length_nil]; omega)) (fun v27 og27 w29 hXw29 ho27 hap27 => ?_))
    have hl27 := Lo.app hl16 hB hap27
    have hd1_27 := Dj.app hd1_16 hb1.ltO hap27
    have hd2_27 := Dj.app hd2_16 hb2.ltO hap27
    have hd3_27 := Dj.app hd3_16 hb3.ltO hap27
    have hd4_27 := Dj.app hd4_16 hb4.ltO hap27
    have hd14_27 := Dj.app hd14_16 ho14.ltO hap27
    have hd15_27 := Dj.app hd15_16 ho15.ltO hap27
    have hd26_27 := Dj.app (Dj.symm hd16_26) ho26.ltO hap27
    have hk1_27 := OkN.app hU1 hk1_16 hap27
    have hg1_27 := OgR.app hg1_16 hU1.size hap27
    refine ⟨Upd.trans hS hXw29, ?_⟩
    have hS := Upd.trans hS hXw29
    have hB := hB.updL hXw29 hl16
    have hb1 := hb1.updD hXw29 hd1_16
    have hb2 := hb2.updD hXw29 hd2_16
    have hb3 := hb3.updD hXw29 hd3_16
    have hb4 := hb4.updD hXw29 hd4_16
    have ho14 := ho14.updD hXw29 hd14_16
    have ho15 := ho15.updD hXw29 hd15_16
    have ho26 := ho26.updD hXw29 (Dj.symm hd16_26)
    have hU1 := hU1.step hXw29 hk1_16
    refine HP.take rfl rfl rfl rfl hS (fun wS hS1 => PV.fieldAddr T.fl72_4 rfl hb4.cells) ?_
    refine HP.last rfl rfl (OpK.storeB T.sz62 rfl rfl (by first | rfl | exact Inn.one1 (by assumption) (by omega) | exact Osl.oneCell (by assumption) | exact Osn.oneCell (by assumption) | exact Rd.oneCell (by assumption) | exact Rd.oneCell (NL.rd (by assumption)) | assumption) hb4 rfl (fun w30 hXw30 hb4 => ?_))
    have hB := hB.updL hXw30 hl4
    have hb1 := hb1.updD hXw30 hd1_4
    have hb2 := hb2.updD hXw30 hd2_4
    have hb3 := hb3.updD hXw30 hd3_4
    have ho14 := ho14.updD hXw30 (Dj.symm hd4_14)
    have ho15 := ho15.updD hXw30 (Dj.symm hd4_15)
    have ho26 := ho26.updD hXw30 (Dj.symm hd4_26)
    have ho27 := ho27.updD hXw30 (Dj.symm hd4_27)
    have hU1 := hU1.step hXw30 hk1_4
    refine HP.doneS ?_
    refine CW.seq ?_
    refine CW.reg ?_
    refine WL.pure rfl rfl rfl (PV.fieldAddr T.fl72_0 rfl hb4.cells) ?_
    refine WL.pure rfl rfl rfl (PV.load1 T.na2 rfl hb4.cells (Ext.refl _) rfl) ?_
    refine WL.mv rfl rfl ?_
    refine WL.nilS ?_
    refine CW.block ?_
    have hlt1 := hb1.ltO
    have hlt2 := hb2.ltO
    have hlt3 := hb3.ltO
    have hlt4 := hb4.ltO
    have hlt14 := ho14.ltO
    have hlt15 := ho15.ltO
    have hlt26 := ho26.ltO
    have hlt27 := ho27.ltO
    refine CW.loop (σk := [(2, _), (3, _), (4, _), (6, _), (8, _), (64, _), (65, _), (92, _)]) (fun ρ wz m => ∃ (v28 : Value) (og28 : Option Nat) (v29 : Value) (og29 : Option Nat) (v30 : Value) (og30 : Option Nat) (k : Nat), ρ = [(93, .int .i64 (k : Nat))] ∧ m = (a0 * y0).toNat - k ∧ UpdL [og14, og15, og27, (some b4.block)] w30 wz ∧ Osl VI wz og28 v28 (mapR (leafM y0 xa2 xy2) a1.toNat) ∧ OgR w30 og14 og28 ∧ Osl VI wz og29 v29 (rowsM (a0 * y0).toNat (nextM a0 y0 xa3 xy3) i ++ mapR (nextM a0 y0 xa3 xy3 i) k) ∧ OgR w30 og15 og29 ∧ Osl VB wz og30 v30 (mapR (endM y0 xa4 xy4) (i + 1)) ∧ OgR w30 og27 og30 ∧ Bx wz b4 [.int .i64 (a0 * y0), .int .i64 a1, v28, v29, v30] ∧ Dj og28 og29 ∧ Dj og28 og30 ∧ Dj og29 og30 ∧ ((k : Int) ≤ a0 * y0)) (ρ₀ := [(93, _)]) (m₀ := _) ⟨rfl, rfl, rfl, rfl, rfl, rfl, rfl, rfl, rfl, trivial⟩ ⟨v14, og14, v15, og15, v27, og27, 0, rfl, rfl, (UpdL.refl _ _), osE ho14 (by rfl), OgR.refl _ _, osE ho15 (by exact mapR_zero _ _), OgR.refl _ _, osE ho27 (by exact mapR_put0 (by first | exact endM_t (by assumption) | exact endM_f (by assumption))), OgR.refl _ _, bxE hb4 (by first | rfl | (simp_all; done) | (simp_all; omega)), hd14_15, hd14_27, hd15_27, (by first | omega | rfl | (simp; done) | assumption | (simp_all; done))⟩ ?_
    rintro _ wl4 _ ⟨v28, og28, v29, og29, v30, og30, k, rfl, rfl, hU2, ho28, ha28, ho29, ha29, ho30, ha30, hb4, hd28_29, hd28_30, hd29_30, hk⟩
    have hU1 := hU1.trans hU2 ⟨hk1_14, hk1_15, hk1_27, hk1_4, trivial⟩
    have hb1 := hb1.loop hU2 ⟨hd1_14, hd1_15, hd1_27, hd1_4, trivial⟩
    have hb2 := hb2.loop hU2 ⟨hd2_14, hd2_15, hd2_27, hd2_4, trivial⟩
    have hb3 := hb3.loop hU2 ⟨hd3_14, hd3_15, hd3_27, hd3_4, trivial⟩
    have ho26 := ho26.loop hU2 ⟨(Dj.symm hd14_26), (Dj.symm hd15_26), hd26_27, (Dj.symm hd4_26), trivial⟩
    have hl28 := Lo.ogr hl14 hB ha28
    have hg2_28 := ha28
    have hk2_28 : OkB [og14, og15, og27, (some b4.block)] w30 og28 := OkB.ogr (OkB.mem (by simp)) (Nat.le_refl _) ha28
    have hk1_28 := OkB.ogr hk1_14 (by first | assumption | exact UpdL.size (by assumption)) ha28
    have hg1_28 := OgR.trans hg1_14 (by first | assumption | exact UpdL.size (by assumption)) ha28
    have hd1_28 := Dj.ogr hd1_14 hlt1 ha28
    have hd2_28 := Dj.ogr hd2_14 hlt2 ha28
    have hd3_28 := Dj.ogr hd3_14 hlt3 ha28
    have hd4_28 := Dj.ogr hd4_14 hlt4 ha28
    have hd26_28 := Dj.ogr (Dj.symm hd14_26) hlt26 ha28
    have hl29 := Lo.ogr hl15 hB ha29
    have hg2_29 := ha29
    have hk2_29 : OkB [og14, og15, og27, (some b4.block)] w30 og29 := OkB.ogr (OkB.mem (by simp)) (Nat.le_refl _) ha29
    have hk1_29 := OkB.ogr hk1_15 (by first | assumption | exact UpdL.size (by assumption)) ha29
    have hg1_29 := OgR.trans hg1_15 (by first | assumption | exact UpdL.size (by assumption)) ha29
    have hd1_29 := Dj.ogr hd1_15 hlt1 ha29
    have hd2_29 := Dj.ogr hd2_15 hlt2 ha29
    have hd3_29 := Dj.ogr hd3_15 hlt3 ha29
    have hd4_29 := Dj.ogr hd4_15 hlt4 ha29
    have hd26_29 := Dj.ogr (Dj.symm hd15_26) hlt26 ha29
    have hl30 := Lo.ogr hl27 hB ha30
    have hg2_30 := ha30
    have hk2_30 : OkB [og14, og15, og27, (some b4.block)] w30 og30 := OkB.ogr (OkB.mem (by simp)) (Nat.le_refl _) ha30
    have hk1_30 := OkB.ogr hk1_27 (by first | assumption | exact UpdL.size (by assumption)) ha30
    have hg1_30 := OgR.trans hg1_27 (by first | assumption | exact UpdL.size (by assumption)) ha30
    have hd1_30 := Dj.ogr hd1_27 hlt1 ha30
    have hd2_30 := Dj.ogr hd2_27 hlt2 ha30
    have hd3_30 := Dj.ogr hd3_27 hlt3 ha30
    have hd4_30 := Dj.ogr hd4_27 hlt4 ha30
    have hd26_30 := Dj.ogr hd26_27 hlt26 ha30
    have hk2_4 : OkB [og14, og15, og27, (some b4.block)] w30 (some b4.block) := OkB.mem (by simp)
    have hB := hB.loop hU2 ⟨hl14, hl15, hl27, hl4, trivial⟩
    have hnl := mapR_len (nextM a0 y0 xa3 xy3 i) k
    refine CW.seq ?_
    refine CW.reg ?_
    refine WL.pure rfl rfl rfl (PV.lss rfl rfl) ?_
    refine WL.nilS ?_
    refine CW.seq ?_
    refine CW.cond rfl (fun hc9 => ?_) (fun hc9 => ?_)
    · skip
      try simp only [nq] at hc9
      refine CW.skipS ?_
      refine CW.seq ?_
      refine CW.block ?_
      refine CW.seq ?_
      refine CW.reg ?_
      refine WL.mv rfl rfl ?_
      refine WL.asg rfl rfl ?_
      refine WL.nilS ?_
      refine CW.draw T.mixed (by kernel_rfl) (fun _ _ _ _ _ h => h) (fun w8 w9 => Upd og29 w8 w9) 29 (.take 0 (.take 1 (.take 2 (.take 3 (.take 4 (.take 5 (.take 6 (.take 7 (.take 8 (.take 9 (.take 10 (.take 12 (.take 13 (.take 15 (.take 16 (.take 17 (.take 18 (.take 19 (.take 20 (.take 21 (.take 22 (.take 23 (.must 11 (.take 14 (.must 24 (.take 25 (.must 26 (.must 27 (.take 28 (.must 29 .done)))))))))))))))))))))))))))))) (by kernel_rfl) (fun w31 hXd => ?_)
      have hB := hB.trans hXd
      have hb1 := hb1.up hXd
      have hb2 := hb2.up hXd
      have hb3 := hb3.up hXd
      have hb4 := hb4.up hXd
      have ho26 := ho26.up hXd
      have ho28 := ho28.up hXd
      have ho29 := ho29.up hXd
      have ho30 := ho30.up hXd
      have hU1 := hU1.ext hXd
      have hU2 := hU2.ext hXd
      have hBr := hB
      have hS : Upd og29 w31 w31 := Ext.toUpd (Ext.refl _)
      have di := dm (s := a0) (n := y0) (i := (i : Int)) (by omega) (by omega); have dk := dm (s := a0) (n := y0) (i := (k : Int)) (by omega) (by omega); have ix := sq_idx (s := a0) (q := (i : Int).tdiv y0) (r := (k : Int).tdiv y0) (n := xa3.length) (by omega) (by omega) (by omega) (by omega); have iy := sq_idx (s := y0) (q := (i : Int).tmod y0) (r := (k : Int).tmod y0) (n := xy3.length) (by omega) (by omega) (by omega) (by omega); have vx := allIn_get (k := ((i : Int).tdiv y0 * a0 + (k : Int).tdiv y0).toNat) pa7 (by omega); have vy := allIn_get (k := ((i : Int).tmod y0 * y0 + (k : Int).tmod y0).toNat) pb7 (by omega); have vp := pair_le (x := xa3.getD ((i : Int).tdiv y0 * a0 + (k : Int).tdiv y0).toNat 0) (n := y0) (by omega) (by omega)
      refine HP.take rfl rfl rfl rfl hS (fun wS hS1 => PV.fieldAddr T.fl72_3 rfl hb4.cells) ?_
      refine HP.take rfl rfl rfl rfl hS (fun wS hS1 => PV.load1 T.na28 rfl (Bx.cells (Bx.updD (by assumption) hS1 (by first | assumption | exact Dj.symm (by assumption)))) (Ext.refl _) rfl) ?_
      refine HP.take rfl rfl rfl rfl hS (fun wS hS1 => PV.loadA T.ag72 rfl (Bx.cells (Bx.updD (by assumption) hS1 (by first | assumption | exact Dj.symm (by assumption)))) (Ext.refl _) rfl) ?_
      refine HP.take rfl rfl rfl rfl hS (fun wS hS1 => PV.move rfl) ?_
      refine HP.take rfl rfl rfl rfl hS (fun wS hS1 => PV.fieldAddr T.fl72_0 rfl hb2.cells) ?_
      refine HP.take rfl rfl rfl rfl hS (fun wS hS1 => PV.load1 T.na2 rfl (Bx.cells (Bx.updD (by assumption) hS1 (by first | assumption | exact Dj.symm (by assumption)))) (Ext.refl _) rfl) ?_
      refine HP.take rfl rfl rfl rfl hS (fun wS hS1 => PV.quoN rfl rfl (by omega)) ?_
      refine HP.take rfl rfl rfl rfl hS (fun wS hS1 => PV.move rfl) ?_
      refine HP.take rfl rfl rfl rfl hS (fun wS hS1 => PV.fieldAddr T.fl72_0 rfl hb2.cells) ?_
      refine HP.take rfl rfl rfl rfl hS (fun wS hS1 => PV.load1 T.na2 rfl (Bx.cells (Bx.updD (by assumption) hS1 (by first | assumption | exact Dj.symm (by assumption)))) (Ext.refl _) rfl) ?_
      refine HP.take rfl rfl rfl rfl hS (fun wS hS1 => PV.quoN rfl rfl (by omega)) ?_
      refine HP.take rfl rfl rfl rfl hS (fun wS hS1 => PV.fieldAddr T.fl72_0 rfl hb2.cells) ?_
      refine HP.take rfl rfl rfl rfl hS (fun wS hS1 => PV.load1 T.na2 rfl (Bx.cells (Bx.updD (by assumption) hS1 (by first | assumption | exact Dj.symm (by assumption)))) (Ext.refl _) rfl) ?_
      refine HP.take rfl rfl rfl rfl hS (fun wS hS1 => PV.loadA T.ag72 rfl (Bx.cells (Bx.updD (by assumption) hS1 (by first | assumption | exact Dj.symm (by assumption)))) (Ext.refl _) rfl) ?_
      refine HP.take rfl rfl rfl rfl hS (fun wS hS1 => PV.move rfl) ?_
      refine HP.take rfl rfl rfl rfl hS (fun wS hS1 => PV.fieldAddr T.fl72_0 rfl hb2.cells) ?_
      refine HP.take rfl rfl rfl rfl hS (fun wS hS1 => PV.load1 T.na2 rfl (Bx.cells (Bx.updD (by assumption) hS1 (by first | assumption | exact Dj.symm (by assumption)))) (Ext.refl _) rfl) ?_
      refine HP.take rfl rfl rfl rfl hS (fun wS hS1 => PV.rem rfl rfl (by omega) rfl) ?_
      refine HP.take rfl rfl rfl rfl hS (fun wS hS1 => PV.move rfl) ?_
      refine HP.take rfl rfl rfl rfl hS (fun wS hS1 => PV.fieldAddr T.fl72_0 rfl hb2.cells) ?_
      refine HP.take rfl rfl rfl rfl hS (fun wS hS1 => PV.load1 T.na2 rfl (Bx.cells (Bx.updD (by assumption) hS1 (by first | assumption | exact Dj.symm (by assumption)))) (Ext.refl _) rfl) ?_
      refine HP.take rfl rfl rfl rfl hS (fun wS hS1 => PV.rem rfl rfl (by omega) rfl) ?_
      refine HP.must rfl rfl (OpK.callR rfl T.cf138 rfl (c_impl_TreeMachine_join (by first | assumption | exact Rd.up (by assumption) hB | exact Osl.rd (by assumption) | exact Osn.rdR (by assumption) | exact NL.rd (by assumption) | exact rdII (by assumption) (by assumption) | exact Inn.rd (by assumption) (by omega)) (by first | assumption | exact Rd.up (by assumption) hB | exact Osl.rd (by assumption) | exact Osn.rdR (by assumption) | exact NL.rd (by assumption) | exact rdII (by assumption) (by assumption) | exact Inn.rd (by assumption) (by omega)) (by first | assumption | exact Rd.up (by assumption) hB | exact Osl.rd (by assumption) | exact Osn.rdR (by assumption) | exact NL.rd (by assumption) | exact rdII (by assumption) (by assumption) | exact Inn.rd (by assumption) (by omega)) (by first | assumption | omega | (simp only [marks_len, marksB_len, marksR_len]; omega)) (by first | assumption | omega | (simp only [marks_len, marksB_len, marksR_len]; omega)) (by first | assumption | omega | (simp only [marks_len, marksB_len, marksR_len]; omega)) (by first | assumption | omega | (simp only [marks_len, marksB_len, marksR_len]; omega))) (fun w32 hXw32 => ?_))
      refine ⟨Upd.trans hS (Ext.toUpd hXw32), ?_⟩
      have hS := Upd.trans hS (Ext.toUpd hXw32)
      have hB := hB.trans hXw32
      have hb1 := hb1.up hXw32
      have hb2 := hb2.up hXw32
      have hb3 := hb3.up hXw32
      have hb4 := hb4.up hXw32
      have ho26 := ho26.up hXw32
      have ho28 := ho28.up hXw32
      have ho29 := ho29.up hXw32
      have ho30 := ho30.up hXw32
      have hU1 := hU1.ext hXw32
      have hU2 := hU2.ext hXw32
      refine HP.take rfl rfl rfl rfl hS (fun wS hS1 => PV.mul rfl rfl (by constructor <;> omega)) ?_
      refine HP.must rfl rfl (OpK.callR rfl T.cf138 rfl (c_impl_TreeMachine_join (by first | assumption | exact Rd.up (by assumption) hB | exact Osl.rd (by assumption) | exact Osn.rdR (by assumption) | exact NL.rd (by assumption) | exact rdII (by assumption) (by assumption) | exact Inn.rd (by assumption) (by omega)) (by first | assumption | exact Rd.up (by assumption) hB | exact Osl.rd (by assumption) | exact Osn.rdR (by assumption) | exact NL.rd (by assumption) | exact rdII (by assumption) (by assumption) | exact Inn.rd (by assumption) (by omega)) (by first | assumption | exact Rd.up (by assumption) hB | exact Osl.rd (by assumption) | exact Osn.rdR (by assumption) | exact NL.rd (by assumption) | exact rdII (by assumption) (by assumption) | exact Inn.rd (by assumption) (by omega)) (by first | assumption | omega | (simp only [marks_len, marksB_len, marksR_len]; omega)) (by first | assumption | omega | (simp only [marks_len, marksB_len, marksR_len]; omega)) (by first | assumption | omega | (simp only [marks_len, marksB_len, marksR_len]; omega)) (by first | assumption | omega | (simp only [marks_len, marksB_len, marksR_len]; omega))) (fun w33 hXw33 => ?_))
      refine ⟨Upd.trans hS (Ext.toUpd hXw33), ?_⟩
      have hS := Upd.trans hS (Ext.toUpd hXw33)
      have hB := hB.trans hXw33
      have hb1 := hb1.up hXw33
      have hb2 := hb2.up hXw33
      have hb3 := hb3.up hXw33
      have hb4 := hb4.up hXw33
      have ho26 := ho26.up hXw33
      have ho28 := ho28.up hXw33
      have ho29 := ho29.up hXw33
      have ho30 := ho30.up hXw33
      have hU1 := hU1.ext hXw33
      have hU2 := hU2.ext hXw33
      refine HP.take rfl rfl rfl rfl hS (fun wS hS1 => PV.add rfl rfl (by constructor <;> omega)) ?_
      refine HP.must rfl rfl (OpK.buildS VI (os := [.tmp 121]) [_] rfl T.sl28 rfl rfl T.zv2 rfl (by intro z hz; first | rfl | (simp only [List.mem_cons, List.not_mem_nil, or_false] at hz; subst hz; exact (by first | exact Rd.cells1 (by assumption) | exact Osl.cells1 (by assumption) | exact Osn.cells1 (by assumption) | exact Rd.cells1 (NL.rd (by assumption)) | exact Inn.cell1 (by assumption) (by omega) | assumption | rfl))) rfl (fun v32 g32 w34 hXw34 ho32 hge32 => ?_))
      have hl32 := Lo.new hB hge32
      have hd1_32 := Dj.new hb1.ltO hge32
      have hd2_32 := Dj.new hb2.ltO hge32
      have hd3_32 := Dj.new hb3.ltO hge32
      have hd4_32 := Dj.new hb4.ltO hge32
      have hd26_32 := Dj.new ho26.ltO hge32
      have hd28_32 := Dj.new ho28.ltO hge32
      have hd29_32 := Dj.new ho29.ltO hge32
      have hd30_32 := Dj.new ho30.ltO hge32
      have hk1_32 := OkN.new hU1 hge32
      have hg1_32 := OgR.new hU1.size hge32
      have hk2_32 := OkN.new hU2 hge32
      have hg2_32 := OgR.new hU2.size hge32
      refine ⟨Upd.trans hS (Ext.toUpd hXw34), ?_⟩
      have hS := Upd.trans hS (Ext.toUpd hXw34)
      have hB := hB.trans hXw34
      have hb1 := hb1.up hXw34
      have hb2 := hb2.up hXw34
      have hb3 := hb3.up hXw34
      have hb4 := hb4.up hXw34
      have ho26 := ho26.up hXw34
      have ho28 := ho28.up hXw34
      have ho29 := ho29.up hXw34
      have ho30 := ho30.up hXw34
      have hU1 := hU1.ext hXw34
      have hU2 := hU2.ext hXw34
      refine HP.must rfl rfl (OpK.appendS (f := VI) rfl T.sl28 T.zv2 rfl rfl ho29 rfl (Osl.src ho32 (fun _ => rfl)) (by first | (simp only [List.length_cons, List.length_nil]; omega) | (simp only [List.length_append, List.length_cons, List.length_nil]; omega)) (fun v33 og33 w35 hXw35 ho33 hap33 => ?_))
      have hl33 := Lo.app hl29 hB hap33
      have hd1_33 := Dj.app hd1_29 hb1.ltO hap33
      have hd2_33 := Dj.app hd2_29 hb2.ltO hap33
      have hd3_33 := Dj.app hd3_29 hb3.ltO hap33
      have hd4_33 := Dj.app hd4_29 hb4.ltO hap33
      have hd26_33 := Dj.app hd26_29 ho26.ltO hap33
      have hd28_33 := Dj.app hd28_29 ho28.ltO hap33
      have hd30_33 := Dj.app (Dj.symm hd29_30) ho30.ltO hap33
      have hd32_33 := Dj.app (Dj.symm hd29_32) ho32.ltO hap33
      have hk1_33 := OkN.app hU1 hk1_29 hap33
      have hg1_33 := OgR.app hg1_29 hU1.size hap33
      have hk2_33 := OkN.app hU2 hk2_29 hap33
      have hg2_33 := OgR.app hg2_29 hU2.size hap33
      refine ⟨Upd.trans hS hXw35, ?_⟩
      have hS := Upd.trans hS hXw35
      have hB := hB.updL hXw35 hl29
      have hb1 := hb1.updD hXw35 hd1_29
      have hb2 := hb2.updD hXw35 hd2_29
      have hb3 := hb3.updD hXw35 hd3_29
      have hb4 := hb4.updD hXw35 hd4_29
      have ho26 := ho26.updD hXw35 hd26_29
      have ho28 := ho28.updD hXw35 hd28_29
      have ho30 := ho30.updD hXw35 (Dj.symm hd29_30)
      have ho32 := ho32.updD hXw35 (Dj.symm hd29_32)
      have hU1 := hU1.step hXw35 hk1_29
      have hU2 := hU2.step hXw35 hk2_29
      refine HP.take rfl rfl rfl rfl hS (fun wS hS1 => PV.fieldAddr T.fl72_3 rfl hb4.cells) ?_
      refine HP.last rfl rfl (OpK.storeB T.sz28 rfl rfl (by first | rfl | exact Inn.one1 (by assumption) (by omega) | exact Osl.oneCell (by assumption) | exact Osn.oneCell (by assumption) | exact Rd.oneCell (by assumption) | exact Rd.oneCell (NL.rd (by assumption)) | assumption) hb4 rfl (fun w36 hXw36 hb4 => ?_))
      have hB := hB.updL hXw36 hl4
      have hb1 := hb1.updD hXw36 hd1_4
      have hb2 := hb2.updD hXw36 hd2_4
      have hb3 := hb3.updD hXw36 hd3_4
      have ho26 := ho26.updD hXw36 (Dj.symm hd4_26)
      have ho28 := ho28.updD hXw36 (Dj.symm hd4_28)
      have ho30 := ho30.updD hXw36 (Dj.symm hd4_30)
      have ho32 := ho32.updD hXw36 (Dj.symm hd4_32)
      have ho33 := ho33.updD hXw36 (Dj.symm hd4_33)
      have hU1 := hU1.step hXw36 hk1_4
      have hU2 := hU2.step hXw36 hk2_4
      refine HP.done ?_
      refine NQ.block ?_
      refine NQ.then ?_
      refine CW.reg ?_
      refine WL.pure rfl rfl rfl (PV.add rfl rfl (by constructor <;> omega)) ?_
      refine WL.mv rfl rfl ?_
      refine WL.nil ?_
      refine NQ.next (ρ := [(93, _)]) ⟨rfl, rfl, rfl, rfl, rfl, rfl, rfl, rfl, rfl, trivial⟩ ?_
      exact ⟨_, ⟨v28, og28, v33, og33, v30, og30, k + 1, rfl, rfl, hU2, osE ho28 (by first | rfl | (simp_all; done) | (simp_all; omega)), (by first | exact hg2_28 | exact OgR.weak hg2_28), osE ho33 (by exact mapR_put rfl), (by first | exact hg2_33 | exact OgR.weak hg2_33), osE ho30 (by first | rfl | (simp_all; done) | (simp_all; omega)), (by first | exact hg2_30 | exact OgR.weak hg2_30), bxE hb4 (by first | rfl | (simp_all; done) | (simp_all; omega)), hd28_33, hd28_30, (Dj.symm hd30_33), (by first | omega | assumption | (simp_all; done) | (simp_all; omega))⟩, by omega⟩
    try simp only [nq] at hc9
    refine CW.exit ?_
    refine XQ.then ?_
    refine XQ.then ?_
    refine XQ.here ?_
    refine NQ.block ?_
    refine NQ.then ?_
    refine CW.reg ?_
    refine WL.pure rfl rfl rfl (PV.add rfl rfl (by constructor <;> omega)) ?_
    refine WL.mv rfl rfl ?_
    refine WL.nil ?_
    refine NQ.next (ρ := [(65, _)]) ⟨rfl, rfl, rfl, rfl, rfl, rfl, trivial⟩ ?_
    exact ⟨_, ⟨v28, og28, v29, og29, v30, og30, i + 1, rfl, rfl, hU1, osE ho28 (by first | rfl | (simp_all; done) | (simp_all; omega)), (by first | exact hg1_28 | exact OgR.weak hg1_28), osE ho29 (by exact rowsM_succ (by omega)), (by first | exact hg1_29 | exact OgR.weak hg1_29), osE ho30 (by rfl), (by first | exact hg1_30 | exact OgR.weak hg1_30), bxE hb4 (by first | rfl | (simp_all; done) | (simp_all; omega)), hd28_29, hd28_30, hd29_30, (by first | omega | assumption | (simp_all; done) | (simp_all; omega))⟩, by omega⟩
  try simp only [nq] at hc6
  refine CW.exit ?_
  refine XQ.then ?_
  refine XQ.then ?_
  refine XQ.here ?_
  refine NQ.then ?_
  refine CW.seq ?_
  refine CW.reg ?_
  refine WL.pure rfl rfl rfl (PV.loadA T.ag72 rfl hb4.cells (Ext.refl _) rfl) ?_
  refine WL.op rfl (OpK.storeA T.sz72 rfl rfl rfl rfl (by simp [Value.oneCell'] <;> first | done | (repeat' apply And.intro) <;> first | rfl | exact Inn.one1 (by assumption) (by omega) | exact Osl.oneCell (by assumption) | exact Osn.oneCell (by assumption) | exact Rd.oneCell (by assumption) | exact Rd.oneCell (NL.rd (by assumption)) | assumption) hb3 (fun w37 hXw37 hb3 => ?_))
  have hB := hB.updL hXw37 hl3
  have hb1 := hb1.updD hXw37 hd1_3
  have hb2 := hb2.updD hXw37 hd2_3
  have hb4 := hb4.updD hXw37 (Dj.symm hd3_4)
  have ho14 := ho14.updD hXw37 (Dj.symm hd3_14)
  have ho15 := ho15.updD hXw37 (Dj.symm hd3_15)
  have ho16 := ho16.updD hXw37 (Dj.symm hd3_16)
  refine WL.asg rfl rfl ?_
  refine WL.nilS ?_
  refine CW.ret ?_
  refine RQ.rc1 T.ag72 rfl (by first | exact Cells.up (by assumption) hB | exact Bx.cells (by assumption) | assumption) rfl rfl ?_
  refine ⟨hB, v14, og14, v15, og15, v16, og16, ?_, osE ho14 ?_, hl14, osE ho15 ?_, hl15, osE ho16 ?_, hl16, hd14_15, hd14_16, hd15_16⟩
  · skip
    first | (exact tE2 (by rw [onI_no (by first | exact meetB_n1 (treesB_no (by assumption)) | exact meetB_n2 (treesB_no (by assumption)) | exact meetB_n3 (by omega) | exact meetB_n4 (by omega)), onI_no (by first | exact meetB_n1 (treesB_no (by assumption)) | exact meetB_n2 (treesB_no (by assumption)) | exact meetB_n3 (by omega) | exact meetB_n4 (by omega))]) (bE (Bool.eq_false_iff.2 (by first | exact meetB_n1 (treesB_no (by assumption)) | exact meetB_n2 (treesB_no (by assumption)) | exact meetB_n3 (by omega) | exact meetB_n4 (by omega))).symm)) | (exact tE2 (by rw [onI_yes (meetB_yes (treesB_yes (by assumption)) (treesB_yes (by assumption)) (by omega) (by omega)), onI_yes (meetB_yes (treesB_yes (by assumption)) (treesB_yes (by assumption)) (by omega) (by omega))]) (bE (meetB_yes (treesB_yes (by assumption)) (treesB_yes (by assumption)) (by omega) (by omega)).symm))
  · skip
    first | (rw [onT_no (by first | exact meetB_n1 (treesB_no (by assumption)) | exact meetB_n2 (treesB_no (by assumption)) | exact meetB_n3 (by omega) | exact meetB_n4 (by omega))]; done) | (rw [onT_yes (meetB_yes (treesB_yes (by assumption)) (treesB_yes (by assumption)) (by omega) (by omega))]; done)
  · skip
    first | (rw [onT_no (by first | exact meetB_n1 (treesB_no (by assumption)) | exact meetB_n2 (treesB_no (by assumption)) | exact meetB_n3 (by omega) | exact meetB_n4 (by omega))]; done) | (rw [onT_yes (meetB_yes (treesB_yes (by assumption)) (treesB_yes (by assumption)) (by omega) (by omega)), show i = (a0 * y0).toNat from (by omega)])
  · skip
    first | (rw [onT_no (by first | exact meetB_n1 (treesB_no (by assumption)) | exact meetB_n2 (treesB_no (by assumption)) | exact meetB_n3 (by omega) | exact meetB_n4 (by omega))]; done) | (rw [onT_yes (meetB_yes (treesB_yes (by assumption)) (treesB_yes (by assumption)) (by omega) (by omega)), show i = (a0 * y0).toNat from (by omega)])
theorem c_slices_Equal_int64_int64 {w : World} {va vb : Value} {xs ys : List Int} (ha : Rd EI w va xs) (hb : Rd EI w vb ys) : Calls Try.prog 142 #[va, vb] w (Ret1 (RQt (.bool (decide (xs = ys))) w)) := by
  have hB : Ext w w := Ext.refl w
  have hla := ha.leI; have hlb := hb.leI
  refine callsOf (vs := [_, _]) Try.func142 rfl Try.ntmps142 rfl rfl ?_
  refine CW.seq ?_
  refine CW.reg ?_
  refine WL.asg rfl rfl ?_
  refine WL.nilS ?_
  refine CW.seq ?_
  refine CW.seq ?_
  refine CW.reg ?_
  refine WL.mv rfl rfl ?_
  refine WL.pure rfl rfl rfl ((by first | exact PV.len rfl (by assumption) T.sl28 | exact PV.lenOs rfl (by assumption) T.sl28 | exact PV.len rfl (NL.rd (by assumption)) T.sl28 | exact PV.len rfl (Inn.rd (by assumption) (by omega)) T.sl28)) ?_
  refine WL.mv rfl rfl ?_
  refine WL.pure rfl rfl rfl ((by first | exact PV.len rfl (by assumption) T.sl28 | exact PV.lenOs rfl (by assumption) T.sl28 | exact PV.len rfl (NL.rd (by assumption)) T.sl28 | exact PV.len rfl (Inn.rd (by assumption) (by omega)) T.sl28)) ?_
  refine WL.pure rfl rfl rfl (PV.neq rfl rfl) ?_
  refine WL.nilS ?_
  refine CW.cond rfl (fun hc1 => ?_) (fun hc1 => ?_)
  · skip
    try simp only [nq] at hc1
    refine CW.seq ?_
    refine CW.reg ?_
    refine WL.asg rfl rfl ?_
    refine WL.nilS ?_
    refine CW.ret ?_
    refine RQ.then ?_
    refine RQ.r1 rfl ?_
    refine ⟨?_, hB⟩
    first | exact bT (eq_of_takes (by omega) (by omega) he) | exact bF (by rintro rfl; simp_all)
  try simp only [nq] at hc1
  refine CW.skipS ?_
  refine CW.seq ?_
  refine CW.seq ?_
  refine CW.reg ?_
  refine WL.mv rfl rfl ?_
  refine WL.pure rfl rfl rfl ((by first | exact PV.len rfl (by assumption) T.sl28 | exact PV.lenOs rfl (by assumption) T.sl28 | exact PV.len rfl (NL.rd (by assumption)) T.sl28 | exact PV.len rfl (Inn.rd (by assumption) (by omega)) T.sl28)) ?_
  refine WL.mv rfl rfl ?_
  refine WL.nilS ?_
  refine CW.block ?_
  refine CW.loop (σk := [(0, _), (1, _), (12, _)]) (fun ρ wz m => ∃ (k : Nat), ρ = [(13, .int .i64 (k : Nat))] ∧ m = xs.length - k ∧ UpdL [] w wz ∧ (k ≤ xs.length) ∧ (xs.take k = ys.take k)) (ρ₀ := [(13, _)]) (m₀ := _) ⟨rfl, rfl, rfl, rfl, trivial⟩ ⟨0, rfl, rfl, (UpdL.refl _ _), (by first | omega | rfl | (simp; done) | assumption | (simp_all; done)), (by first | omega | rfl | (simp; done) | assumption | (simp_all; done))⟩ ?_
  rintro _ wl1 _ ⟨k, rfl, rfl, hU0, hk, he⟩
  have hB := hB.loop hU0 trivial
  refine CW.seq ?_
  refine CW.reg ?_
  refine WL.pure rfl rfl rfl (PV.lss rfl rfl) ?_
  refine WL.nilS ?_
  refine CW.seq ?_
  refine CW.cond rfl (fun hc2 => ?_) (fun hc2 => ?_)
  · skip
    try simp only [nq] at hc2
    refine CW.skipS ?_
    refine CW.seq ?_
    refine CW.block ?_
    refine CW.seq ?_
    refine CW.reg ?_
    refine WL.mv rfl rfl ?_
    refine WL.asg rfl rfl ?_
    refine WL.nilS ?_
    refine CW.seq ?_
    refine CW.draw T.mixed (by kernel_rfl) (fun _ _ _ _ _ h => h) (fun w8 w9 => Upd none w8 w9) 9 (.take 0 (.take 1 (.take 2 (.take 3 (.take 4 (.take 5 (.take 6 (.take 7 (.take 8 .done))))))))) (by kernel_rfl) (fun w1 hXd => ?_)
    have hB := hB.trans hXd
    have hU0 := hU0.ext hXd
    have hBr := hB
    have hS : Upd none w1 w1 := Ext.toUpd (Ext.refl _)
    refine HP.take rfl rfl rfl rfl hS (fun wS hS1 => PV.move rfl) ?_
    refine HP.take rfl rfl rfl rfl hS (fun wS hS1 => PV.move rfl) ?_
    first
      | refine HP.at (x := .tmp 16) (y := .tmp 17) (E := EI) (0) rfl rfl (by first | assumption | exact Inn.rd (by assumption) (by omega)) (by first | omega | (simp only [List.length_set]; omega) | (simp only [List.length_append, List.length_take, List.length_replicate, List.length_drop]; omega)) (fun p1 csp1 hpp1 hcp1 hq => ?_)
      | refine HP.atZ (x := .tmp 16) (y := .tmp 17) (E := EI) (0) rfl rfl (by first | assumption | exact Inn.rd (by assumption) (by omega)) (by first | omega | (simp only [List.length_set]; omega) | (simp only [List.length_append, List.length_take, List.length_replicate, List.length_drop]; omega)) (fun p1 csp1 hpp1 hzp1 hcp1 hq => ?_)
    cases hq
    refine HP.take rfl rfl rfl rfl hS (fun wS hS1 => (by first | exact PV.indexAddr hpp1 rfl rfl T.sl28 | exact PV.indexAddr hpp1 rfl (by rw [← hzp1]; rfl) T.sl28)) ?_
    refine HP.take rfl rfl rfl rfl hS (fun wS hS1 => (by first | exact PV.load0 T.na2 rfl (by first | exact Cells.up (by assumption) (hBr.trans hS1) | exact Bx.cells (Bx.updD (by assumption) hS1 (Dj.nlR _)) | exact Cells.upd (by assumption) hS1 (by simp)) (Ext.refl _) rfl | exact PV.load1 T.na2 rfl (by first | exact Cells.up (by assumption) (hBr.trans hS1) | exact Bx.cells (Bx.updD (by assumption) hS1 (Dj.nlR _)) | exact Cells.upd (by assumption) hS1 (by simp)) (Ext.refl _) rfl)) ?_
    refine HP.take rfl rfl rfl rfl hS (fun wS hS1 => PV.move rfl) ?_
    refine HP.take rfl rfl rfl rfl hS (fun wS hS1 => PV.move rfl) ?_
    first
      | refine HP.at (x := .tmp 20) (y := .tmp 21) (E := EI) (0) rfl rfl (by first | assumption | exact Inn.rd (by assumption) (by omega)) (by first | omega | (simp only [List.length_set]; omega) | (simp only [List.length_append, List.length_take, List.length_replicate, List.length_drop]; omega)) (fun p2 csp2 hpp2 hcp2 hq => ?_)
      | refine HP.atZ (x := .tmp 20) (y := .tmp 21) (E := EI) (0) rfl rfl (by first | assumption | exact Inn.rd (by assumption) (by omega)) (by first | omega | (simp only [List.length_set]; omega) | (simp only [List.length_append, List.length_take, List.length_replicate, List.length_drop]; omega)) (fun p2 csp2 hpp2 hzp2 hcp2 hq => ?_)
    cases hq
    refine HP.take rfl rfl rfl rfl hS (fun wS hS1 => (by first | exact PV.indexAddr hpp2 rfl rfl T.sl28 | exact PV.indexAddr hpp2 rfl (by rw [← hzp2]; rfl) T.sl28)) ?_
    refine HP.take rfl rfl rfl rfl hS (fun wS hS1 => (by first | exact PV.load0 T.na2 rfl (by first | exact Cells.up (by assumption) (hBr.trans hS1) | exact Bx.cells (Bx.updD (by assumption) hS1 (Dj.nlR _)) | exact Cells.upd (by assumption) hS1 (by simp)) (Ext.refl _) rfl | exact PV.load1 T.na2 rfl (by first | exact Cells.up (by assumption) (hBr.trans hS1) | exact Bx.cells (Bx.updD (by assumption) hS1 (Dj.nlR _)) | exact Cells.upd (by assumption) hS1 (by simp)) (Ext.refl _) rfl)) ?_
    refine HP.take rfl rfl rfl rfl hS (fun wS hS1 => PV.neq rfl rfl) ?_
    refine HP.doneS ?_
    refine CW.cond rfl (fun hc3 => ?_) (fun hc3 => ?_)
    · skip
      try simp only [nq] at hc3
      refine CW.seq ?_
      refine CW.reg ?_
      refine WL.asg rfl rfl ?_
      refine WL.nilS ?_
      refine CW.ret ?_
      refine RQ.block ?_
      refine RQ.then ?_
      refine RQ.then ?_
      refine RQ.block ?_
      refine RQ.then ?_
      refine RQ.r1 rfl ?_
      refine ⟨?_, hB⟩
      first | exact bT (eq_of_takes (by omega) (by omega) he) | exact bF (by rintro rfl; simp_all)
    try simp only [nq] at hc3
    refine CW.skip ?_
    refine NQ.block ?_
    refine NQ.then ?_
    refine CW.reg ?_
    refine WL.pure rfl rfl rfl (PV.add rfl rfl (by constructor <;> omega)) ?_
    refine WL.mv rfl rfl ?_
    refine WL.nil ?_
    refine NQ.next (ρ := [(13, _)]) ⟨rfl, rfl, rfl, rfl, trivial⟩ ?_
    exact ⟨_, ⟨k + 1, rfl, rfl, hU0, (by first | omega | assumption | (simp_all; done) | (simp_all; omega)), (by exact take_eq_succ (by omega) (by omega) he (by assumption))⟩, by omega⟩
  try simp only [nq] at hc2
  refine CW.exit ?_
  refine XQ.then ?_
  refine XQ.then ?_
  refine XQ.here ?_
  refine NQ.then ?_
  refine CW.seq ?_
  refine CW.reg ?_
  refine WL.asg rfl rfl ?_
  refine WL.nilS ?_
  refine CW.ret ?_
  refine RQ.r1 rfl ?_
  refine ⟨?_, hB⟩
  first | exact bT (eq_of_takes (by omega) (by omega) he) | exact bF (by rintro rfl; simp_all)
theorem c_slices_Equal_bool_bool {w : World} {va vb : Value} {xs ys : List Bool} (ha : Rd EB w va xs) (hb : Rd EB w vb ys) : Calls Try.prog 143 #[va, vb] w (Ret1 (RQt (.bool (decide (xs = ys))) w)) := by
  have hB : Ext w w := Ext.refl w
  have hla := ha.leI; have hlb := hb.leI
  refine callsOf (vs := [_, _]) Try.func143 rfl Try.ntmps143 rfl rfl ?_
  refine CW.seq ?_
  refine CW.reg ?_
  refine WL.asg rfl rfl ?_
  refine WL.nilS ?_
  refine CW.seq ?_
  refine CW.seq ?_
  refine CW.reg ?_
  refine WL.mv rfl rfl ?_
  refine WL.pure rfl rfl rfl ((by first | exact PV.len rfl (by assumption) T.sl62 | exact PV.lenOs rfl (by assumption) T.sl62 | exact PV.len rfl (NL.rd (by assumption)) T.sl62 | exact PV.len rfl (Inn.rd (by assumption) (by omega)) T.sl62)) ?_
  refine WL.mv rfl rfl ?_
  refine WL.pure rfl rfl rfl ((by first | exact PV.len rfl (by assumption) T.sl62 | exact PV.lenOs rfl (by assumption) T.sl62 | exact PV.len rfl (NL.rd (by assumption)) T.sl62 | exact PV.len rfl (Inn.rd (by assumption) (by omega)) T.sl62)) ?_
  refine WL.pure rfl rfl rfl (PV.neq rfl rfl) ?_
  refine WL.nilS ?_
  refine CW.cond rfl (fun hc1 => ?_) (fun hc1 => ?_)
  · skip
    try simp only [nq] at hc1
    refine CW.seq ?_
    refine CW.reg ?_
    refine WL.asg rfl rfl ?_
    refine WL.nilS ?_
    refine CW.ret ?_
    refine RQ.then ?_
    refine RQ.r1 rfl ?_
    refine ⟨?_, hB⟩
    first | exact bT (eq_of_takes (by omega) (by omega) he) | exact bF (by rintro rfl; simp_all)
  try simp only [nq] at hc1
  refine CW.skipS ?_
  refine CW.seq ?_
  refine CW.seq ?_
  refine CW.reg ?_
  refine WL.mv rfl rfl ?_
  refine WL.pure rfl rfl rfl ((by first | exact PV.len rfl (by assumption) T.sl62 | exact PV.lenOs rfl (by assumption) T.sl62 | exact PV.len rfl (NL.rd (by assumption)) T.sl62 | exact PV.len rfl (Inn.rd (by assumption) (by omega)) T.sl62)) ?_
  refine WL.mv rfl rfl ?_
  refine WL.nilS ?_
  refine CW.block ?_
  refine CW.loop (σk := [(0, _), (1, _), (12, _)]) (fun ρ wz m => ∃ (k : Nat), ρ = [(13, .int .i64 (k : Nat))] ∧ m = xs.length - k ∧ UpdL [] w wz ∧ (k ≤ xs.length) ∧ (xs.take k = ys.take k)) (ρ₀ := [(13, _)]) (m₀ := _) ⟨rfl, rfl, rfl, rfl, trivial⟩ ⟨0, rfl, rfl, (UpdL.refl _ _), (by first | omega | rfl | (simp; done) | assumption | (simp_all; done)), (by first | omega | rfl | (simp; done) | assumption | (simp_all; done))⟩ ?_
  rintro _ wl1 _ ⟨k, rfl, rfl, hU0, hk, he⟩
  have hB := hB.loop hU0 trivial
  refine CW.seq ?_
  refine CW.reg ?_
  refine WL.pure rfl rfl rfl (PV.lss rfl rfl) ?_
  refine WL.nilS ?_
  refine CW.seq ?_
  refine CW.cond rfl (fun hc2 => ?_) (fun hc2 => ?_)
  · skip
    try simp only [nq] at hc2
    refine CW.skipS ?_
    refine CW.seq ?_
    refine CW.block ?_
    refine CW.seq ?_
    refine CW.reg ?_
    refine WL.mv rfl rfl ?_
    refine WL.asg rfl rfl ?_
    refine WL.nilS ?_
    refine CW.seq ?_
    refine CW.draw T.mixed (by kernel_rfl) (fun _ _ _ _ _ h => h) (fun w8 w9 => Upd none w8 w9) 9 (.take 0 (.take 1 (.take 2 (.take 3 (.take 4 (.take 5 (.take 6 (.take 7 (.take 8 .done))))))))) (by kernel_rfl) (fun w1 hXd => ?_)
    have hB := hB.trans hXd
    have hU0 := hU0.ext hXd
    have hBr := hB
    have hS : Upd none w1 w1 := Ext.toUpd (Ext.refl _)
    refine HP.take rfl rfl rfl rfl hS (fun wS hS1 => PV.move rfl) ?_
    refine HP.take rfl rfl rfl rfl hS (fun wS hS1 => PV.move rfl) ?_
    first
      | refine HP.at (x := .tmp 16) (y := .tmp 17) (E := EB) (false) rfl rfl (by first | assumption | exact Inn.rd (by assumption) (by omega)) (by first | omega | (simp only [List.length_set]; omega) | (simp only [List.length_append, List.length_take, List.length_replicate, List.length_drop]; omega)) (fun p1 csp1 hpp1 hcp1 hq => ?_)
      | refine HP.atZ (x := .tmp 16) (y := .tmp 17) (E := EB) (false) rfl rfl (by first | assumption | exact Inn.rd (by assumption) (by omega)) (by first | omega | (simp only [List.length_set]; omega) | (simp only [List.length_append, List.length_take, List.length_replicate, List.length_drop]; omega)) (fun p1 csp1 hpp1 hzp1 hcp1 hq => ?_)
    cases hq
    refine HP.take rfl rfl rfl rfl hS (fun wS hS1 => (by first | exact PV.indexAddr hpp1 rfl rfl T.sl62 | exact PV.indexAddr hpp1 rfl (by rw [← hzp1]; rfl) T.sl62)) ?_
    refine HP.take rfl rfl rfl rfl hS (fun wS hS1 => (by first | exact PV.load0 T.na4 rfl (by first | exact Cells.up (by assumption) (hBr.trans hS1) | exact Bx.cells (Bx.updD (by assumption) hS1 (Dj.nlR _)) | exact Cells.upd (by assumption) hS1 (by simp)) (Ext.refl _) rfl | exact PV.load1 T.na4 rfl (by first | exact Cells.up (by assumption) (hBr.trans hS1) | exact Bx.cells (Bx.updD (by assumption) hS1 (Dj.nlR _)) | exact Cells.upd (by assumption) hS1 (by simp)) (Ext.refl _) rfl)) ?_
    refine HP.take rfl rfl rfl rfl hS (fun wS hS1 => PV.move rfl) ?_
    refine HP.take rfl rfl rfl rfl hS (fun wS hS1 => PV.move rfl) ?_
    first
      | refine HP.at (x := .tmp 20) (y := .tmp 21) (E := EB) (false) rfl rfl (by first | assumption | exact Inn.rd (by assumption) (by omega)) (by first | omega | (simp only [List.length_set]; omega) | (simp only [List.length_append, List.length_take, List.length_replicate, List.length_drop]; omega)) (fun p2 csp2 hpp2 hcp2 hq => ?_)
      | refine HP.atZ (x := .tmp 20) (y := .tmp 21) (E := EB) (false) rfl rfl (by first | assumption | exact Inn.rd (by assumption) (by omega)) (by first | omega | (simp only [List.length_set]; omega) | (simp only [List.length_append, List.length_take, List.length_replicate, List.length_drop]; omega)) (fun p2 csp2 hpp2 hzp2 hcp2 hq => ?_)
    cases hq
    refine HP.take rfl rfl rfl rfl hS (fun wS hS1 => (by first | exact PV.indexAddr hpp2 rfl rfl T.sl62 | exact PV.indexAddr hpp2 rfl (by rw [← hzp2]; rfl) T.sl62)) ?_
    refine HP.take rfl rfl rfl rfl hS (fun wS hS1 => (by first | exact PV.load0 T.na4 rfl (by first | exact Cells.up (by assumption) (hBr.trans hS1) | exact Bx.cells (Bx.updD (by assumption) hS1 (Dj.nlR _)) | exact Cells.upd (by assumption) hS1 (by simp)) (Ext.refl _) rfl | exact PV.load1 T.na4 rfl (by first | exact Cells.up (by assumption) (hBr.trans hS1) | exact Bx.cells (Bx.updD (by assumption) hS1 (Dj.nlR _)) | exact Cells.upd (by assumption) hS1 (by simp)) (Ext.refl _) rfl)) ?_
    refine HP.take rfl rfl rfl rfl hS (fun wS hS1 => PV.neqB T.bl4 rfl rfl) ?_
    refine HP.doneS ?_
    refine CW.cond rfl (fun hc3 => ?_) (fun hc3 => ?_)
    · skip
      try simp only [nq] at hc3
      refine CW.seq ?_
      refine CW.reg ?_
      refine WL.asg rfl rfl ?_
      refine WL.nilS ?_
      refine CW.ret ?_
      refine RQ.block ?_
      refine RQ.then ?_
      refine RQ.then ?_
      refine RQ.block ?_
      refine RQ.then ?_
      refine RQ.r1 rfl ?_
      refine ⟨?_, hB⟩
      first | exact bT (eq_of_takes (by omega) (by omega) he) | exact bF (by rintro rfl; simp_all)
    try simp only [nq] at hc3
    refine CW.skip ?_
    refine NQ.block ?_
    refine NQ.then ?_
    refine CW.reg ?_
    refine WL.pure rfl rfl rfl (PV.add rfl rfl (by constructor <;> omega)) ?_
    refine WL.mv rfl rfl ?_
    refine WL.nil ?_
    refine NQ.next (ρ := [(13, _)]) ⟨rfl, rfl, rfl, rfl, trivial⟩ ?_
    exact ⟨_, ⟨k + 1, rfl, rfl, hU0, (by first | omega | assumption | (simp_all; done) | (simp_all; omega)), (by exact take_eq_succ (by omega) (by omega) he (by assumption))⟩, by omega⟩
  try simp only [nq] at hc2
  refine CW.exit ?_
  refine XQ.then ?_
  refine XQ.then ?_
  refine XQ.here ?_
  refine NQ.then ?_
  refine CW.seq ?_
  refine CW.reg ?_
  refine WL.asg rfl rfl ?_
  refine WL.nilS ?_
  refine CW.ret ?_
  refine RQ.r1 rfl ?_
  refine ⟨?_, hB⟩
  first | exact bT (eq_of_takes (by omega) (by omega) he) | exact bF (by rintro rfl; simp_all)
theorem c_impl_SameTrees {w : World} {a0 : Int} {a1 : Int} {va2 : Value} {xa2 : List Int} {va3 : Value} {xa3 : List Int} {va4 : Value} {xa4 : List Bool} {b0 : Int} {b1 : Int} {vb2 : Value} {xb2 : List Int} {vb3 : Value} {xb3 : List Int} {vb4 : Value} {xb4 : List Bool}  (ha2 : Rd EI w va2 xa2) (ha3 : Rd EI w va3 xa3) (ha4 : Rd EB w va4 xa4) (hb2 : Rd EI w vb2 xb2) (hb3 : Rd EI w vb3 xb3) (hb4 : Rd EB w vb4 xb4) : Calls Try.prog 55 #[.agg #[.int .i64 a0, .int .i64 a1, va2, va3, va4], .agg #[.int .i64 b0, .int .i64 b1, vb2, vb3, vb4]] w (Ret1 (RQt (.bool (decide (a0 = b0 ∧ a1 = b1 ∧ xa2 = xb2 ∧ xa3 = xb3 ∧ xa4 = xb4))) w)) := by
  have hB : Ext w w := Ext.refl w
  have hla2 := ha2.leI; have hla3 := ha3.leI; have hla4 := ha4.leI; have hlb2 := hb2.leI; have hlb3 := hb3.leI; have hlb4 := hb4.leI
  refine callsOf (vs := [_, _]) Try.func55 rfl Try.ntmps55 rfl rfl ?_
  refine CW.seq ?_
  refine CW.reg ?_
  refine WL.op rfl (OpK.box rfl rfl (by first | exact Rd.cells1 (by assumption) | exact Osl.cells1 (by assumption) | exact Osn.cells1 (by assumption) | exact Rd.cells1 (NL.rd (by assumption)) | exact Inn.cell1 (by assumption) (by omega) | assumption | rfl) (fun b1 w1 hXw1 hb1 hge1 => ?_))
  have hl1 := Lo.new hB hge1
  have hB := hB.trans hXw1
  refine WL.op rfl (OpK.box rfl rfl (by first | exact Rd.cells1 (by assumption) | exact Osl.cells1 (by assumption) | exact Osn.cells1 (by assumption) | exact Rd.cells1 (NL.rd (by assumption)) | exact Inn.cell1 (by assumption) (by omega) | assumption | rfl) (fun b2 w2 hXw2 hb2 hge2 => ?_))
  have hl2 := Lo.new hB hge2
  have hd1_2 := Dj.new hb1.ltO hge2
  have hB := hB.trans hXw2
  have hb1 := hb1.up hXw2
  refine WL.asg rfl rfl ?_
  refine WL.nilS ?_
  refine CW.seq ?_
  refine CW.reg ?_
  refine WL.pure rfl rfl rfl (PV.fieldAddr T.fl72_0 rfl hb1.cells) ?_
  refine WL.pure rfl rfl rfl (PV.load1 T.na2 rfl hb1.cells (Ext.refl _) rfl) ?_
  refine WL.pure rfl rfl rfl (PV.fieldAddr T.fl72_0 rfl hb2.cells) ?_
  refine WL.pure rfl rfl rfl (PV.load1 T.na2 rfl hb2.cells (Ext.refl _) rfl) ?_
  refine WL.pure rfl rfl rfl (PV.eql rfl rfl) ?_
  refine WL.mv rfl rfl ?_
  refine WL.split (t := 10) rfl (fun hc1 => ?_) (fun hc1 => ?_)
  rotate_left
  · skip
    try simp only [nq] at hc1
    refine WL.skip rfl rfl rfl rfl rfl ?_
    refine WL.skip rfl rfl rfl rfl rfl ?_
    refine WL.skip rfl rfl rfl rfl rfl ?_
    refine WL.skip rfl rfl rfl rfl rfl ?_
    refine WL.skip rfl rfl rfl rfl rfl ?_
    refine WL.pure rfl rfl rfl (PV.pickF rfl rfl) ?_
    refine WL.mv rfl rfl ?_
    refine WL.skip rfl rfl rfl rfl rfl ?_
    refine WL.skip rfl rfl rfl rfl rfl ?_
    refine WL.skip rfl rfl rfl rfl rfl ?_
    refine WL.skip rfl rfl rfl rfl rfl ?_
    refine WL.skip rfl rfl rfl rfl rfl ?_
    refine WL.pure rfl rfl rfl (PV.pickF rfl rfl) ?_
    refine WL.mv rfl rfl ?_
    refine WL.skip rfl rfl rfl rfl rfl ?_
    refine WL.skip rfl rfl rfl rfl rfl ?_
    refine WL.skip rfl rfl rfl rfl rfl ?_
    refine WL.skip rfl rfl rfl rfl rfl ?_
    refine WL.skip rfl rfl rfl rfl rfl ?_
    refine WL.pure rfl rfl rfl (PV.pickF rfl rfl) ?_
    refine WL.mv rfl rfl ?_
    refine WL.skip rfl rfl rfl rfl rfl ?_
    refine WL.skip rfl rfl rfl rfl rfl ?_
    refine WL.skip rfl rfl rfl rfl rfl ?_
    refine WL.skip rfl rfl rfl rfl rfl ?_
    refine WL.skip rfl rfl rfl rfl rfl ?_
    refine WL.pure rfl rfl rfl (PV.pickF rfl rfl) ?_
    refine WL.asg rfl rfl ?_
    refine WL.nilS ?_
    refine CW.ret ?_
    refine RQ.r1 rfl ?_
    refine ⟨?_, hB⟩
    first | rfl | exact bT (by omega) | exact bF (by omega) | exact bD (by omega) | exact iE (by omega) | (simp_all; done) | (simp_all; omega) | (simp_all; intros; omega)
  try simp only [nq] at hc1
  refine WL.pureG rfl rfl rfl rfl rfl (PV.fieldAddr T.fl72_1 rfl hb1.cells) ?_
  refine WL.pureG rfl rfl rfl rfl rfl (PV.load1 T.na2 rfl hb1.cells (Ext.refl _) rfl) ?_
  refine WL.pureG rfl rfl rfl rfl rfl (PV.fieldAddr T.fl72_1 rfl hb2.cells) ?_
  refine WL.pureG rfl rfl rfl rfl rfl (PV.load1 T.na2 rfl hb2.cells (Ext.refl _) rfl) ?_
  refine WL.pureG rfl rfl rfl rfl rfl (PV.eql rfl rfl) ?_
  refine WL.pure rfl rfl rfl (PV.pickT rfl rfl) ?_
  refine WL.mv rfl rfl ?_
  refine WL.split (t := 17) rfl (fun hc2 => ?_) (fun hc2 => ?_)
  rotate_left
  · skip
    try simp only [nq] at hc2
    refine WL.skip rfl rfl rfl rfl rfl ?_
    refine WL.skip rfl rfl rfl rfl rfl ?_
    refine WL.skip rfl rfl rfl rfl rfl ?_
    refine WL.skip rfl rfl rfl rfl rfl ?_
    refine WL.skip rfl rfl rfl rfl rfl ?_
    refine WL.pure rfl rfl rfl (PV.pickF rfl rfl) ?_
    refine WL.mv rfl rfl ?_
    refine WL.skip rfl rfl rfl rfl rfl ?_
    refine WL.skip rfl rfl rfl rfl rfl ?_
    refine WL.skip rfl rfl rfl rfl rfl ?_
    refine WL.skip rfl rfl rfl rfl rfl ?_
    refine WL.skip rfl rfl rfl rfl rfl ?_
    refine WL.pure rfl rfl rfl (PV.pickF rfl rfl) ?_
    refine WL.mv rfl rfl ?_
    refine WL.skip rfl rfl rfl rfl rfl ?_
    refine WL.skip rfl rfl rfl rfl rfl ?_
    refine WL.skip rfl rfl rfl rfl rfl ?_
    refine WL.skip rfl rfl rfl rfl rfl ?_
    refine WL.skip rfl rfl rfl rfl rfl ?_
    refine WL.pure rfl rfl rfl (PV.pickF rfl rfl) ?_
    refine WL.asg rfl rfl ?_
    refine WL.nilS ?_
    refine CW.ret ?_
    refine RQ.r1 rfl ?_
    refine ⟨?_, hB⟩
    first | rfl | exact bT (by omega) | exact bF (by omega) | exact bD (by omega) | exact iE (by omega) | (simp_all; done) | (simp_all; omega) | (simp_all; intros; omega)
  try simp only [nq] at hc2
  refine WL.pureG rfl rfl rfl rfl rfl (PV.fieldAddr T.fl72_2 rfl hb1.cells) ?_
  refine WL.pureG rfl rfl rfl rfl rfl (PV.load1 T.na28 rfl hb1.cells (Ext.refl _) rfl) ?_
  refine WL.pureG rfl rfl rfl rfl rfl (PV.fieldAddr T.fl72_2 rfl hb2.cells) ?_
  refine WL.pureG rfl rfl rfl rfl rfl (PV.load1 T.na28 rfl hb2.cells (Ext.refl _) rfl) ?_
  refine WL.opG rfl rfl rfl (OpK.callR rfl T.cf142 rfl (c_slices_Equal_int64_int64 (by first | assumption | exact Rd.up (by assumption) hB | exact Osl.rd (by assumption) | exact Osn.rdR (by assumption) | exact NL.rd (by assumption) | exact rdII (by assumption) (by assumption) | exact Inn.rd (by assumption) (by omega)) (by first | assumption | exact Rd.up (by assumption) hB | exact Osl.rd (by assumption) | exact Osn.rdR (by assumption) | exact NL.rd (by assumption) | exact rdII (by assumption) (by assumption) | exact Inn.rd (by assumption) (by omega))) (fun w3 hXw3 => ?_))
  have hB := hB.trans hXw3
  have hb1 := hb1.up hXw3
  have hb2 := hb2.up hXw3
  refine WL.pure rfl rfl rfl (PV.pickT rfl rfl) ?_
  refine WL.mv rfl rfl ?_
  refine WL.split (t := 24) rfl (fun hc3 => ?_) (fun hc3 => ?_)
  rotate_left
  · skip
    try simp only [nq] at hc3
    refine WL.skip rfl rfl rfl rfl rfl ?_
    refine WL.skip rfl rfl rfl rfl rfl ?_
    refine WL.skip rfl rfl rfl rfl rfl ?_
    refine WL.skip rfl rfl rfl rfl rfl ?_
    refine WL.skip rfl rfl rfl rfl rfl ?_
    refine WL.pure rfl rfl rfl (PV.pickF rfl rfl) ?_
    refine WL.mv rfl rfl ?_
    refine WL.skip rfl rfl rfl rfl rfl ?_
    refine WL.skip rfl rfl rfl rfl rfl ?_
    refine WL.skip rfl rfl rfl rfl rfl ?_
    refine WL.skip rfl rfl rfl rfl rfl ?_
    refine WL.skip rfl rfl rfl rfl rfl ?_
    refine WL.pure rfl rfl rfl (PV.pickF rfl rfl) ?_
    refine WL.asg rfl rfl ?_
    refine WL.nilS ?_
    refine CW.ret ?_
    refine RQ.r1 rfl ?_
    refine ⟨?_, hB⟩
    first | rfl | exact bT (by omega) | exact bF (by omega) | exact bD (by omega) | exact iE (by omega) | (simp_all; done) | (simp_all; omega) | (simp_all; intros; omega)
  try simp only [nq] at hc3
  refine WL.pureG rfl rfl rfl rfl rfl (PV.fieldAddr T.fl72_3 rfl hb1.cells) ?_
  refine WL.pureG rfl rfl rfl rfl rfl (PV.load1 T.na28 rfl hb1.cells (Ext.refl _) rfl) ?_
  refine WL.pureG rfl rfl rfl rfl rfl (PV.fieldAddr T.fl72_3 rfl hb2.cells) ?_
  refine WL.pureG rfl rfl rfl rfl rfl (PV.load1 T.na28 rfl hb2.cells (Ext.refl _) rfl) ?_
  refine WL.opG rfl rfl rfl (OpK.callR rfl T.cf142 rfl (c_slices_Equal_int64_int64 (by first | assumption | exact Rd.up (by assumption) hB | exact Osl.rd (by assumption) | exact Osn.rdR (by assumption) | exact NL.rd (by assumption) | exact rdII (by assumption) (by assumption) | exact Inn.rd (by assumption) (by omega)) (by first | assumption | exact Rd.up (by assumption) hB | exact Osl.rd (by assumption) | exact Osn.rdR (by assumption) | exact NL.rd (by assumption) | exact rdII (by assumption) (by assumption) | exact Inn.rd (by assumption) (by omega))) (fun w4 hXw4 => ?_))
  have hB := hB.trans hXw4
  have hb1 := hb1.up hXw4
  have hb2 := hb2.up hXw4
  refine WL.pure rfl rfl rfl (PV.pickT rfl rfl) ?_
  refine WL.mv rfl rfl ?_
  refine WL.split (t := 31) rfl (fun hc4 => ?_) (fun hc4 => ?_)
  rotate_left
  · skip
    try simp only [nq] at hc4
    refine WL.skip rfl rfl rfl rfl rfl ?_
    refine WL.skip rfl rfl rfl rfl rfl ?_
    refine WL.skip rfl rfl rfl rfl rfl ?_
    refine WL.skip rfl rfl rfl rfl rfl ?_
    refine WL.skip rfl rfl rfl rfl rfl ?_
    refine WL.pure rfl rfl rfl (PV.pickF rfl rfl) ?_
    refine WL.asg rfl rfl ?_
    refine WL.nilS ?_
    refine CW.ret ?_
    refine RQ.r1 rfl ?_
    refine ⟨?_, hB⟩
    first | rfl | exact bT (by omega) | exact bF (by omega) | exact bD (by omega) | exact iE (by omega) | (simp_all; done) | (simp_all; omega) | (simp_all; intros; omega)
  try simp only [nq] at hc4
  refine WL.pureG rfl rfl rfl rfl rfl (PV.fieldAddr T.fl72_4 rfl hb1.cells) ?_
  refine WL.pureG rfl rfl rfl rfl rfl (PV.load1 T.na62 rfl hb1.cells (Ext.refl _) rfl) ?_
  refine WL.pureG rfl rfl rfl rfl rfl (PV.fieldAddr T.fl72_4 rfl hb2.cells) ?_
  refine WL.pureG rfl rfl rfl rfl rfl (PV.load1 T.na62 rfl hb2.cells (Ext.refl _) rfl) ?_
  refine WL.opG rfl rfl rfl (OpK.callR rfl T.cf143 rfl (c_slices_Equal_bool_bool (by first | assumption | exact Rd.up (by assumption) hB | exact Osl.rd (by assumption) | exact Osn.rdR (by assumption) | exact NL.rd (by assumption) | exact rdII (by assumption) (by assumption) | exact Inn.rd (by assumption) (by omega)) (by first | assumption | exact Rd.up (by assumption) hB | exact Osl.rd (by assumption) | exact Osn.rdR (by assumption) | exact NL.rd (by assumption) | exact rdII (by assumption) (by assumption) | exact Inn.rd (by assumption) (by omega))) (fun w5 hXw5 => ?_))
  have hB := hB.trans hXw5
  have hb1 := hb1.up hXw5
  have hb2 := hb2.up hXw5
  refine WL.pure rfl rfl rfl (PV.pickT rfl rfl) ?_
  refine WL.asg rfl rfl ?_
  refine WL.nilS ?_
  refine CW.ret ?_
  refine RQ.r1 rfl ?_
  refine ⟨?_, hB⟩
  first | rfl | exact bT (by omega) | exact bF (by omega) | exact bD (by omega) | exact iE (by omega) | (simp_all; done) | (simp_all; omega) | (simp_all; intros; omega)
set_option maxHeartbeats 4000000 in
theorem c_impl_CountTreesRead {w : World} {a0 : Int} {a1 : Int} {va2 : Value} {xa2 : List Int} {va3 : Value} {xa3 : List Int} {va4 : Value} {xa4 : List Bool} {n : Int} (ha2 : Rd EI w va2 xa2) (ha3 : Rd EI w va3 xa3) (ha4 : Rd EB w va4 xa4) : Calls Try.prog 57 #[.agg #[.int .i64 a0, .int .i64 a1, va2, va3, va4], .int .i64 n] w (Ret1 (RQt (.tuple #[.int .i64 (ctI (treesB a0 a1 xa2 xa3 xa4) a0 xa2 xa3 xa4 n), .bool (ctB (treesB a0 a1 xa2 xa3 xa4) n)]) w)) := by
  have hB : Ext w w := Ext.refl w
  have hla2 := ha2.leI; have hla3 := ha3.leI; have hla4 := ha4.leI
  refine callsOf (vs := [_, _]) Try.func57 rfl Try.ntmps57 rfl rfl ?_
  refine CW.seq ?_
  refine CW.reg ?_
  refine WL.op rfl (OpK.box rfl rfl (by first | exact Rd.cells1 (by assumption) | exact Osl.cells1 (by assumption) | exact Osn.cells1 (by assumption) | exact Rd.cells1 (NL.rd (by assumption)) | exact Inn.cell1 (by assumption) (by omega) | assumption | rfl) (fun b1 w1 hXw1 hb1 hge1 => ?_))
  have hl1 := Lo.new hB hge1
  have hB := hB.trans hXw1
  refine WL.asg rfl rfl ?_
  refine WL.asg rfl rfl ?_
  refine WL.nilS ?_
  refine CW.seq ?_
  refine CW.seq ?_
  refine CW.reg ?_
  refine WL.pure rfl rfl rfl (PV.loadA T.ag72 rfl hb1.cells (Ext.refl _) rfl) ?_
  refine WL.op rfl (OpK.callR rfl T.cf56 rfl (c_impl_ValidTrees (by first | assumption | exact Rd.up (by assumption) hB | exact Osl.rd (by assumption) | exact Osn.rdR (by assumption) | exact NL.rd (by assumption) | exact rdII (by assumption) (by assumption) | exact Inn.rd (by assumption) (by omega)) (by first | assumption | exact Rd.up (by assumption) hB | exact Osl.rd (by assumption) | exact Osn.rdR (by assumption) | exact NL.rd (by assumption) | exact rdII (by assumption) (by assumption) | exact Inn.rd (by assumption) (by omega)) (by first | assumption | exact Rd.up (by assumption) hB | exact Osl.rd (by assumption) | exact Osn.rdR (by assumption) | exact NL.rd (by assumption) | exact rdII (by assumption) (by assumption) | exact Inn.rd (by assumption) (by omega))) (fun w2 hXw2 => ?_))
  have hB := hB.trans hXw2
  have hb1 := hb1.up hXw2
  refine WL.pure rfl rfl rfl (PV.not rfl) ?_
  refine WL.mv rfl rfl ?_
  refine WL.split (t := 19) rfl (fun hc1 => ?_) (fun hc1 => ?_)
  · skip
    try simp only [nq] at hc1
    refine WL.skip rfl rfl rfl rfl rfl ?_
    refine WL.skip rfl rfl rfl rfl rfl ?_
    refine WL.skip rfl rfl rfl rfl rfl ?_
    refine WL.pure rfl rfl rfl (PV.pickT rfl rfl) ?_
    refine WL.nilS ?_
    refine CW.condT rfl ?_
    refine CW.seq ?_
    refine CW.reg ?_
    refine WL.asg rfl rfl ?_
    refine WL.asg rfl rfl ?_
    refine WL.nilS ?_
    refine CW.ret ?_
    refine RQ.then ?_
    refine RQ.r2 rfl rfl ?_
    refine ⟨?_, hB⟩
    first | exact tE2 (iE (ct_n1 (treesB_no (by assumption))).symm) (bE (ct_n1b (treesB_no (by assumption))).symm) | exact tE2 (iE (ct_n2 (by omega)).symm) (bE (ct_n2b (by omega)).symm) | exact tE2 (iE (ct_y (j := j) (k := k) hvb (by omega) (by omega) (by omega)).symm) (bE (ct_yb hvb (by omega)).symm)
  try simp only [nq] at hc1
  refine WL.pureG rfl rfl rfl rfl rfl (PV.move rfl) ?_
  refine WL.opG rfl rfl rfl (OpK.callR rfl T.cf104 rfl (c_impl_within) (fun w3 hXw3 => ?_))
  have hB := hB.trans hXw3
  have hb1 := hb1.up hXw3
  refine WL.pureG rfl rfl rfl rfl rfl (PV.not rfl) ?_
  refine WL.pure rfl rfl rfl (PV.pickF rfl rfl) ?_
  refine WL.nilS ?_
  refine CW.cond rfl (fun hc2 => ?_) (fun hc2 => ?_)
  · skip
    try simp only [nq] at hc2
    refine CW.seq ?_
    refine CW.reg ?_
    refine WL.asg rfl rfl ?_
    refine WL.asg rfl rfl ?_
    refine WL.nilS ?_
    refine CW.ret ?_
    refine RQ.then ?_
    refine RQ.r2 rfl rfl ?_
    refine ⟨?_, hB⟩
    first | exact tE2 (iE (ct_n1 (treesB_no (by assumption))).symm) (bE (ct_n1b (treesB_no (by assumption))).symm) | exact tE2 (iE (ct_n2 (by omega)).symm) (bE (ct_n2b (by omega)).symm) | exact tE2 (iE (ct_y (j := j) (k := k) hvb (by omega) (by omega) (by omega)).symm) (bE (ct_yb hvb (by omega)).symm)
  try simp only [nq] at hc2
  refine CW.skipS ?_
  refine CW.seq ?_
  refine CW.reg ?_
  have hv : (1 ≤ a0 ∧ a0 ≤ 16) ∧ (1 ≤ a1 ∧ a1 ≤ 4) ∧ (xa2.length : Int) = a1 ∧ (xa3.length : Int) = a0 * a0 ∧ (xa4.length : Int) = a0 ∧ allIn xa2 0 (a0 - 1) = true ∧ allIn xa3 0 (a0 - 1) = true := (by assumption); have hvb := treesB_yes hv; obtain ⟨hcv1, hcv2, hcv3, hcv4, hcv5, hcv6, hcv7⟩ := hv; have hn18 : 1 ≤ n ∧ n ≤ 8 := (by first | assumption | omega)
  refine WL.pure rfl rfl rfl (PV.buildArr (f := VI) (x0 := 0) T.az171) ?_
  refine WL.op rfl (OpK.allocArr (f := VI) (x0 := 0) rfl T.az171 (fun b2 w4 hXw4 hb2 hge2 => ?_))
  have hl2 := Lo.new hB hge2
  have hd1_2 := Dj.new hb1.ltO hge2
  have hB := hB.trans hXw4
  have hb1 := hb1.up hXw4
  refine WL.op rfl (OpK.storeArrA T.sz171 rfl rfl (by simp) (by simp) (fun _ => rfl) hb2 (fun w5 hXw5 hb2 => ?_))
  have hB := hB.updL hXw5 hl2
  have hb1 := hb1.updD hXw5 hd1_2
  refine WL.nilS ?_
  refine CW.seq ?_
  refine CW.seq ?_
  refine CW.reg ?_
  refine WL.pure rfl rfl rfl (PV.fieldAddr T.fl72_2 rfl hb1.cells) ?_
  refine WL.pure rfl rfl rfl (PV.load1 T.na28 rfl hb1.cells (Ext.refl _) rfl) ?_
  refine WL.pure rfl rfl rfl ((by first | exact PV.len rfl (by assumption) T.sl28 | exact PV.lenOs rfl (by assumption) T.sl28 | exact PV.len rfl (NL.rd (by assumption)) T.sl28 | exact PV.len rfl (Inn.rd (by assumption) (by omega)) T.sl28)) ?_
  refine WL.mv rfl rfl ?_
  refine WL.nilS ?_
  refine CW.block ?_
  refine CW.loop (σk := [(1, _), (2, _), (6, _), (26, _), (27, _)]) (fun ρ wz m => ∃ (k : Nat) (ys : List Int), ρ = [(28, .int .i64 (k : Nat))] ∧ m = xa2.length - k ∧ UpdL [(some b2.block)] w5 wz ∧ Bx wz b2 (List.map VI (ys)) ∧ (k ≤ xa2.length) ∧ (Rp ys ([zr a0.toNat] ++ [r1 a0.toNat xa2 k]))) (ρ₀ := [(28, _)]) (m₀ := _) ⟨rfl, rfl, rfl, rfl, rfl, rfl, trivial⟩ ⟨0, _, rfl, rfl, (UpdL.refl _ _), bxM hb2 (by rfl), (by first | omega | rfl | (simp; done) | assumption | (simp_all; done)), (by exact Rp.zero _)⟩ ?_
  rintro _ wl1 _ ⟨k, ys, rfl, rfl, hU0, hb2, hk, hR⟩
  have hb1 := hb1.loop hU0 ⟨hd1_2, trivial⟩
  have hk0_2 : OkB [(some b2.block)] w5 (some b2.block) := OkB.mem (by simp)
  have hB := hB.loop hU0 ⟨hl2, trivial⟩
  refine CW.seq ?_
  refine CW.reg ?_
  refine WL.pure rfl rfl rfl (PV.lss rfl rfl) ?_
  refine WL.nilS ?_
  refine CW.seq ?_
  refine CW.cond rfl (fun hc3 => ?_) (fun hc3 => ?_)
  · skip
    try simp only [nq] at hc3
    refine CW.skipS ?_
    refine CW.seq ?_
    refine CW.block ?_
    refine CW.seq ?_
    refine CW.reg ?_
    first
      | refine WL.at (x := .tmp 26) (y := .tmp 28) (E := EI) (0) rfl rfl (by first | assumption | exact Inn.rd (by assumption) (by omega)) (by first | omega | (simp only [List.length_set]; omega) | (simp only [List.length_append, List.length_take, List.length_replicate, List.length_drop]; omega)) (fun p1 csp1 hpp1 hcp1 hq => ?_)
      | refine WL.atZ (x := .tmp 26) (y := .tmp 28) (E := EI) (0) rfl rfl (by first | assumption | exact Inn.rd (by assumption) (by omega)) (by first | omega | (simp only [List.length_set]; omega) | (simp only [List.length_append, List.length_take, List.length_replicate, List.length_drop]; omega)) (fun p1 csp1 hpp1 hzp1 hcp1 hq => ?_)
    cases hq
    refine WL.pure rfl rfl rfl ((by first | exact PV.indexAddr hpp1 rfl rfl T.sl28 | exact PV.indexAddr hpp1 rfl (by rw [← hzp1]; rfl) T.sl28)) ?_
    refine WL.pure rfl rfl rfl ((by first | exact PV.load0 T.na2 rfl (by first | exact Cells.up (by assumption) hB | exact Bx.cells (by assumption) | assumption) (Ext.refl _) rfl | exact PV.load1 T.na2 rfl (by first | exact Cells.up (by assumption) hB | exact Bx.cells (by assumption) | assumption) (Ext.refl _) rfl)) ?_
    refine WL.asg rfl rfl ?_
    refine WL.nilS ?_
    refine CW.reg ?_
    have hnn := hR.1; have hbx := allIn_get hcv6 (k := k) (by omega)
    refine WL.mv rfl rfl ?_
    refine WL.pure rfl rfl rfl (PV.ixN (i := 1) T.ar171 rfl hb2.spot rfl (by omega)) ?_
    refine WL.pure rfl rfl rfl ((by first | exact PV.ixPN1 T.ar170 rfl rfl (by omega) | exact PV.ixPZ1 T.ar170 rfl rfl (by omega))) ?_
    refine WL.pure rfl rfl rfl (PV.loadArr 0 T.na2 rfl (Bx.cells hb2) (Ext.refl _) (by first | omega | (simp only [List.length_set]; omega))) ?_
    refine WL.pure rfl rfl rfl (PV.addW rfl rfl) ?_
    refine WL.pure rfl rfl rfl (PV.ixN (i := 1) T.ar171 rfl hb2.spot rfl (by omega)) ?_
    refine WL.pure rfl rfl rfl ((by first | exact PV.ixPN1 T.ar170 rfl rfl (by omega) | exact PV.ixPZ1 T.ar170 rfl rfl (by omega))) ?_
    refine WL.op rfl (OpK.storeArr T.sz2 rfl rfl rfl hb2 (by first | omega | (simp only [List.length_set]; omega)) (fun w6 hXw6 hb2 => ?_))
    have hB := hB.updL hXw6 hl2
    have hb1 := hb1.updD hXw6 hd1_2
    have hU0 := hU0.step hXw6 hk0_2
    refine WL.nil ?_
    refine NQ.block ?_
    refine NQ.then ?_
    refine CW.reg ?_
    refine WL.pure rfl rfl rfl (PV.add rfl rfl (by constructor <;> omega)) ?_
    refine WL.mv rfl rfl ?_
    refine WL.nil ?_
    refine NQ.next (ρ := [(28, _)]) ⟨rfl, rfl, rfl, rfl, rfl, rfl, trivial⟩ ?_
    exact ⟨_, ⟨k + 1, _, rfl, rfl, hU0, bxM hb2 (by rfl), (by first | omega | assumption | (simp_all; done) | (simp_all; omega)), (by rw [← r1_succ (by omega)]; exact hR.bmp (m := 1) rfl (by omega) (by rw [r1_len]; omega) (by omega))⟩, by omega⟩
  try simp only [nq] at hc3
  refine CW.exit ?_
  refine XQ.then ?_
  refine XQ.then ?_
  refine XQ.here ?_
  refine NQ.then ?_
  refine CW.seq ?_
  refine CW.seq ?_
  refine CW.reg ?_
  refine WL.asg rfl rfl ?_
  refine WL.nilS ?_
  refine CW.block ?_
  refine CW.loop (σk := [(1, _), (2, _), (6, _)]) (fun ρ wz m => ∃ (j : Nat) (ys : List Int), ρ = [(9, .int .i64 ((j + 2 : Nat) : Int))] ∧ m = 8 - j ∧ UpdL [(some b2.block)] wl1 wz ∧ Bx wz b2 (List.map VI (ys)) ∧ ((j : Int) + 1 ≤ n) ∧ (Rp ys (tabC a0 xa2 xa3 j))) (ρ₀ := [(9, _)]) (m₀ := _) ⟨rfl, rfl, rfl, rfl, trivial⟩ ⟨0, _, rfl, rfl, (UpdL.refl _ _), bxM hb2 (by rfl), (by first | omega | rfl | (simp; done) | assumption | (simp_all; done)), (by (obtain rfl : k = xa2.length := (by omega)); exact hR)⟩ ?_
  rintro _ wl2 _ ⟨j, ys, rfl, rfl, hU1, hb2, hj, hR⟩
  have hb1 := hb1.loop hU1 ⟨hd1_2, trivial⟩
  have hk1_2 : OkB [(some b2.block)] wl1 (some b2.block) := OkB.mem (by simp)
  have hB := hB.loop hU1 ⟨hl2, trivial⟩
  refine CW.seq ?_
  refine CW.seq ?_
  refine CW.reg ?_
  refine WL.mv rfl rfl ?_
  refine WL.mv rfl rfl ?_
  refine WL.pure rfl rfl rfl (PV.leq rfl rfl) ?_
  refine WL.nilS ?_
  refine CW.cond rfl (fun hc4 => ?_) (fun hc4 => ?_)
  · skip
    try simp only [nq] at hc4
    refine CW.skipS ?_
    refine CW.seq ?_
    refine CW.block ?_
    refine CW.seq ?_
    refine CW.reg ?_
    refine WL.asg rfl rfl ?_
    refine WL.nilS ?_
    refine CW.block ?_
    refine CW.loop (σk := [(1, _), (2, _), (6, _), (9, _)]) (fun ρ wz m => ∃ (l : Nat) (ys : List Int), ρ = [(10, .int .i64 ((l + 1 : Nat) : Int))] ∧ m = j + 1 - l ∧ UpdL [(some b2.block)] wl2 wz ∧ Bx wz b2 (List.map VI (ys)) ∧ (l ≤ j + 1) ∧ (Rp ys (tabC a0 xa2 xa3 j ++ [inL xa3 a0 (tabC a0 xa2 xa3 j) (j + 2) (zr a0.toNat) l]))) (ρ₀ := [(10, _)]) (m₀ := _) ⟨rfl, rfl, rfl, rfl, rfl, trivial⟩ ⟨0, _, rfl, rfl, (UpdL.refl _ _), bxM hb2 (by rfl), (by first | omega | rfl | (simp; done) | assumption | (simp_all; done)), (by exact hR.grow _)⟩ ?_
    rintro _ wl3 _ ⟨l, ys, rfl, rfl, hU2, hb2, hl, hR⟩
    have hU1 := hU1.trans hU2 ⟨hk1_2, trivial⟩
    have hb1 := hb1.loop hU2 ⟨hd1_2, trivial⟩
    have hk2_2 : OkB [(some b2.block)] wl2 (some b2.block) := OkB.mem (by simp)
    have hB := hB.loop hU2 ⟨hl2, trivial⟩
    refine CW.seq ?_
    refine CW.seq ?_
    refine CW.reg ?_
    refine WL.mv rfl rfl ?_
    refine WL.mv rfl rfl ?_
    refine WL.pure rfl rfl rfl (PV.lss rfl rfl) ?_
    refine WL.nilS ?_
    refine CW.cond rfl (fun hc5 => ?_) (fun hc5 => ?_)
    · skip
      try simp only [nq] at hc5
      refine CW.skipS ?_
      refine CW.seq ?_
      refine CW.block ?_
      refine CW.seq ?_
      refine CW.reg ?_
      refine WL.pure rfl rfl rfl (PV.fieldAddr T.fl72_0 rfl hb1.cells) ?_
      refine WL.pure rfl rfl rfl (PV.load1 T.na2 rfl hb1.cells (Ext.refl _) rfl) ?_
      refine WL.mv rfl rfl ?_
      refine WL.nilS ?_
      refine CW.block ?_
      refine CW.loop (σk := [(1, _), (2, _), (6, _), (9, _), (10, _), (51, _)]) (fun ρ wz m => ∃ (a : Nat) (ys : List Int), ρ = [(52, .int .i64 (a : Nat))] ∧ m = a0.toNat - a ∧ UpdL [(some b2.block)] wl3 wz ∧ Bx wz b2 (List.map VI (ys)) ∧ ((a : Int) ≤ a0) ∧ (Rp ys (tabC a0 xa2 xa3 j ++ [inA xa3 a0 ((tabC a0 xa2 xa3 j).getD (l + 1) []) ((tabC a0 xa2 xa3 j).getD (j + 2 - (l + 1)) []) (inL xa3 a0 (tabC a0 xa2 xa3 j) (j + 2) (zr a0.toNat) l) a]))) (ρ₀ := [(52, _)]) (m₀ := _) ⟨rfl, rfl, rfl, rfl, rfl, rfl, rfl, trivial⟩ ⟨0, _, rfl, rfl, (UpdL.refl _ _), bxM hb2 (by rfl), (by first | omega | rfl | (simp; done) | assumption | (simp_all; done)), (by exact hR)⟩ ?_
      rintro _ wl4 _ ⟨a, ys, rfl, rfl, hU3, hb2, ha9, hR⟩
      have hU1 := hU1.trans hU3 ⟨hk1_2, trivial⟩
      have hU2 := hU2.trans hU3 ⟨hk2_2, trivial⟩
      have hb1 := hb1.loop hU3 ⟨hd1_2, trivial⟩
      have hk3_2 : OkB [(some b2.block)] wl3 (some b2.block) := OkB.mem (by simp)
      have hB := hB.loop hU3 ⟨hl2, trivial⟩
      refine CW.seq ?_
      refine CW.reg ?_
      refine WL.pure rfl rfl rfl (PV.lss rfl rfl) ?_
      refine WL.nilS ?_
      refine CW.seq ?_
      refine CW.cond rfl (fun hc6 => ?_) (fun hc6 => ?_)
      · skip
        try simp only [nq] at hc6
        refine CW.skipS ?_
        refine CW.seq ?_
        refine CW.block ?_
        refine CW.seq ?_
        refine CW.reg ?_
        refine WL.mv rfl rfl ?_
        refine WL.asg rfl rfl ?_
        refine WL.nilS ?_
        refine CW.seq ?_
        refine CW.reg ?_
        refine WL.pure rfl rfl rfl (PV.fieldAddr T.fl72_0 rfl hb1.cells) ?_
        refine WL.pure rfl rfl rfl (PV.load1 T.na2 rfl hb1.cells (Ext.refl _) rfl) ?_
        refine WL.mv rfl rfl ?_
        refine WL.nilS ?_
        refine CW.block ?_
        refine CW.loop (σk := [(1, _), (2, _), (6, _), (9, _), (10, _), (11, _), (51, _), (52, _), (56, _)]) (fun ρ wz m => ∃ (b : Nat) (ys : List Int), ρ = [(57, .int .i64 (b : Nat))] ∧ m = a0.toNat - b ∧ UpdL [(some b2.block)] wl4 wz ∧ Bx wz b2 (List.map VI (ys)) ∧ ((b : Int) ≤ a0) ∧ (Rp ys (tabC a0 xa2 xa3 j ++ [inB xa3 a0 ((tabC a0 xa2 xa3 j).getD (l + 1) []) ((tabC a0 xa2 xa3 j).getD (j + 2 - (l + 1)) []) a (inA xa3 a0 ((tabC a0 xa2 xa3 j).getD (l + 1) []) ((tabC a0 xa2 xa3 j).getD (j + 2 - (l + 1)) []) (inL xa3 a0 (tabC a0 xa2 xa3 j) (j + 2) (zr a0.toNat) l) a) b]))) (ρ₀ := [(57, _)]) (m₀ := _) ⟨rfl, rfl, rfl, rfl, rfl, rfl, rfl, rfl, rfl, rfl, trivial⟩ ⟨0, _, rfl, rfl, (UpdL.refl _ _), bxM hb2 (by rfl), (by first | omega | rfl | (simp; done) | assumption | (simp_all; done)), (by exact hR)⟩ ?_
        rintro _ wl5 _ ⟨b, ys, rfl, rfl, hU4, hb2, hb9, hR⟩
        have hU1 := hU1.trans hU4 ⟨hk1_2, trivial⟩
        have hU2 := hU2.trans hU4 ⟨hk2_2, trivial⟩
        have hU3 := hU3.trans hU4 ⟨hk3_2, trivial⟩
        have hb1 := hb1.loop hU4 ⟨hd1_2, trivial⟩
        have hk4_2 : OkB [(some b2.block)] wl4 (some b2.block) := OkB.mem (by simp)
        have hB := hB.loop hU4 ⟨hl2, trivial⟩
        refine CW.seq ?_
        refine CW.reg ?_
        refine WL.pure rfl rfl rfl (PV.lss rfl rfl) ?_
        refine WL.nilS ?_
        refine CW.seq ?_
        refine CW.cond rfl (fun hc7 => ?_) (fun hc7 => ?_)
        · skip
          try simp only [nq] at hc7
          refine CW.skipS ?_
          refine CW.seq ?_
          refine CW.block ?_
          refine CW.seq ?_
          refine CW.reg ?_
          refine WL.mv rfl rfl ?_
          refine WL.asg rfl rfl ?_
          refine WL.nilS ?_
          refine CW.draw T.mixed (by kernel_rfl) (fun _ _ _ _ _ h => h) (fun w8 w9 => Upd none w8 w9) 24 (.take 0 (.take 1 (.take 2 (.take 3 (.take 5 (.take 8 (.take 9 (.take 10 (.take 11 (.take 12 (.take 13 (.take 14 (.take 15 (.take 16 (.take 17 (.take 18 (.take 19 (.take 20 (.take 22 (.must 4 (.must 6 (.must 7 (.take 21 (.must 23 (.must 24 .done))))))))))))))))))))))))) (by kernel_rfl) (fun w7 hXd => ?_)
          have hB := hB.trans hXd
          have hb1 := hb1.up hXd
          have hb2 := hb2.up hXd
          have hU1 := hU1.ext hXd
          have hU2 := hU2.ext hXd
          have hU3 := hU3.ext hXd
          have hU4 := hU4.ext hXd
          have hBr := hB
          have hS : Upd none w7 w7 := Ext.toUpd (Ext.refl _)
          have hnn := hR.1; have hix := sq_idx (q := (a : Int)) (r := (b : Int)) hcv1 (by omega) (by omega) hcv4; have hcx := allIn_get hcv7 (k := ((a : Int) * a0 + (b : Int)).toNat) (by omega); have hp := hR.old (l := l + 1) (s := a) (by rw [tabC_len]; omega) (by omega) (by omega); have hq := hR.old (l := j + 2 - (l + 1)) (s := b) (by rw [tabC_len]; omega) (by omega) (by omega); have hcl : (inB xa3 a0 ((tabC a0 xa2 xa3 j).getD (l + 1) []) ((tabC a0 xa2 xa3 j).getD (j + 2 - (l + 1)) []) a (inA xa3 a0 ((tabC a0 xa2 xa3 j).getD (l + 1) []) ((tabC a0 xa2 xa3 j).getD (j + 2 - (l + 1)) []) (inL xa3 a0 (tabC a0 xa2 xa3 j) (j + 2) (zr a0.toNat) l) a) b).length = a0.toNat := (by rw [inB_len, inA_len, inL_len, zr_len])
          refine HP.take rfl rfl rfl rfl hS (fun wS hS1 => PV.move rfl) ?_
          refine HP.take rfl rfl rfl rfl hS (fun wS hS1 => PV.loadA T.ag72 rfl (Bx.cells (Bx.updD (by assumption) hS1 (Dj.nlR _))) (Ext.refl _) rfl) ?_
          refine HP.take rfl rfl rfl rfl hS (fun wS hS1 => PV.move rfl) ?_
          refine HP.take rfl rfl rfl rfl hS (fun wS hS1 => PV.move rfl) ?_
          refine HP.take rfl rfl rfl rfl hS (fun wS hS1 => (by first | exact PV.ixN T.ar171 rfl hb2.spot rfl (by omega) | exact PV.ixZ T.ar171 rfl hb2.spot rfl (by omega))) ?_
          refine HP.take rfl rfl rfl rfl hS (fun wS hS1 => PV.move rfl) ?_
          refine HP.take rfl rfl rfl rfl hS (fun wS hS1 => PV.move rfl) ?_
          refine HP.take rfl rfl rfl rfl hS (fun wS hS1 => (by first | exact PV.ixN T.ar171 rfl hb2.spot rfl (by omega) | exact PV.ixZ T.ar171 rfl hb2.spot rfl (by omega))) ?_
          refine HP.take rfl rfl rfl rfl hS (fun wS hS1 => (by first | exact PV.ixPN1 T.ar170 rfl rfl (by omega) | exact PV.ixPZ1 T.ar170 rfl rfl (by omega))) ?_
          refine HP.take rfl rfl rfl rfl hS (fun wS hS1 => PV.loadArr 0 T.na2 rfl (Bx.cells (Bx.updD hb2 hS1 (Dj.nlR _))) (Ext.refl _) (by first | omega | (simp only [List.length_set]; omega))) ?_
          refine HP.take rfl rfl rfl rfl hS (fun wS hS1 => PV.move rfl) ?_
          refine HP.take rfl rfl rfl rfl hS (fun wS hS1 => PV.move rfl) ?_
          refine HP.take rfl rfl rfl rfl hS (fun wS hS1 => PV.sub rfl rfl (by constructor <;> omega)) ?_
          refine HP.take rfl rfl rfl rfl hS (fun wS hS1 => PV.move rfl) ?_
          refine HP.take rfl rfl rfl rfl hS (fun wS hS1 => (by first | exact PV.ixN T.ar171 rfl hb2.spot rfl (by omega) | exact PV.ixZ T.ar171 rfl hb2.spot rfl (by omega))) ?_
          refine HP.take rfl rfl rfl rfl hS (fun wS hS1 => (by first | exact PV.ixPN1 T.ar170 rfl rfl (by omega) | exact PV.ixPZ1 T.ar170 rfl rfl (by omega))) ?_
          refine HP.take rfl rfl rfl rfl hS (fun wS hS1 => PV.loadArr 0 T.na2 rfl (Bx.cells (Bx.updD hb2 hS1 (Dj.nlR _))) (Ext.refl _) (by first | omega | (simp only [List.length_set]; omega))) ?_
          refine HP.take rfl rfl rfl rfl hS (fun wS hS1 => PV.mulW rfl rfl) ?_
          refine HP.take rfl rfl rfl rfl hS (fun wS hS1 => (by first | exact PV.ixN T.ar171 rfl hb2.spot rfl (by omega) | exact PV.ixZ T.ar171 rfl hb2.spot rfl (by omega))) ?_
          refine HP.must rfl rfl (OpK.callR rfl T.cf138 rfl (c_impl_TreeMachine_join (by first | assumption | exact Rd.up (by assumption) hB | exact Osl.rd (by assumption) | exact Osn.rdR (by assumption) | exact NL.rd (by assumption) | exact rdII (by assumption) (by assumption) | exact Inn.rd (by assumption) (by omega)) (by first | assumption | exact Rd.up (by assumption) hB | exact Osl.rd (by assumption) | exact Osn.rdR (by assumption) | exact NL.rd (by assumption) | exact rdII (by assumption) (by assumption) | exact Inn.rd (by assumption) (by omega)) (by first | assumption | exact Rd.up (by assumption) hB | exact Osl.rd (by assumption) | exact Osn.rdR (by assumption) | exact NL.rd (by assumption) | exact rdII (by assumption) (by assumption) | exact Inn.rd (by assumption) (by omega)) (by first | assumption | omega | (simp only [marks_len, marksB_len, marksR_len]; omega)) (by first | assumption | omega | (simp only [marks_len, marksB_len, marksR_len]; omega)) (by first | assumption | omega | (simp only [marks_len, marksB_len, marksR_len]; omega)) (by first | assumption | omega | (simp only [marks_len, marksB_len, marksR_len]; omega))) (fun w8 hXw8 => ?_))
          refine ⟨Upd.trans hS hXw8, ?_⟩
          have hS := Upd.trans hS hXw8
          have hB := hB.trans hXw8
          have hb1 := hb1.up hXw8
          have hb2 := hb2.up hXw8
          have hU1 := hU1.ext hXw8
          have hU2 := hU2.ext hXw8
          have hU3 := hU3.ext hXw8
          have hU4 := hU4.ext hXw8
          refine HP.must rfl rfl (OpK.pure rfl rfl ((by first | exact PV.ixPN1 T.ar170 rfl rfl (by omega) | exact PV.ixPZ1 T.ar170 rfl rfl (by omega))) ⟨hS, ?_⟩)
          refine HP.must rfl rfl (OpK.pure rfl rfl (PV.loadArr 0 T.na2 rfl (Bx.cells hb2) (Ext.refl _) (by first | omega | (simp only [List.length_set]; omega))) ⟨hS, ?_⟩)
          refine HP.take rfl rfl rfl rfl hS (fun wS hS1 => PV.addW rfl rfl) ?_
          refine HP.must rfl rfl (OpK.pure rfl rfl ((by first | exact PV.ixPN1 T.ar170 rfl rfl (by omega) | exact PV.ixPZ1 T.ar170 rfl rfl (by omega))) ⟨hS, ?_⟩)
          refine HP.last rfl rfl (OpK.storeArr T.sz2 rfl rfl rfl hb2 (by first | omega | (simp only [List.length_set]; omega)) (fun w9 hXw9 hb2 => ?_))
          have hB := hB.updL hXw9 hl2
          have hb1 := hb1.updD hXw9 hd1_2
          have hU1 := hU1.step hXw9 hk1_2
          have hU2 := hU2.step hXw9 hk2_2
          have hU3 := hU3.step hXw9 hk3_2
          have hU4 := hU4.step hXw9 hk4_2
          refine HP.done ?_
          refine NQ.block ?_
          refine NQ.then ?_
          refine CW.reg ?_
          refine WL.pure rfl rfl rfl (PV.add rfl rfl (by constructor <;> omega)) ?_
          refine WL.mv rfl rfl ?_
          refine WL.nil ?_
          refine NQ.next (ρ := [(57, _)]) ⟨rfl, rfl, rfl, rfl, rfl, rfl, rfl, rfl, rfl, rfl, trivial⟩ ?_
          exact ⟨_, ⟨b + 1, _, rfl, rfl, hU4, bxM hb2 (by rfl), (by first | omega | assumption | (simp_all; done) | (simp_all; omega)), (by have h9 := hR.bmp (m := j + 2) (c := (xa3.getD ((a : Int) * a0 + (b : Int)).toNat 0).toNat) (v := IntKind.i64.wrap (((tabC a0 xa2 xa3 j).getD (l + 1) []).getD a 0 * ((tabC a0 xa2 xa3 j).getD (j + 2 - (l + 1)) []).getD b 0)) (tabC_len j).symm (by omega) (by rw [hcl]; omega) (by omega); rw [inB_succ, ← hp, ← hq] at h9; have e9 : (((j + 2 : Nat) : Int) - ((l + 1 : Nat) : Int)).toNat = j + 2 - (l + 1) := (by omega); first | exact h9 | (rw [e9]; exact h9))⟩, by omega⟩
        try simp only [nq] at hc7
        refine CW.exit ?_
        refine XQ.then ?_
        refine XQ.then ?_
        refine XQ.here ?_
        refine NQ.block ?_
        refine NQ.then ?_
        refine CW.reg ?_
        refine WL.pure rfl rfl rfl (PV.add rfl rfl (by constructor <;> omega)) ?_
        refine WL.mv rfl rfl ?_
        refine WL.nil ?_
        refine NQ.next (ρ := [(52, _)]) ⟨rfl, rfl, rfl, rfl, rfl, rfl, rfl, trivial⟩ ?_
        exact ⟨_, ⟨a + 1, _, rfl, rfl, hU3, bxM hb2 (by rfl), (by first | omega | assumption | (simp_all; done) | (simp_all; omega)), (by rw [← inA_succ]; (obtain rfl : b = a0.toNat := (by omega)); exact hR)⟩, by omega⟩
      try simp only [nq] at hc6
      refine CW.exit ?_
      refine XQ.then ?_
      refine XQ.then ?_
      refine XQ.here ?_
      refine NQ.block ?_
      refine NQ.then ?_
      refine CW.reg ?_
      refine WL.mv rfl rfl ?_
      refine WL.pure rfl rfl rfl (PV.add rfl rfl (by constructor <;> omega)) ?_
      refine WL.asg rfl rfl ?_
      refine WL.nil ?_
      refine NQ.next (ρ := [(10, _)]) ⟨rfl, rfl, rfl, rfl, rfl, trivial⟩ ?_
      exact ⟨_, ⟨l + 1, _, rfl, rfl, hU2, bxM hb2 (by rfl), (by first | omega | assumption | (simp_all; done) | (simp_all; omega)), (by rw [← inL_succ]; (obtain rfl : a = a0.toNat := (by omega)); exact hR)⟩, by omega⟩
    try simp only [nq] at hc5
    refine CW.exit ?_
    refine XQ.then ?_
    refine XQ.then ?_
    refine XQ.here ?_
    refine NQ.block ?_
    refine NQ.then ?_
    refine CW.reg ?_
    refine WL.mv rfl rfl ?_
    refine WL.pure rfl rfl rfl (PV.add rfl rfl (by constructor <;> omega)) ?_
    refine WL.asg rfl rfl ?_
    refine WL.nil ?_
    refine NQ.next (ρ := [(9, _)]) ⟨rfl, rfl, rfl, rfl, trivial⟩ ?_
    exact ⟨_, ⟨j + 1, _, rfl, rfl, hU1, bxM hb2 (by rfl), (by first | omega | assumption | (simp_all; done) | (simp_all; omega)), (by (obtain rfl : l = j + 1 := (by omega)); exact hR)⟩, by omega⟩
  try simp only [nq] at hc4
  refine CW.exit ?_
  refine XQ.then ?_
  refine XQ.then ?_
  refine XQ.here ?_
  refine NQ.then ?_
  refine CW.seq ?_
  refine CW.reg ?_
  refine WL.asg rfl rfl ?_
  refine WL.nilS ?_
  refine CW.seq ?_
  refine CW.seq ?_
  refine CW.reg ?_
  refine WL.pure rfl rfl rfl (PV.fieldAddr T.fl72_4 rfl hb1.cells) ?_
  refine WL.pure rfl rfl rfl (PV.load1 T.na62 rfl hb1.cells (Ext.refl _) rfl) ?_
  refine WL.pure rfl rfl rfl ((by first | exact PV.len rfl (by assumption) T.sl62 | exact PV.lenOs rfl (by assumption) T.sl62 | exact PV.len rfl (NL.rd (by assumption)) T.sl62 | exact PV.len rfl (Inn.rd (by assumption) (by omega)) T.sl62)) ?_
  refine WL.mv rfl rfl ?_
  refine WL.nilS ?_
  refine CW.block ?_
  refine CW.loop (σk := [(1, _), (6, _), (87, _), (88, _)]) (fun ρ wz m => ∃ (k : Nat), ρ = [(13, .int .i64 (sumE xa4 ((tabC a0 xa2 xa3 j).getD n.toNat []) k)), (89, .int .i64 (k : Nat))] ∧ m = xa4.length - k ∧ UpdL [] wl2 wz ∧ (k ≤ xa4.length)) (ρ₀ := [(13, _), (89, _)]) (m₀ := _) ⟨rfl, rfl, rfl, rfl, rfl, rfl, trivial⟩ ⟨0, rfl, rfl, (UpdL.refl _ _), (by first | omega | rfl | (simp; done) | assumption | (simp_all; done))⟩ ?_
  rintro _ wl6 _ ⟨k, rfl, rfl, hU5, hk⟩
  have hb1 := hb1.loop hU5 trivial
  have hb2 := hb2.loop hU5 trivial
  have hB := hB.loop hU5 trivial
  refine CW.seq ?_
  refine CW.reg ?_
  refine WL.pure rfl rfl rfl (PV.lss rfl rfl) ?_
  refine WL.nilS ?_
  refine CW.seq ?_
  refine CW.cond rfl (fun hc8 => ?_) (fun hc8 => ?_)
  · skip
    try simp only [nq] at hc8
    refine CW.skipS ?_
    refine CW.seq ?_
    refine CW.block ?_
    refine CW.seq ?_
    refine CW.reg ?_
    refine WL.mv rfl rfl ?_
    first
      | refine WL.at (x := .tmp 87) (y := .tmp 89) (E := EB) (false) rfl rfl (by first | assumption | exact Inn.rd (by assumption) (by omega)) (by first | omega | (simp only [List.length_set]; omega) | (simp only [List.length_append, List.length_take, List.length_replicate, List.length_drop]; omega)) (fun p2 csp2 hpp2 hcp2 hq => ?_)
      | refine WL.atZ (x := .tmp 87) (y := .tmp 89) (E := EB) (false) rfl rfl (by first | assumption | exact Inn.rd (by assumption) (by omega)) (by first | omega | (simp only [List.length_set]; omega) | (simp only [List.length_append, List.length_take, List.length_replicate, List.length_drop]; omega)) (fun p2 csp2 hpp2 hzp2 hcp2 hq => ?_)
    cases hq
    refine WL.pure rfl rfl rfl ((by first | exact PV.indexAddr hpp2 rfl rfl T.sl62 | exact PV.indexAddr hpp2 rfl (by rw [← hzp2]; rfl) T.sl62)) ?_
    refine WL.pure rfl rfl rfl ((by first | exact PV.load0 T.na4 rfl (by first | exact Cells.up (by assumption) hB | exact Bx.cells (by assumption) | assumption) (Ext.refl _) rfl | exact PV.load1 T.na4 rfl (by first | exact Cells.up (by assumption) hB | exact Bx.cells (by assumption) | assumption) (Ext.refl _) rfl)) ?_
    refine WL.asg rfl rfl ?_
    refine WL.asg rfl rfl ?_
    refine WL.nilS ?_
    refine CW.seq ?_
    refine CW.reg ?_
    refine WL.mv rfl rfl ?_
    refine WL.nilS ?_
    refine CW.cond rfl (fun hc9 => ?_) (fun hc9 => ?_)
    · skip
      try simp only [nq] at hc9
      refine CW.reg ?_
      have hnn := hR.1; have hS9 := hR.get (l := n.toNat) (s := k) (by omega) (by omega)
      refine WL.mv rfl rfl ?_
      refine WL.mv rfl rfl ?_
      refine WL.mv rfl rfl ?_
      refine WL.pure rfl rfl rfl ((by first | exact PV.ixN T.ar171 rfl hb2.spot rfl (by omega) | exact PV.ixZ T.ar171 rfl hb2.spot rfl (by omega))) ?_
      refine WL.pure rfl rfl rfl ((by first | exact PV.ixPN1 T.ar170 rfl rfl (by omega) | exact PV.ixPZ1 T.ar170 rfl rfl (by omega))) ?_
      refine WL.pure rfl rfl rfl (PV.loadArr 0 T.na2 rfl (Bx.cells hb2) (Ext.refl _) (by first | omega | (simp only [List.length_set]; omega))) ?_
      refine WL.pure rfl rfl rfl (PV.addW rfl rfl) ?_
      refine WL.asg rfl rfl ?_
      refine WL.nil ?_
      refine NQ.block ?_
      refine NQ.then ?_
      refine CW.reg ?_
      refine WL.pure rfl rfl rfl (PV.add rfl rfl (by constructor <;> omega)) ?_
      refine WL.mv rfl rfl ?_
      refine WL.nil ?_
      refine NQ.next (ρ := [(13, _), (89, _)]) ⟨rfl, rfl, rfl, rfl, rfl, rfl, trivial⟩ ?_
      exact ⟨_, ⟨k + 1, (by first | (rw [hS9, sumE_yes (by assumption)]; rfl) | (rw [← sumE_no (by assumption)]; rfl)), rfl, hU5, (by first | omega | assumption | (simp_all; done) | (simp_all; omega))⟩, by omega⟩
    try simp only [nq] at hc9
    refine CW.skip ?_
    refine NQ.block ?_
    refine NQ.then ?_
    refine CW.reg ?_
    refine WL.pure rfl rfl rfl (PV.add rfl rfl (by constructor <;> omega)) ?_
    refine WL.mv rfl rfl ?_
    refine WL.nil ?_
    refine NQ.next (ρ := [(13, _), (89, _)]) ⟨rfl, rfl, rfl, rfl, rfl, rfl, trivial⟩ ?_
    exact ⟨_, ⟨k + 1, (by first | (rw [hS9, sumE_yes (by assumption)]; rfl) | (rw [← sumE_no (by assumption)]; rfl)), rfl, hU5, (by first | omega | assumption | (simp_all; done) | (simp_all; omega))⟩, by omega⟩
  try simp only [nq] at hc8
  refine CW.exit ?_
  refine XQ.then ?_
  refine XQ.then ?_
  refine XQ.here ?_
  refine NQ.then ?_
  refine CW.seq ?_
  refine CW.reg ?_
  refine WL.mv rfl rfl ?_
  refine WL.asg rfl rfl ?_
  refine WL.asg rfl rfl ?_
  refine WL.nilS ?_
  refine CW.ret ?_
  refine RQ.r2 rfl rfl ?_
  refine ⟨?_, hB⟩
  first | exact tE2 (iE (ct_n1 (treesB_no (by assumption))).symm) (bE (ct_n1b (treesB_no (by assumption))).symm) | exact tE2 (iE (ct_n2 (by omega)).symm) (bE (ct_n2b (by omega)).symm) | exact tE2 (iE (ct_y (j := j) (k := k) hvb (by omega) (by omega) (by omega)).symm) (bE (ct_yb hvb (by omega)).symm)
theorem c_impl_IsWord {w : World} {va : Value} {xs : List Int} {L : Int} (ha : Rd EI w va xs) : Calls Try.prog 124 #[va, .int .i64 L] w (Ret1 (RQt (.bool (isWordB xs L)) w)) := by
  have hB : Ext w w := Ext.refl w
  have hla := ha.leI
  refine callsOf (vs := [_, _]) Try.func124 rfl Try.ntmps124 rfl rfl ?_
  refine CW.seq ?_
  refine CW.reg ?_
  refine WL.asg rfl rfl ?_
  refine WL.nilS ?_
  refine CW.seq ?_
  refine CW.reg ?_
  refine WL.mv rfl rfl ?_
  refine WL.op rfl (OpK.callR rfl T.cf104 rfl (c_impl_within) (fun w1 hXw1 => ?_))
  have hB := hB.trans hXw1
  refine WL.mv rfl rfl ?_
  refine WL.split (t := 7) rfl (fun hc1 => ?_) (fun hc1 => ?_)
  rotate_left
  · skip
    try simp only [nq] at hc1
    refine WL.skip rfl rfl rfl rfl rfl ?_
    refine WL.skip rfl rfl rfl rfl rfl ?_
    refine WL.skip rfl rfl rfl rfl rfl ?_
    refine WL.pure rfl rfl rfl (PV.pickF rfl rfl) ?_
    refine WL.mv rfl rfl ?_
    refine WL.skip rfl rfl rfl rfl rfl ?_
    refine WL.skip rfl rfl rfl rfl rfl ?_
    refine WL.skip rfl rfl rfl rfl rfl ?_
    refine WL.skip rfl rfl rfl rfl rfl ?_
    refine WL.pure rfl rfl rfl (PV.pickF rfl rfl) ?_
    refine WL.asg rfl rfl ?_
    refine WL.nilS ?_
    refine CW.ret ?_
    refine RQ.r1 rfl ?_
    refine ⟨?_, hB⟩
    simp only [isWordB, wordB]; first | (simp_all; done) | (simp_all; omega) | (simp_all; intros; omega)
  try simp only [nq] at hc1
  refine WL.pureG rfl rfl rfl rfl rfl (PV.move rfl) ?_
  refine WL.pureG rfl rfl rfl rfl rfl ((by first | exact PV.len rfl (by assumption) T.sl28 | exact PV.lenOs rfl (by assumption) T.sl28 | exact PV.len rfl (NL.rd (by assumption)) T.sl28 | exact PV.len rfl (Inn.rd (by assumption) (by omega)) T.sl28)) ?_
  refine WL.pureG rfl rfl rfl rfl rfl (PV.leq rfl rfl) ?_
  refine WL.pure rfl rfl rfl (PV.pickT rfl rfl) ?_
  refine WL.mv rfl rfl ?_
  refine WL.split (t := 12) rfl (fun hc2 => ?_) (fun hc2 => ?_)
  rotate_left
  · skip
    try simp only [nq] at hc2
    refine WL.skip rfl rfl rfl rfl rfl ?_
    refine WL.skip rfl rfl rfl rfl rfl ?_
    refine WL.skip rfl rfl rfl rfl rfl ?_
    refine WL.skip rfl rfl rfl rfl rfl ?_
    refine WL.pure rfl rfl rfl (PV.pickF rfl rfl) ?_
    refine WL.asg rfl rfl ?_
    refine WL.nilS ?_
    refine CW.ret ?_
    refine RQ.r1 rfl ?_
    refine ⟨?_, hB⟩
    simp only [isWordB, wordB]; first | (simp_all; done) | (simp_all; omega) | (simp_all; intros; omega)
  try simp only [nq] at hc2
  refine WL.pureG rfl rfl rfl rfl rfl (PV.move rfl) ?_
  refine WL.pureG rfl rfl rfl rfl rfl (PV.move rfl) ?_
  refine WL.pureG rfl rfl rfl rfl rfl (PV.sub rfl rfl (by constructor <;> omega)) ?_
  refine WL.opG rfl rfl rfl (OpK.callR rfl T.cf144 rfl (c_impl_areWithin (by first | assumption | exact Rd.up (by assumption) hB | exact Osl.rd (by assumption) | exact Osn.rdR (by assumption) | exact NL.rd (by assumption) | exact rdII (by assumption) (by assumption) | exact Inn.rd (by assumption) (by omega))) (fun w2 hXw2 => ?_))
  have hB := hB.trans hXw2
  refine WL.pure rfl rfl rfl (PV.pickT rfl rfl) ?_
  refine WL.asg rfl rfl ?_
  refine WL.nilS ?_
  refine CW.ret ?_
  refine RQ.r1 rfl ?_
  refine ⟨?_, hB⟩
  simp only [isWordB, wordB]; first | (simp_all; done) | (simp_all; omega) | (simp_all; intros; omega)

end Go.Proofs.Ythemmoceomdccaa
