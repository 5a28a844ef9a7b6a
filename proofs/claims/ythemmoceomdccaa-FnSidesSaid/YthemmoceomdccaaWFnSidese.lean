/- Walks of the functions that the law FnSides reaches: each says what its function computes. No condition. -/
import Derived.Test.YthemmoceomdccaaProg
import Derived.Test.YthemmoceomdccaaLibM
import Derived.Test.YthemmoceomdccaaPlA
import Derived.Test.YthemmoceomdccaaPlG
import Derived.Test.YthemmoceomdccaaPlS
import Derived.Test.YthemmoceomdccaaLibG2
import Derived.Test.YthemmoceomdccaaPlT
import Derived.Test.YthemmoceomdccaaLibMp
import Derived.Test.YthemmoceomdccaaPlRd
import Derived.Test.YthemmoceomdccaaLibV
import Derived.Test.YthemmoceomdccaaLibW
import Derived.Test.YthemmoceomdccaaPlI2
import Derived.Test.YthemmoceomdccaaPlDq
import Derived.Test.YthemmoceomdccaaPlSd
import Derived.Test.YthemmoceomdccaaPlSe
import Derived.Test.YthemmoceomdccaaWFnSidesd
namespace Go.Proofs.Ythemmoceomdccaa
open Go Go.WX Go.Proofs
set_option linter.unusedSimpArgs false
set_option linter.unusedVariables false

set_option maxHeartbeats 8000000 in
theorem c_spec_EitherSided {w : World} {a0 : Int} {a1 : Int} {va2 : Value} {xa2 : List R4} {va3 : Value} {xa3 : List Bool} {y0 : Int} {y1 : Int} {vy2 : Value} {xy2 : List R4} {vy3 : Value} {xy3 : List Bool}  (ha2 : Rd ER w va2 xa2) (ha3 : Rd EB w va3 xa3) (hy2 : Rd ER w vy2 xy2) (hy3 : Rd EB w vy3 xy3) : Calls Try.prog 68 #[.agg #[.int .i64 a0, .int .i64 a1, va2, va3], .agg #[.int .i64 y0, .int .i64 y1, vy2, vy3]] w (Ret1 (fun v w' => Ext w w' ∧ ∃ u2 og_u2 u3 og_u3, v = .tuple #[.agg #[.int .i64 (onI (bothB a0 a1 xa2 xa3 y0 y1 xy2 xy3) (1 + a0 + y0)), .int .i64 (onI (bothB a0 a1 xa2 xa3 y0 y1 xy2 xy3) a1), u2, u3], .bool (bothB a0 a1 xa2 xa3 y0 y1 xy2 xy3)] ∧ Osn 4 gR w' og_u2 u2 (onT (bothB a0 a1 xa2 xa3 y0 y1 xy2 xy3) (eA a0 xa2 xy2)) ∧ Lo w og_u2 ∧ Osl VB w' og_u3 u3 (onT (bothB a0 a1 xa2 xa3 y0 y1 xy2 xy3) (eE xa3 xy3)) ∧ Lo w og_u3 ∧ Dj og_u2 og_u3)) := by
  have hB : Ext w w := Ext.refl w
  have hla2 := ha2.leI; have hla3 := ha3.leI; have hly2 := hy2.leI; have hly3 := hy3.leI
  refine callsOf (vs := [_, _]) Try.func68 rfl Try.ntmps68 rfl rfl ?_
  refine CW.seq ?_
  refine CW.reg ?_
  refine WL.op rfl (OpK.box rfl rfl (by first | exact Rd.cells1 (by assumption) | exact Osl.cells1 (by assumption) | exact Osn.cells1 (by assumption) | exact Rd.cells1 (NL.rd (by assumption)) | exact Inn.cell1 (by assumption) (by omega) | assumption | rfl) (fun b1 w1 hXw1 hb1 hge1 => ?_))
  have hl1 := Lo.new hB hge1
  have hB := hB.trans hXw1
  refine WL.op rfl (OpK.box rfl rfl (by first | exact Rd.cells1 (by assumption) | exact Osl.cells1 (by assumption) | exact Osn.cells1 (by assumption) | exact Rd.cells1 (NL.rd (by assumption)) | exact Inn.cell1 (by assumption) (by omega) | assumption | rfl) (fun b2 w2 hXw2 hb2 hge2 => ?_))
  have hl2 := Lo.new hB hge2
  have hd1_2 := Dj.new hb1.ltO hge2
  have hB := hB.trans hXw2
  have hb1 := hb1.up hXw2
  refine WL.op rfl (OpK.alloc rfl T.zv88 rfl (fun b3 w3 hXw3 hb3 hge3 => ?_))
  have hl3 := Lo.new hB hge3
  have hd1_3 := Dj.new hb1.ltO hge3
  have hd2_3 := Dj.new hb2.ltO hge3
  have hB := hB.trans hXw3
  have hb1 := hb1.up hXw3
  have hb2 := hb2.up hXw3
  refine WL.asg rfl rfl ?_
  refine WL.nilS ?_
  refine CW.seq ?_
  refine CW.seq ?_
  refine CW.reg ?_
  refine WL.op rfl (OpK.callR rfl T.cf150 rfl (c_spec_l05Two (by first | exact Bx.cells (by assumption) | exact Cells.up (by assumption) hB | assumption | exact Cells.add (Bx.cells (by assumption)) _ | exact Cells.add (Cells.up (by assumption) hB) _) (by first | exact Bx.cells (by assumption) | exact Cells.up (by assumption) hB | assumption | exact Cells.add (Bx.cells (by assumption)) _ | exact Cells.add (Cells.up (by assumption) hB) _) (by first | assumption | exact Rd.up (by assumption) hB | exact Osl.rd (by assumption) | exact Osn.rdR (by assumption) | exact NL.rd (by assumption) | exact rdII (by assumption) (by assumption) | exact Inn.rd (by assumption) (by omega)) (by first | assumption | exact Rd.up (by assumption) hB | exact Osl.rd (by assumption) | exact Osn.rdR (by assumption) | exact NL.rd (by assumption) | exact rdII (by assumption) (by assumption) | exact Inn.rd (by assumption) (by omega)) (by first | assumption | exact Rd.up (by assumption) hB | exact Osl.rd (by assumption) | exact Osn.rdR (by assumption) | exact NL.rd (by assumption) | exact rdII (by assumption) (by assumption) | exact Inn.rd (by assumption) (by omega)) (by first | assumption | exact Rd.up (by assumption) hB | exact Osl.rd (by assumption) | exact Osn.rdR (by assumption) | exact NL.rd (by assumption) | exact rdII (by assumption) (by assumption) | exact Inn.rd (by assumption) (by omega))) (fun w4 hXw4 => ?_))
  have hB := hB.trans hXw4
  have hb1 := hb1.up hXw4
  have hb2 := hb2.up hXw4
  have hb3 := hb3.up hXw4
  refine WL.pure rfl rfl rfl (PV.not rfl) ?_
  refine WL.nilS ?_
  refine CW.cond rfl (fun hc1 => ?_) (fun hc1 => ?_)
  · skip
    try simp only [nq] at hc1
    refine CW.seq ?_
    refine CW.reg ?_
    refine WL.pure rfl rfl rfl (PV.build (ks := []) (os := []) (css := []) (ds := [_, _, _, _]) T.bu88 rfl rfl trivial rfl) ?_
    refine WL.op rfl (OpK.storeA T.sz88 rfl rfl rfl rfl (by simp [Value.oneCell'] <;> first | done | (repeat' apply And.intro) <;> first | rfl | exact Inn.one1 (by assumption) (by omega) | exact Osl.oneCell (by assumption) | exact Osn.oneCell (by assumption) | exact Rd.oneCell (by assumption) | exact Rd.oneCell (NL.rd (by assumption)) | assumption) hb3 (fun w5 hXw5 hb3 => ?_))
    have hB := hB.updL hXw5 hl3
    have hb1 := hb1.updD hXw5 hd1_3
    have hb2 := hb2.updD hXw5 hd2_3
    refine WL.asg rfl rfl ?_
    refine WL.nilS ?_
    refine CW.ret ?_
    refine RQ.then ?_
    refine RQ.rc1 T.ag88 rfl (by first | exact Cells.up (by assumption) hB | exact Bx.cells (by assumption) | assumption) rfl rfl ?_
    refine ⟨hB, (.slice none 0 0), none, (.slice none 0 0), none, ?_, osnE (Osn.nil gR_ok _) ?_, Lo.nl _, osE (Osl.nil _ _) ?_, Lo.nl _, (Dj.nl _)⟩
    · skip
      first | (have hn : ¬ (bothB a0 a1 xa2 xa3 y0 y1 xy2 xy3) = true := (by first | exact both_n1 (by assumption) | exact both_n2 (by assumption) | exact both_n3 (by omega) | exact both_n6 (by assumption) | exact both_n4 (by assumption)); first | exact tE2 (by rw [onI_no hn, onI_no hn]) (bE (Bool.eq_false_iff.2 hn).symm) | exact tE2 (by rw [onI_no hn, onI_no hn]; rfl) (bE (Bool.eq_false_iff.2 hn).symm)) | (have hy : (bothB a0 a1 xa2 xa3 y0 y1 xy2 xy3) = true := (both_yes (by assumption) (by assumption) (by omega) (by assumption)); first | exact tE2 (by rw [onI_yes hy, onI_yes hy]; rfl) (bE hy.symm) | exact tE2 (by rw [onI_yes hy, onI_yes hy]) (bE hy.symm))
    · skip
      first | (rw [onT_no (by first | exact both_n1 (by assumption) | exact both_n2 (by assumption) | exact both_n3 (by omega) | exact both_n6 (by assumption) | exact both_n4 (by assumption))]; done) | (rw [onT_yes (both_yes (by assumption) (by assumption) (by omega) (by assumption))]; first | done | rfl)
    · skip
      first | (rw [onT_no (by first | exact both_n1 (by assumption) | exact both_n2 (by assumption) | exact both_n3 (by omega) | exact both_n6 (by assumption) | exact both_n4 (by assumption))]; done) | (rw [onT_yes (both_yes (by assumption) (by assumption) (by omega) (by assumption))]; first | done | rfl)
  try simp only [nq] at hc1
  have hand := (by assumption : sidedV a0 a1 xa2 xa3 ∧ sidedV y0 y1 xy2 xy3 ∧ a1 = y1); have hA0 := hand.1; have hY0 := hand.2.1; have hl0 := hand.2.2; have gA := (by assumption : sidedV a0 a1 xa2 xa3); have gY := (by assumption : sidedV y0 y1 xy2 xy3); have a8 := gA.1; have y8 := gY.1; have aL := gA.2.2.1; have yL := gY.2.2.1; have aE := gA.2.2.2.1; have yE := gY.2.2.2.1; have mlA := movL_len 1 xa2; have mlB := movL_len (1 + a0) xy2
  refine CW.skipS ?_
  refine CW.cut (σk := [(2, _), (3, _), (4, _)]) (fun ρ wz => ∃ (b4 : Addr) (v5 : Value) (og5 : Option Nat), ρ = [(6, .pointer (some b4))] ∧ Ext w4 wz ∧ Bx wz b4 [.int .i64 (1 + a0 + y0), .int .i64 a1, .slice none 0 0, v5] ∧ Lo w (some b4.block) ∧ Osl VB wz og5 v5 ([(xa3.getD (0 : Int).toNat false || xy3.getD (0 : Int).toNat false)]) ∧ Lo w og5 ∧ Dj (some b1.block) (some b4.block) ∧ Dj (some b1.block) og5 ∧ Dj (some b2.block) (some b4.block) ∧ Dj (some b2.block) og5 ∧ Dj (some b3.block) (some b4.block) ∧ Dj (some b3.block) og5 ∧ Dj (some b4.block) og5) ⟨rfl, rfl, rfl, trivial⟩ ?_ ?_
  · skip
    have hB0 := Ext.refl w4
    have hBc := Ext.refl w4
    refine CW.draw T.mixed (by kernel_rfl) (fun _ _ _ _ _ h => h) (fun w8 w9 => Upd none w8 w9) 22 (.take 0 (.take 1 (.take 2 (.take 3 (.take 4 (.take 5 (.take 6 (.take 7 (.take 8 (.take 9 (.take 10 (.take 11 (.take 12 (.split (.take 13 (.take 14 (.take 15 (.take 16 (.take 17 (.fork 18 20 (.take 19 (.must 20 (.must 21 .done))) (.must 18 (.take 19 (.must 21 .done))))))))) (.take 13 (.take 14 (.take 15 (.take 16 (.take 17 (.fork 18 20 (.take 19 (.must 20 (.must 21 .done))) (.must 18 (.take 19 (.must 21 .done))))))))))))))))))))))) (by kernel_rfl) (fun w6 hXd => ?_)
    have hB := hB.trans hXd
    have hBc := (by first | exact hBc.trans hXd | exact hB0.trans hXd)
    have hb1 := hb1.up hXd
    have hb2 := hb2.up hXd
    have hb3 := hb3.up hXd
    have hBr := hB
    have hS : Upd none w6 w6 := Ext.toUpd (Ext.refl _)
    refine HP.take rfl rfl rfl rfl hS (fun wS hS1 => PV.fieldAddr T.fl88_0 rfl hb1.cells) ?_
    refine HP.take rfl rfl rfl rfl hS (fun wS hS1 => PV.load1 T.na2 rfl (Bx.cells (Bx.updD (by assumption) hS1 (Dj.nlR _))) (Ext.refl _) rfl) ?_
    refine HP.take rfl rfl rfl rfl hS (fun wS hS1 => PV.add rfl rfl (by constructor <;> omega)) ?_
    refine HP.take rfl rfl rfl rfl hS (fun wS hS1 => PV.fieldAddr T.fl88_0 rfl hb2.cells) ?_
    refine HP.take rfl rfl rfl rfl hS (fun wS hS1 => PV.load1 T.na2 rfl (Bx.cells (Bx.updD (by assumption) hS1 (Dj.nlR _))) (Ext.refl _) rfl) ?_
    refine HP.take rfl rfl rfl rfl hS (fun wS hS1 => PV.add rfl rfl (by constructor <;> omega)) ?_
    refine HP.take rfl rfl rfl rfl hS (fun wS hS1 => PV.fieldAddr T.fl88_1 rfl hb1.cells) ?_
    refine HP.take rfl rfl rfl rfl hS (fun wS hS1 => PV.load1 T.na2 rfl (Bx.cells (Bx.updD (by assumption) hS1 (Dj.nlR _))) (Ext.refl _) rfl) ?_
    refine HP.take rfl rfl rfl rfl hS (fun wS hS1 => PV.fieldAddr T.fl88_3 rfl hb1.cells) ?_
    refine HP.take rfl rfl rfl rfl hS (fun wS hS1 => PV.load1 T.na62 rfl (Bx.cells (Bx.updD (by assumption) hS1 (Dj.nlR _))) (Ext.refl _) rfl) ?_
    first
      | refine HP.at (x := .tmp 22) (y := .const (.int .i64 0)) (E := EB) (false) rfl rfl (by first | assumption | exact Inn.rd (by assumption) (by omega)) (by first | omega | (simp only [List.length_set]; omega) | (simp only [List.length_append, List.length_take, List.length_replicate, List.length_drop]; omega)) (fun p1 csp1 hpp1 hcp1 hq => ?_)
      | refine HP.atZ (x := .tmp 22) (y := .const (.int .i64 0)) (E := EB) (false) rfl rfl (by first | assumption | exact Inn.rd (by assumption) (by omega)) (by first | omega | (simp only [List.length_set]; omega) | (simp only [List.length_append, List.length_take, List.length_replicate, List.length_drop]; omega)) (fun p1 csp1 hpp1 hzp1 hcp1 hq => ?_)
    cases hq
    refine HP.take rfl rfl rfl rfl hS (fun wS hS1 => (by first | exact PV.indexAddr hpp1 rfl rfl T.sl62 | exact PV.indexAddr hpp1 rfl (by rw [← hzp1]; rfl) T.sl62)) ?_
    refine HP.take rfl rfl rfl rfl hS (fun wS hS1 => (by first | exact PV.load0 T.na4 rfl (by first | exact Cells.up (by assumption) (hBr.trans hS1) | exact Bx.cells (Bx.updD (by assumption) hS1 (Dj.nlR _)) | exact Cells.upd (by assumption) hS1 (by simp)) (Ext.refl _) rfl | exact PV.load1 T.na4 rfl (by first | exact Cells.up (by assumption) (hBr.trans hS1) | exact Bx.cells (Bx.updD (by assumption) hS1 (Dj.nlR _)) | exact Cells.upd (by assumption) hS1 (by simp)) (Ext.refl _) rfl)) ?_
    refine HP.take rfl rfl rfl rfl hS (fun wS hS1 => PV.move rfl) ?_
    refine HP.split (t := 25) rfl (fun hc2 => ?_) (fun hc2 => ?_)
    · skip
      try simp only [nq] at hc2
      refine HP.skip rfl rfl rfl rfl rfl rfl hS ?_
      refine HP.skip rfl rfl rfl rfl rfl rfl hS ?_
      refine HP.skip rfl rfl rfl rfl rfl rfl hS ?_
      refine HP.skip rfl rfl rfl rfl rfl rfl hS ?_
      refine HP.take rfl rfl rfl rfl hS (fun wS hS1 => PV.pickT rfl rfl) ?_
      refine HP.fork rfl rfl rfl rfl ?_ ?_
      · skip
        refine (OpK.buildS VB (os := [.tmp 30]) [_] rfl T.sl62 rfl rfl T.zv4 rfl (by intro z hz; first | rfl | (simp only [List.mem_cons, List.not_mem_nil, or_false] at hz; subst hz; exact (by first | exact Rd.cells1 (by assumption) | exact Osl.cells1 (by assumption) | exact Osn.cells1 (by assumption) | exact Rd.cells1 (NL.rd (by assumption)) | exact Inn.cell1 (by assumption) (by omega) | assumption | rfl))) rfl (fun v6 g6 w7 hXw7 ho6 hge6 => ?_))
        have hl6 := Lo.new hB hge6
        have hv6 := Lo.new hS hge6
        have hd1_6 := Dj.new hb1.ltO hge6
        have hd2_6 := Dj.new hb2.ltO hge6
        have hd3_6 := Dj.new hb3.ltO hge6
        refine ⟨Upd.trans hS hXw7, ?_⟩
        have hS := Upd.trans hS hXw7
        have hB := hB.trans hXw7
        have hBc := (by first | exact hBc.trans hXw7 | exact hB0.trans hXw7)
        have hb1 := hb1.up hXw7
        have hb2 := hb2.up hXw7
        have hb3 := hb3.up hXw7
        refine HP.take rfl rfl rfl rfl hS (fun wS hS1 => PV.build (ks := [0, 1, 3]) (os := [.tmp 18, .tmp 20, .tmp 31]) (css := [[_], [_], [_]]) (ds := [_, _, _, _]) T.bu88 rfl rfl ⟨rfl, rfl, (by first | exact Rd.cells1 (by assumption) | exact Osl.cells1 (by assumption) | exact Osn.cells1 (by assumption) | exact Rd.cells1 (NL.rd (by assumption)) | exact Inn.cell1 (by assumption) (by omega) | assumption | rfl), trivial⟩ rfl) ?_
        refine HP.must rfl rfl (OpK.alloc rfl T.zv88 rfl (fun b7 w8 hXw8 hb7 hge7 => ?_))
        have hl7 := Lo.new hB hge7
        have hv7 := Lo.new hS hge7
        have hd1_7 := Dj.new hb1.ltO hge7
        have hd2_7 := Dj.new hb2.ltO hge7
        have hd3_7 := Dj.new hb3.ltO hge7
        have hd6_7 := Dj.new ho6.ltO hge7
        refine ⟨Upd.trans hS hXw8, ?_⟩
        have hS := Upd.trans hS hXw8
        have hB := hB.trans hXw8
        have hBc := (by first | exact hBc.trans hXw8 | exact hB0.trans hXw8)
        have hb1 := hb1.up hXw8
        have hb2 := hb2.up hXw8
        have hb3 := hb3.up hXw8
        have ho6 := ho6.up hXw8
        refine HP.must rfl rfl (OpK.storeA T.sz88 rfl rfl rfl rfl (by simp [Value.oneCell'] <;> first | done | (repeat' apply And.intro) <;> first | rfl | exact Inn.one1 (by assumption) (by omega) | exact Osl.oneCell (by assumption) | exact Osn.oneCell (by assumption) | exact Rd.oneCell (by assumption) | exact Rd.oneCell (NL.rd (by assumption)) | assumption) hb7 (fun w9 hXw9 hb7 => ?_))
        refine ⟨Ext.updL hS hXw9 hv7, ?_⟩
        have hS := Ext.updL hS hXw9 hv7
        have hB := hB.updL hXw9 hl7
        have hBc := hBc.updL hXw9 (Lo.up hv7 hXd)
        have hb1 := hb1.updD hXw9 hd1_7
        have hb2 := hb2.updD hXw9 hd2_7
        have hb3 := hb3.updD hXw9 hd3_7
        have ho6 := ho6.updD hXw9 hd6_7
        refine HP.done ?_
        exact NQ.cut (ρ := [(6, _)]) ⟨rfl, rfl, rfl, rfl, trivial⟩ ⟨b7, v6, (some g6), rfl, hBc, (bxE hb7 (by first | rfl | (simp_all; done))), hl7, (osE ho6 (by first | rfl | (simp_all; done))), hl6, hd1_7, hd1_6, hd2_7, hd2_6, hd3_7, hd3_6, (Dj.symm hd6_7)⟩
      · skip
        refine (OpK.alloc rfl T.zv88 rfl (fun b8 w10 hXw10 hb8 hge8 => ?_))
        have hl8 := Lo.new hB hge8
        have hv8 := Lo.new hS hge8
        have hd1_8 := Dj.new hb1.ltO hge8
        have hd2_8 := Dj.new hb2.ltO hge8
        have hd3_8 := Dj.new hb3.ltO hge8
        refine ⟨Upd.trans hS hXw10, ?_⟩
        have hS := Upd.trans hS hXw10
        have hB := hB.trans hXw10
        have hBc := (by first | exact hBc.trans hXw10 | exact hB0.trans hXw10)
        have hb1 := hb1.up hXw10
        have hb2 := hb2.up hXw10
        have hb3 := hb3.up hXw10
        refine HP.must rfl rfl (OpK.buildS VB (os := [.tmp 30]) [_] rfl T.sl62 rfl rfl T.zv4 rfl (by intro z hz; first | rfl | (simp only [List.mem_cons, List.not_mem_nil, or_false] at hz; subst hz; exact (by first | exact Rd.cells1 (by assumption) | exact Osl.cells1 (by assumption) | exact Osn.cells1 (by assumption) | exact Rd.cells1 (NL.rd (by assumption)) | exact Inn.cell1 (by assumption) (by omega) | assumption | rfl))) rfl (fun v9 g9 w11 hXw11 ho9 hge9 => ?_))
        have hl9 := Lo.new hB hge9
        have hv9 := Lo.new hS hge9
        have hd1_9 := Dj.new hb1.ltO hge9
        have hd2_9 := Dj.new hb2.ltO hge9
        have hd3_9 := Dj.new hb3.ltO hge9
        have hd8_9 := Dj.new hb8.ltO hge9
        refine ⟨Upd.trans hS hXw11, ?_⟩
        have hS := Upd.trans hS hXw11
        have hB := hB.trans hXw11
        have hBc := (by first | exact hBc.trans hXw11 | exact hB0.trans hXw11)
        have hb1 := hb1.up hXw11
        have hb2 := hb2.up hXw11
        have hb3 := hb3.up hXw11
        have hb8 := hb8.up hXw11
        refine HP.take rfl rfl rfl rfl hS (fun wS hS1 => PV.build (ks := [0, 1, 3]) (os := [.tmp 18, .tmp 20, .tmp 31]) (css := [[_], [_], [_]]) (ds := [_, _, _, _]) T.bu88 rfl rfl ⟨rfl, rfl, (by first | exact Rd.cells1 (by assumption) | exact Osl.cells1 (by assumption) | exact Osn.cells1 (by assumption) | exact Rd.cells1 (NL.rd (by assumption)) | exact Inn.cell1 (by assumption) (by omega) | assumption | rfl), trivial⟩ rfl) ?_
        refine HP.must rfl rfl (OpK.storeA T.sz88 rfl rfl rfl rfl (by simp [Value.oneCell'] <;> first | done | (repeat' apply And.intro) <;> first | rfl | exact Inn.one1 (by assumption) (by omega) | exact Osl.oneCell (by assumption) | exact Osn.oneCell (by assumption) | exact Rd.oneCell (by assumption) | exact Rd.oneCell (NL.rd (by assumption)) | assumption) hb8 (fun w12 hXw12 hb8 => ?_))
        refine ⟨Ext.updL hS hXw12 hv8, ?_⟩
        have hS := Ext.updL hS hXw12 hv8
        have hB := hB.updL hXw12 hl8
        have hBc := hBc.updL hXw12 (Lo.up hv8 hXd)
        have hb1 := hb1.updD hXw12 hd1_8
        have hb2 := hb2.updD hXw12 hd2_8
        have hb3 := hb3.updD hXw12 hd3_8
        have ho9 := ho9.updD hXw12 (Dj.symm hd8_9)
        refine HP.done ?_
        exact NQ.cut (ρ := [(6, _)]) ⟨rfl, rfl, rfl, rfl, trivial⟩ ⟨b8, v9, (some g9), rfl, hBc, (bxE hb8 (by first | rfl | (simp_all; done))), hl8, (osE ho9 (by first | rfl | (simp_all; done))), hl9, hd1_8, hd1_9, hd2_8, hd2_9, hd3_8, hd3_9, hd8_9⟩
    try simp only [nq] at hc2
    refine HP.takeG rfl rfl rfl rfl rfl rfl hS (fun wS hS1 => PV.fieldAddr T.fl88_3 rfl hb2.cells) ?_
    refine HP.takeG rfl rfl rfl rfl rfl rfl hS (fun wS hS1 => PV.load1 T.na62 rfl (Bx.cells (Bx.updD (by assumption) hS1 (Dj.nlR _))) (Ext.refl _) rfl) ?_
    first
      | refine HP.at (x := .tmp 27) (y := .const (.int .i64 0)) (E := EB) (false) rfl rfl (by first | assumption | exact Inn.rd (by assumption) (by omega)) (by first | omega | (simp only [List.length_set]; omega) | (simp only [List.length_append, List.length_take, List.length_replicate, List.length_drop]; omega)) (fun p2 csp2 hpp2 hcp2 hq => ?_)
      | refine HP.atZ (x := .tmp 27) (y := .const (.int .i64 0)) (E := EB) (false) rfl rfl (by first | assumption | exact Inn.rd (by assumption) (by omega)) (by first | omega | (simp only [List.length_set]; omega) | (simp only [List.length_append, List.length_take, List.length_replicate, List.length_drop]; omega)) (fun p2 csp2 hpp2 hzp2 hcp2 hq => ?_)
    cases hq
    refine HP.takeG rfl rfl rfl rfl rfl rfl hS (fun wS hS1 => (by first | exact PV.indexAddr hpp2 rfl rfl T.sl62 | exact PV.indexAddr hpp2 rfl (by rw [← hzp2]; rfl) T.sl62)) ?_
    refine HP.takeG rfl rfl rfl rfl rfl rfl hS (fun wS hS1 => (by first | exact PV.load0 T.na4 rfl (by first | exact Cells.up (by assumption) (hBr.trans hS1) | exact Bx.cells (Bx.updD (by assumption) hS1 (Dj.nlR _)) | exact Cells.upd (by assumption) hS1 (by simp)) (Ext.refl _) rfl | exact PV.load1 T.na4 rfl (by first | exact Cells.up (by assumption) (hBr.trans hS1) | exact Bx.cells (Bx.updD (by assumption) hS1 (Dj.nlR _)) | exact Cells.upd (by assumption) hS1 (by simp)) (Ext.refl _) rfl)) ?_
    refine HP.take rfl rfl rfl rfl hS (fun wS hS1 => PV.pickF rfl rfl) ?_
    refine HP.fork rfl rfl rfl rfl ?_ ?_
    · skip
      refine (OpK.buildS VB (os := [.tmp 30]) [_] rfl T.sl62 rfl rfl T.zv4 rfl (by intro z hz; first | rfl | (simp only [List.mem_cons, List.not_mem_nil, or_false] at hz; subst hz; exact (by first | exact Rd.cells1 (by assumption) | exact Osl.cells1 (by assumption) | exact Osn.cells1 (by assumption) | exact Rd.cells1 (NL.rd (by assumption)) | exact Inn.cell1 (by assumption) (by omega) | assumption | rfl))) rfl (fun v10 g10 w13 hXw13 ho10 hge10 => ?_))
      have hl10 := Lo.new hB hge10
      have hv10 := Lo.new hS hge10
      have hd1_10 := Dj.new hb1.ltO hge10
      have hd2_10 := Dj.new hb2.ltO hge10
      have hd3_10 := Dj.new hb3.ltO hge10
      refine ⟨Upd.trans hS hXw13, ?_⟩
      have hS := Upd.trans hS hXw13
      have hB := hB.trans hXw13
      have hBc := (by first | exact hBc.trans hXw13 | exact hB0.trans hXw13)
      have hb1 := hb1.up hXw13
      have hb2 := hb2.up hXw13
      have hb3 := hb3.up hXw13
      refine HP.take rfl rfl rfl rfl hS (fun wS hS1 => PV.build (ks := [0, 1, 3]) (os := [.tmp 18, .tmp 20, .tmp 31]) (css := [[_], [_], [_]]) (ds := [_, _, _, _]) T.bu88 rfl rfl ⟨rfl, rfl, (by first | exact Rd.cells1 (by assumption) | exact Osl.cells1 (by assumption) | exact Osn.cells1 (by assumption) | exact Rd.cells1 (NL.rd (by assumption)) | exact Inn.cell1 (by assumption) (by omega) | assumption | rfl), trivial⟩ rfl) ?_
      refine HP.must rfl rfl (OpK.alloc rfl T.zv88 rfl (fun b11 w14 hXw14 hb11 hge11 => ?_))
      have hl11 := Lo.new hB hge11
      have hv11 := Lo.new hS hge11
      have hd1_11 := Dj.new hb1.ltO hge11
      have hd2_11 := Dj.new hb2.ltO hge11
      have hd3_11 := Dj.new hb3.ltO hge11
      have hd10_11 := Dj.new ho10.ltO hge11
      refine ⟨Upd.trans hS hXw14, ?_⟩
      have hS := Upd.trans hS hXw14
      have hB := hB.trans hXw14
      have hBc := (by first | exact hBc.trans hXw14 | exact hB0.trans hXw14)
      have hb1 := hb1.up hXw14
      have hb2 := hb2.up hXw14
      have hb3 := hb3.up hXw14
      have ho10 := ho10.up hXw14
      refine HP.must rfl rfl (OpK.storeA T.sz88 rfl rfl rfl rfl (by simp [Value.oneCell'] <;> first | done | (repeat' apply And.intro) <;> first | rfl | exact Inn.one1 (by assumption) (by omega) | exact Osl.oneCell (by assumption) | exact Osn.oneCell (by assumption) | exact Rd.oneCell (by assumption) | exact Rd.oneCell (NL.rd (by assumption)) | assumption) hb11 (fun w15 hXw15 hb11 => ?_))
      refine ⟨Ext.updL hS hXw15 hv11, ?_⟩
      have hS := Ext.updL hS hXw15 hv11
      have hB := hB.updL hXw15 hl11
      have hBc := hBc.updL hXw15 (Lo.up hv11 hXd)
      have hb1 := hb1.updD hXw15 hd1_11
      have hb2 := hb2.updD hXw15 hd2_11
      have hb3 := hb3.updD hXw15 hd3_11
      have ho10 := ho10.updD hXw15 hd10_11
      refine HP.done ?_
      exact NQ.cut (ρ := [(6, _)]) ⟨rfl, rfl, rfl, rfl, trivial⟩ ⟨b11, v10, (some g10), rfl, hBc, (bxE hb11 (by first | rfl | (simp_all; done))), hl11, (osE ho10 (by first | rfl | (simp_all; done))), hl10, hd1_11, hd1_10, hd2_11, hd2_10, hd3_11, hd3_10, (Dj.symm hd10_11)⟩
    · skip
      refine (OpK.alloc rfl T.zv88 rfl (fun b12 w16 hXw16 hb12 hge12 => ?_))
      have hl12 := Lo.new hB hge12
      have hv12 := Lo.new hS hge12
      have hd1_12 := Dj.new hb1.ltO hge12
      have hd2_12 := Dj.new hb2.ltO hge12
      have hd3_12 := Dj.new hb3.ltO hge12
      refine ⟨Upd.trans hS hXw16, ?_⟩
      have hS := Upd.trans hS hXw16
      have hB := hB.trans hXw16
      have hBc := (by first | exact hBc.trans hXw16 | exact hB0.trans hXw16)
      have hb1 := hb1.up hXw16
      have hb2 := hb2.up hXw16
      have hb3 := hb3.up hXw16
      refine HP.must rfl rfl (OpK.buildS VB (os := [.tmp 30]) [_] rfl T.sl62 rfl rfl T.zv4 rfl (by intro z hz; first | rfl | (simp only [List.mem_cons, List.not_mem_nil, or_false] at hz; subst hz; exact (by first | exact Rd.cells1 (by assumption) | exact Osl.cells1 (by assumption) | exact Osn.cells1 (by assumption) | exact Rd.cells1 (NL.rd (by assumption)) | exact Inn.cell1 (by assumption) (by omega) | assumption | rfl))) rfl (fun v13 g13 w17 hXw17 ho13 hge13 => ?_))
      have hl13 := Lo.new hB hge13
      have hv13 := Lo.new hS hge13
      have hd1_13 := Dj.new hb1.ltO hge13
      have hd2_13 := Dj.new hb2.ltO hge13
      have hd3_13 := Dj.new hb3.ltO hge13
      have hd12_13 := Dj.new hb12.ltO hge13
      refine ⟨Upd.trans hS hXw17, ?_⟩
      have hS := Upd.trans hS hXw17
      have hB := hB.trans hXw17
      have hBc := (by first | exact hBc.trans hXw17 | exact hB0.trans hXw17)
      have hb1 := hb1.up hXw17
      have hb2 := hb2.up hXw17
      have hb3 := hb3.up hXw17
      have hb12 := hb12.up hXw17
      refine HP.take rfl rfl rfl rfl hS (fun wS hS1 => PV.build (ks := [0, 1, 3]) (os := [.tmp 18, .tmp 20, .tmp 31]) (css := [[_], [_], [_]]) (ds := [_, _, _, _]) T.bu88 rfl rfl ⟨rfl, rfl, (by first | exact Rd.cells1 (by assumption) | exact Osl.cells1 (by assumption) | exact Osn.cells1 (by assumption) | exact Rd.cells1 (NL.rd (by assumption)) | exact Inn.cell1 (by assumption) (by omega) | assumption | rfl), trivial⟩ rfl) ?_
      refine HP.must rfl rfl (OpK.storeA T.sz88 rfl rfl rfl rfl (by simp [Value.oneCell'] <;> first | done | (repeat' apply And.intro) <;> first | rfl | exact Inn.one1 (by assumption) (by omega) | exact Osl.oneCell (by assumption) | exact Osn.oneCell (by assumption) | exact Rd.oneCell (by assumption) | exact Rd.oneCell (NL.rd (by assumption)) | assumption) hb12 (fun w18 hXw18 hb12 => ?_))
      refine ⟨Ext.updL hS hXw18 hv12, ?_⟩
      have hS := Ext.updL hS hXw18 hv12
      have hB := hB.updL hXw18 hl12
      have hBc := hBc.updL hXw18 (Lo.up hv12 hXd)
      have hb1 := hb1.updD hXw18 hd1_12
      have hb2 := hb2.updD hXw18 hd2_12
      have hb3 := hb3.updD hXw18 hd3_12
      have ho13 := ho13.updD hXw18 (Dj.symm hd12_13)
      refine HP.done ?_
      exact NQ.cut (ρ := [(6, _)]) ⟨rfl, rfl, rfl, rfl, trivial⟩ ⟨b12, v13, (some g13), rfl, hBc, (bxE hb12 (by first | rfl | (simp_all; done))), hl12, (osE ho13 (by first | rfl | (simp_all; done))), hl13, hd1_12, hd1_13, hd2_12, hd2_13, hd3_12, hd3_13, hd12_13⟩
  rintro _ wc1 ⟨b4, v5, og5, rfl, hXc, hb4, hl4, ho5, hl5, hd1_4, hd1_5, hd2_4, hd2_5, hd3_4, hd3_5, hd4_5⟩
  have hB := hB.trans hXc
  have hb1 := hb1.up hXc
  have hb2 := hb2.up hXc
  have hb3 := hb3.up hXc
  refine CW.seq ?_
  refine CW.reg ?_
  refine WL.pure rfl rfl rfl (PV.fieldAddr T.fl88_3 rfl hb4.cells) ?_
  refine WL.pure rfl rfl rfl (PV.load1 T.na62 rfl hb4.cells (Ext.refl _) rfl) ?_
  refine WL.pure rfl rfl rfl (PV.fieldAddr T.fl88_3 rfl hb1.cells) ?_
  refine WL.pure rfl rfl rfl (PV.load1 T.na62 rfl hb1.cells (Ext.refl _) rfl) ?_
  refine WL.op rfl (OpK.appendS (f := VB) rfl T.sl62 T.zv4 rfl rfl ho5 rfl (Rd.src (by first | assumption | exact Rd.up (by assumption) hB | exact Inn.rd (by assumption) (by omega)) (fun _ => rfl)) (by first | (simp only [List.length_cons, List.length_nil]; omega) | (simp_all; omega)) (fun v14 og14 w19 hXw19 ho14 hap14 => ?_))
  have hl14 := Lo.app hl5 hB hap14
  have hd1_14 := Dj.app hd1_5 hb1.ltO hap14
  have hd2_14 := Dj.app hd2_5 hb2.ltO hap14
  have hd3_14 := Dj.app hd3_5 hb3.ltO hap14
  have hd4_14 := Dj.app hd4_5 hb4.ltO hap14
  have hB := hB.updL hXw19 hl5
  have hb1 := hb1.updD hXw19 hd1_5
  have hb2 := hb2.updD hXw19 hd2_5
  have hb3 := hb3.updD hXw19 hd3_5
  have hb4 := hb4.updD hXw19 hd4_5
  refine WL.pure rfl rfl rfl (PV.fieldAddr T.fl88_3 rfl hb4.cells) ?_
  refine WL.op rfl (OpK.storeB T.sz62 rfl rfl (by first | rfl | exact Inn.one1 (by assumption) (by omega) | exact Osl.oneCell (by assumption) | exact Osn.oneCell (by assumption) | exact Rd.oneCell (by assumption) | exact Rd.oneCell (NL.rd (by assumption)) | assumption) hb4 rfl (fun w20 hXw20 hb4 => ?_))
  have hB := hB.updL hXw20 hl4
  have hb1 := hb1.updD hXw20 hd1_4
  have hb2 := hb2.updD hXw20 hd2_4
  have hb3 := hb3.updD hXw20 hd3_4
  have ho14 := ho14.updD hXw20 (Dj.symm hd4_14)
  refine WL.nilS ?_
  refine CW.seq ?_
  refine CW.reg ?_
  refine WL.pure rfl rfl rfl (PV.fieldAddr T.fl88_3 rfl hb4.cells) ?_
  refine WL.pure rfl rfl rfl (PV.load1 T.na62 rfl hb4.cells (Ext.refl _) rfl) ?_
  refine WL.pure rfl rfl rfl (PV.fieldAddr T.fl88_3 rfl hb2.cells) ?_
  refine WL.pure rfl rfl rfl (PV.load1 T.na62 rfl hb2.cells (Ext.refl _) rfl) ?_
  refine WL.op rfl (OpK.appendS (f := VB) rfl T.sl62 T.zv4 rfl rfl ho14 rfl (Rd.src (by first | assumption | exact Rd.up (by assumption) hB | exact Inn.rd (by assumption) (by omega)) (fun _ => rfl)) (by first | (simp only [List.length_cons, List.length_nil]; omega) | (simp_all; omega)) (fun v15 og15 w21 hXw21 ho15 hap15 => ?_))
  have hl15 := Lo.app hl14 hB hap15
  have hd1_15 := Dj.app hd1_14 hb1.ltO hap15
  have hd2_15 := Dj.app hd2_14 hb2.ltO hap15
  have hd3_15 := Dj.app hd3_14 hb3.ltO hap15
  have hd4_15 := Dj.app hd4_14 hb4.ltO hap15
  have hB := hB.updL hXw21 hl14
  have hb1 := hb1.updD hXw21 hd1_14
  have hb2 := hb2.updD hXw21 hd2_14
  have hb3 := hb3.updD hXw21 hd3_14
  have hb4 := hb4.updD hXw21 hd4_14
  refine WL.pure rfl rfl rfl (PV.fieldAddr T.fl88_3 rfl hb4.cells) ?_
  refine WL.op rfl (OpK.storeB T.sz62 rfl rfl (by first | rfl | exact Inn.one1 (by assumption) (by omega) | exact Osl.oneCell (by assumption) | exact Osn.oneCell (by assumption) | exact Rd.oneCell (by assumption) | exact Rd.oneCell (NL.rd (by assumption)) | assumption) hb4 rfl (fun w22 hXw22 hb4 => ?_))
  have hB := hB.updL hXw22 hl4
  have hb1 := hb1.updD hXw22 hd1_4
  have hb2 := hb2.updD hXw22 hd2_4
  have hb3 := hb3.updD hXw22 hd3_4
  have ho15 := ho15.updD hXw22 (Dj.symm hd4_15)
  refine WL.nilS ?_
  refine CW.seq ?_
  refine CW.draw T.mixed (by kernel_rfl) (fun _ _ _ _ _ h => h) (fun w8 w9 => Upd none w8 w9) 11 (.take 0 (.take 1 (.take 3 (.take 4 (.take 5 (.take 6 (.take 7 (.must 2 (.must 8 (.must 9 (.take 10 (.must 11 .done)))))))))))) (by kernel_rfl) (fun w23 hXd => ?_)
  have hB := hB.trans hXd
  have hb1 := hb1.up hXd
  have hb2 := hb2.up hXd
  have hb3 := hb3.up hXd
  have hb4 := hb4.up hXd
  have ho15 := ho15.up hXd
  have hBr := hB
  have hS : Upd none w23 w23 := Ext.toUpd (Ext.refl _)
  refine HP.take rfl rfl rfl rfl hS (fun wS hS1 => PV.fieldAddr T.fl88_2 rfl hb1.cells) ?_
  refine HP.take rfl rfl rfl rfl hS (fun wS hS1 => PV.load1 T.na86 rfl (Bx.cells (Bx.updD (by assumption) hS1 (Dj.nlR _))) (Ext.refl _) rfl) ?_
  refine HP.take rfl rfl rfl rfl hS (fun wS hS1 => PV.fieldAddr T.fl88_2 rfl hb2.cells) ?_
  refine HP.take rfl rfl rfl rfl hS (fun wS hS1 => PV.load1 T.na86 rfl (Bx.cells (Bx.updD (by assumption) hS1 (Dj.nlR _))) (Ext.refl _) rfl) ?_
  refine HP.take rfl rfl rfl rfl hS (fun wS hS1 => PV.fieldAddr T.fl88_0 rfl hb1.cells) ?_
  refine HP.take rfl rfl rfl rfl hS (fun wS hS1 => PV.load1 T.na2 rfl (Bx.cells (Bx.updD (by assumption) hS1 (Dj.nlR _))) (Ext.refl _) rfl) ?_
  refine HP.take rfl rfl rfl rfl hS (fun wS hS1 => PV.add rfl rfl (by constructor <;> omega)) ?_
  refine HP.must rfl rfl (OpK.call rfl T.cf155 rfl (c_spec_l05Moved (by first | assumption | exact Rd.up (by assumption) hB | exact Osl.rd (by assumption) | exact Osn.rdR (by assumption) | exact NL.rd (by assumption) | exact rdII (by assumption) (by assumption) | exact Inn.rd (by assumption) (by omega)) (by exact fun i hi => by first | (have h9 := gA.2.2.2.2 i hi; unfold okArc at h9; omega) | (have h9 := gY.2.2.2.2 i hi; unfold okArc at h9; omega)) (by first | assumption | omega | (simp only [marks_len, marksB_len, marksR_len, sumL_marksS]; omega)) (by first | assumption | omega | (simp only [marks_len, marksB_len, marksR_len, sumL_marksS]; omega))) (fun rv1 w24 hR => ?_))
  obtain ⟨hXw24, v16, og16, rfl, ho16, hq16⟩ := hR
  have hl16 := Lo.up hq16 hB
  have hv16 := Lo.up hq16 hS
  have hd1_16 := Dj.lo hb1.ltO hq16
  have hd2_16 := Dj.lo hb2.ltO hq16
  have hd3_16 := Dj.lo hb3.ltO hq16
  have hd4_16 := Dj.lo hb4.ltO hq16
  have hd15_16 := Dj.lo ho15.ltO hq16
  refine ⟨Upd.trans hS hXw24, ?_⟩
  have hS := Upd.trans hS hXw24
  have hB := hB.trans hXw24
  have hb1 := hb1.up hXw24
  have hb2 := hb2.up hXw24
  have hb3 := hb3.up hXw24
  have hb4 := hb4.up hXw24
  have ho15 := ho15.up hXw24
  refine HP.must rfl rfl (OpK.call rfl T.cf155 rfl (c_spec_l05Moved (by first | assumption | exact Rd.up (by assumption) hB | exact Osl.rd (by assumption) | exact Osn.rdR (by assumption) | exact NL.rd (by assumption) | exact rdII (by assumption) (by assumption) | exact Inn.rd (by assumption) (by omega)) (by exact fun i hi => by first | (have h9 := gA.2.2.2.2 i hi; unfold okArc at h9; omega) | (have h9 := gY.2.2.2.2 i hi; unfold okArc at h9; omega)) (by first | assumption | omega | (simp only [marks_len, marksB_len, marksR_len, sumL_marksS]; omega)) (by first | assumption | omega | (simp only [marks_len, marksB_len, marksR_len, sumL_marksS]; omega))) (fun rv2 w25 hR => ?_))
  obtain ⟨hXw25, v17, og17, rfl, ho17, hq17⟩ := hR
  have hl17 := Lo.up hq17 hB
  have hv17 := Lo.up hq17 hS
  have hd1_17 := Dj.lo hb1.ltO hq17
  have hd2_17 := Dj.lo hb2.ltO hq17
  have hd3_17 := Dj.lo hb3.ltO hq17
  have hd4_17 := Dj.lo hb4.ltO hq17
  have hd15_17 := Dj.lo ho15.ltO hq17
  have hd16_17 := Dj.lo ho16.ltO hq17
  refine ⟨Upd.trans hS hXw25, ?_⟩
  have hS := Upd.trans hS hXw25
  have hB := hB.trans hXw25
  have hb1 := hb1.up hXw25
  have hb2 := hb2.up hXw25
  have hb3 := hb3.up hXw25
  have hb4 := hb4.up hXw25
  have ho15 := ho15.up hXw25
  have ho16 := ho16.up hXw25
  refine HP.must rfl rfl (OpK.appendN (g := gR) rfl T.sl86 T.zv178 rfl rfl ho16 rfl (Osn.src ho17) (by first | (simp only [List.length_cons, List.length_nil]; omega) | (simp_all; omega)) (fun v18 og18 w26 hXw26 ho18 hap18 => ?_))
  have hl18 := Lo.app hl16 hB hap18
  have hv18 := Lo.app hv16 hS hap18
  have hd1_18 := Dj.app hd1_16 hb1.ltO hap18
  have hd2_18 := Dj.app hd2_16 hb2.ltO hap18
  have hd3_18 := Dj.app hd3_16 hb3.ltO hap18
  have hd4_18 := Dj.app hd4_16 hb4.ltO hap18
  have hd15_18 := Dj.app hd15_16 ho15.ltO hap18
  have hd17_18 := Dj.app (Dj.symm hd16_17) ho17.ltO hap18
  refine ⟨Ext.updL hS hXw26 hv16, ?_⟩
  have hS := Ext.updL hS hXw26 hv16
  have hB := hB.updL hXw26 hl16
  have hb1 := hb1.updD hXw26 hd1_16
  have hb2 := hb2.updD hXw26 hd2_16
  have hb3 := hb3.updD hXw26 hd3_16
  have hb4 := hb4.updD hXw26 hd4_16
  have ho15 := ho15.updD hXw26 hd15_16
  have ho17 := ho17.updD hXw26 (Dj.symm hd16_17)
  refine HP.take rfl rfl rfl rfl hS (fun wS hS1 => PV.fieldAddr T.fl88_2 rfl hb4.cells) ?_
  refine HP.last rfl rfl (OpK.storeB T.sz86 rfl rfl (by first | rfl | exact Inn.one1 (by assumption) (by omega) | exact Osl.oneCell (by assumption) | exact Osn.oneCell (by assumption) | exact Rd.oneCell (by assumption) | exact Rd.oneCell (NL.rd (by assumption)) | assumption) hb4 rfl (fun w27 hXw27 hb4 => ?_))
  have hB := hB.updL hXw27 hl4
  have hb1 := hb1.updD hXw27 hd1_4
  have hb2 := hb2.updD hXw27 hd2_4
  have hb3 := hb3.updD hXw27 hd3_4
  have ho15 := ho15.updD hXw27 (Dj.symm hd4_15)
  have ho17 := ho17.updD hXw27 (Dj.symm hd4_17)
  have ho18 := ho18.updD hXw27 (Dj.symm hd4_18)
  refine HP.doneS ?_
  refine CW.seq ?_
  refine CW.reg ?_
  refine WL.pure rfl rfl rfl (PV.fieldAddr T.fl88_2 rfl hb4.cells) ?_
  refine WL.pure rfl rfl rfl (PV.load1 T.na86 rfl hb4.cells (Ext.refl _) rfl) ?_
  refine WL.pure rfl rfl rfl ((PV.lenOsn rfl ho18 T.sl86)) ?_
  refine WL.asg rfl rfl ?_
  refine WL.nilS ?_
  refine CW.seq ?_
  refine CW.seq ?_
  refine CW.reg ?_
  refine WL.asg rfl rfl ?_
  refine WL.nilS ?_
  refine CW.block ?_
  have hlt1 := hb1.ltO
  have hlt2 := hb2.ltO
  have hlt3 := hb3.ltO
  have hlt4 := hb4.ltO
  have hlt15 := ho15.ltO
  have hlt17 := ho17.ltO
  have hlt18 := ho18.ltO
  refine CW.loop (σk := [(2, _), (4, _), (6, _), (7, _)]) (fun ρ wz m => ∃ (v19 : Value) (og19 : Option Nat) (v20 : Value) (og20 : Option Nat) (k : Nat), ρ = [(8, .int .i64 (k : Nat))] ∧ m = (allE a0 xa2 xy2).length - k ∧ UpdL [og18, og15, (some b4.block)] w27 wz ∧ Osn 4 gR wz og19 v19 ((allE a0 xa2 xy2) ++ runE a0 xa2.length (allE a0 xa2 xy2) k) ∧ OgR w27 og18 og19 ∧ Osl VB wz og20 v20 (eE xa3 xy3) ∧ OgR w27 og15 og20 ∧ Bx wz b4 [.int .i64 (1 + a0 + y0), .int .i64 a1, v19, v20] ∧ Dj og19 og20 ∧ (k ≤ (allE a0 xa2 xy2).length)) (ρ₀ := [(8, _)]) (m₀ := _) ⟨rfl, rfl, rfl, rfl, rfl, trivial⟩ ⟨v18, og18, v15, og15, 0, rfl, rfl, (UpdL.refl _ _), osnE ho18 (by simp [allE, runE]), OgR.refl _ _, osE ho15 (by rfl), OgR.refl _ _, bxE hb4 (by first | rfl | (simp_all; done) | (simp_all; omega)), (Dj.symm hd15_18), (by first | omega | rfl | (simp; done) | assumption | (simp_all; done))⟩ ?_
  rintro _ wl1 _ ⟨v19, og19, v20, og20, k, rfl, rfl, hU0, ho19, ha19, ho20, ha20, hb4, hd19_20, hk⟩
  have hb1 := hb1.loop hU0 ⟨hd1_18, hd1_15, hd1_4, trivial⟩
  have hb2 := hb2.loop hU0 ⟨hd2_18, hd2_15, hd2_4, trivial⟩
  have hb3 := hb3.loop hU0 ⟨hd3_18, hd3_15, hd3_4, trivial⟩
  have ho17 := ho17.loop hU0 ⟨hd17_18, (Dj.symm hd15_17), (Dj.symm hd4_17), trivial⟩
  have hl19 := Lo.ogr hl18 hB ha19
  have hg0_19 := ha19
  have hk0_19 : OkB [og18, og15, (some b4.block)] w27 og19 := OkB.ogr (OkB.mem (by simp)) (Nat.le_refl _) ha19
  have hd1_19 := Dj.ogr hd1_18 hlt1 ha19
  have hd2_19 := Dj.ogr hd2_18 hlt2 ha19
  have hd3_19 := Dj.ogr hd3_18 hlt3 ha19
  have hd4_19 := Dj.ogr hd4_18 hlt4 ha19
  have hd17_19 := Dj.ogr hd17_18 hlt17 ha19
  have hl20 := Lo.ogr hl15 hB ha20
  have hg0_20 := ha20
  have hk0_20 : OkB [og18, og15, (some b4.block)] w27 og20 := OkB.ogr (OkB.mem (by simp)) (Nat.le_refl _) ha20
  have hd1_20 := Dj.ogr hd1_15 hlt1 ha20
  have hd2_20 := Dj.ogr hd2_15 hlt2 ha20
  have hd3_20 := Dj.ogr hd3_15 hlt3 ha20
  have hd4_20 := Dj.ogr hd4_15 hlt4 ha20
  have hd17_20 := Dj.ogr (Dj.symm hd15_17) hlt17 ha20
  have hk0_4 : OkB [og18, og15, (some b4.block)] w27 (some b4.block) := OkB.mem (by simp)
  have hB := hB.loop hU0 ⟨hl18, hl15, hl4, trivial⟩
  have hmm : (movL 1 xa2 ++ movL (1 + a0) xy2).length = xa2.length + xy2.length := (by rw [List.length_append]; omega); have hrl := runE_len a0 xa2.length (allE a0 xa2 xy2) k; have hle : (allE a0 xa2 xy2).length = xa2.length + xy2.length := (by unfold allE; rw [List.length_append]; omega); have hall : ((allE a0 xa2 xy2) ++ runE a0 xa2.length (allE a0 xa2 xy2) k).length = (allE a0 xa2 xy2).length + (runE a0 xa2.length (allE a0 xa2 xy2) k).length := List.length_append
  refine CW.seq ?_
  refine CW.seq ?_
  refine CW.reg ?_
  refine WL.mv rfl rfl ?_
  refine WL.mv rfl rfl ?_
  refine WL.pure rfl rfl rfl (PV.lss rfl rfl) ?_
  refine WL.nilS ?_
  refine CW.cond rfl (fun hc3 => ?_) (fun hc3 => ?_)
  · skip
    try simp only [nq] at hc3
    refine CW.skipS ?_
    refine CW.seq ?_
    refine CW.block ?_
    refine CW.seq ?_
    refine CW.reg ?_
    refine WL.pure rfl rfl rfl (PV.fieldAddr T.fl88_2 rfl hb4.cells) ?_
    refine WL.pure rfl rfl rfl (PV.load1 T.na86 rfl hb4.cells (Ext.refl _) rfl) ?_
    refine WL.mv rfl rfl ?_
    have hrdp3 := ho19.rdR
    first
      | refine WL.at (x := .tmp 65) (y := .tmp 66) (E := ER) ((0, 0, 0, 0)) rfl rfl hrdp3 (by first | omega | (simp only [List.length_set]; omega) | (simp only [List.length_append, List.length_take, List.length_replicate, List.length_drop]; omega)) (fun p3 csp3 hpp3 hcp3 hq => ?_)
      | refine WL.atZ (x := .tmp 65) (y := .tmp 66) (E := ER) ((0, 0, 0, 0)) rfl rfl hrdp3 (by first | omega | (simp only [List.length_set]; omega) | (simp only [List.length_append, List.length_take, List.length_replicate, List.length_drop]; omega)) (fun p3 csp3 hpp3 hzp3 hcp3 hq => ?_)
    cases hq
    refine WL.pure rfl rfl rfl ((by first | exact PV.indexAddr hpp3 rfl rfl T.sl86 | exact PV.indexAddr hpp3 rfl (by rw [← hzp3]; rfl) T.sl86)) ?_
    have hg9 := runE_get (n := a0) (a := 0) (M := runE a0 xa2.length (allE a0 xa2 xy2) k) (L := (allE a0 xa2 xy2)) (i := k) (by omega); first | rw [hg9] at hcp3 | rw [hg9] at hcp2 | rw [hg9] at hcp1
    refine WL.pure rfl rfl rfl ((by first | exact PV.loadA T.ag178 rfl (by first | exact Cells.up (by assumption) hB | exact Bx.cells (by assumption) | assumption) (Ext.refl _) rfl | exact PV.loadP (ds := [_, _, _, _]) T.ag178 rfl (by first | exact Cells.up (by assumption) hB | exact Bx.cells (by assumption) | assumption) (Ext.refl _) rfl rfl)) ?_
    refine WL.op rfl (OpK.alloc rfl T.zv178 rfl (fun b22 w28 hXw28 hb22 hge22 => ?_))
    have hl22 := Lo.new hB hge22
    have hd1_22 := Dj.new hb1.ltO hge22
    have hd2_22 := Dj.new hb2.ltO hge22
    have hd3_22 := Dj.new hb3.ltO hge22
    have hd4_22 := Dj.new hb4.ltO hge22
    have hd17_22 := Dj.new ho17.ltO hge22
    have hd19_22 := Dj.new ho19.ltO hge22
    have hd20_22 := Dj.new ho20.ltO hge22
    have hk0_22 := OkN.new hU0 hge22
    have hg0_22 := OgR.new hU0.size hge22
    have hB := hB.trans hXw28
    have hb1 := hb1.up hXw28
    have hb2 := hb2.up hXw28
    have hb3 := hb3.up hXw28
    have hb4 := hb4.up hXw28
    have ho17 := ho17.up hXw28
    have ho19 := ho19.up hXw28
    have ho20 := ho20.up hXw28
    have hU0 := hU0.ext hXw28
    refine WL.op rfl (OpK.storeA T.sz178 rfl rfl rfl rfl (by simp [Value.oneCell'] <;> first | done | (repeat' apply And.intro) <;> first | rfl | exact Inn.one1 (by assumption) (by omega) | exact Osl.oneCell (by assumption) | exact Osn.oneCell (by assumption) | exact Rd.oneCell (by assumption) | exact Rd.oneCell (NL.rd (by assumption)) | assumption) hb22 (fun w29 hXw29 hb22 => ?_))
    have hB := hB.updL hXw29 hl22
    have hb1 := hb1.updD hXw29 hd1_22
    have hb2 := hb2.updD hXw29 hd2_22
    have hb3 := hb3.updD hXw29 hd3_22
    have hb4 := hb4.updD hXw29 hd4_22
    have ho17 := ho17.updD hXw29 hd17_22
    have ho19 := ho19.updD hXw29 hd19_22
    have ho20 := ho20.updD hXw29 hd20_22
    have hU0 := hU0.step hXw29 hk0_22
    refine WL.nilS ?_
    refine CW.seq ?_
    refine CW.reg ?_
    refine WL.pure rfl rfl rfl (PV.fieldAddr T.fl178_0 rfl hb22.cells) ?_
    refine WL.pure rfl rfl rfl (PV.load1 T.na2 rfl hb22.cells (Ext.refl _) rfl) ?_
    refine WL.pure rfl rfl rfl (PV.eql rfl rfl) ?_
    refine WL.mv rfl rfl ?_
    refine WL.split (t := 72) rfl (fun hc4 => ?_) (fun hc4 => ?_)
    rotate_left
    · skip
      try simp only [nq] at hc4
      refine WL.skip rfl rfl rfl rfl rfl ?_
      refine WL.skip rfl rfl rfl rfl rfl ?_
      refine WL.skip rfl rfl rfl rfl rfl ?_
      refine WL.skip rfl rfl rfl rfl rfl ?_
      refine WL.skip rfl rfl rfl rfl rfl ?_
      refine WL.pure rfl rfl rfl (PV.pickF rfl rfl) ?_
      refine WL.mv rfl rfl ?_
      refine WL.pureG rfl rfl rfl rfl rfl (PV.fieldAddr T.fl178_0 rfl hb22.cells) ?_
      refine WL.pureG rfl rfl rfl rfl rfl (PV.load1 T.na2 rfl hb22.cells (Ext.refl _) rfl) ?_
      refine WL.pureG rfl rfl rfl rfl rfl (PV.fieldAddr T.fl88_0 rfl hb1.cells) ?_
      refine WL.pureG rfl rfl rfl rfl rfl (PV.load1 T.na2 rfl hb1.cells (Ext.refl _) rfl) ?_
      refine WL.pureG rfl rfl rfl rfl rfl (PV.add rfl rfl (by constructor <;> omega)) ?_
      refine WL.pureG rfl rfl rfl rfl rfl (PV.eql rfl rfl) ?_
      refine WL.pureG rfl rfl rfl rfl rfl (PV.move rfl) ?_
      refine WL.split (t := 86) rfl (fun hc5 => ?_) (fun hc5 => ?_)
      rotate_left
      · skip
        try simp only [nq] at hc5
        refine WL.skip rfl rfl rfl rfl rfl ?_
        refine WL.skip rfl rfl rfl rfl rfl ?_
        refine WL.skip rfl rfl rfl rfl rfl ?_
        refine WL.skip rfl rfl rfl rfl rfl ?_
        refine WL.skip rfl rfl rfl rfl rfl ?_
        refine WL.pureG rfl rfl rfl rfl rfl (PV.pickF rfl rfl) ?_
        refine WL.pure rfl rfl rfl (PV.pickF rfl rfl) ?_
        refine WL.nilS ?_
        refine CW.condF rfl ?_
        refine CW.skip ?_
        refine NQ.block ?_
        refine NQ.then ?_
        refine CW.reg ?_
        refine WL.mv rfl rfl ?_
        refine WL.pure rfl rfl rfl (PV.add rfl rfl (by constructor <;> omega)) ?_
        refine WL.asg rfl rfl ?_
        refine WL.nil ?_
        refine NQ.next (ρ := [(8, _)]) ⟨rfl, rfl, rfl, rfl, rfl, trivial⟩ ?_
        exact ⟨_, ⟨v19, og19, v20, og20, k + 1, rfl, rfl, hU0, osnE ho19 (by first | exact runE_yes (by omega) rfl | exact runE_no (by omega)), (by first | exact hg0_19 | exact OgR.weak hg0_19), osE ho20 (by first | rfl | (simp_all; done) | (simp_all; omega)), (by first | exact hg0_20 | exact OgR.weak hg0_20), bxE hb4 (by first | rfl | (simp_all; done) | (simp_all; omega)), hd19_20, (by first | omega | assumption | (simp_all; done) | (simp_all; omega))⟩, by omega⟩
      try simp only [nq] at hc5
      refine WL.pureG rfl rfl rfl rfl rfl (PV.move rfl) ?_
      refine WL.pureG rfl rfl rfl rfl rfl (PV.fieldAddr T.fl88_2 rfl hb1.cells) ?_
      refine WL.pureG rfl rfl rfl rfl rfl (PV.load1 T.na86 rfl hb1.cells (Ext.refl _) rfl) ?_
      refine WL.pureG rfl rfl rfl rfl rfl ((by first | exact PV.len rfl (by assumption) T.sl86 | exact PV.lenOs rfl (by assumption) T.sl86 | exact PV.len rfl (NL.rd (by assumption)) T.sl86 | exact PV.len rfl (Inn.rd (by assumption) (by omega)) T.sl86)) ?_
      refine WL.pureG rfl rfl rfl rfl rfl (PV.geq rfl rfl) ?_
      refine WL.pureG rfl rfl rfl rfl rfl (PV.pickT rfl rfl) ?_
      refine WL.pure rfl rfl rfl (PV.pickF rfl rfl) ?_
      refine WL.nilS ?_
      refine CW.cond rfl (fun hc6 => ?_) (fun hc6 => ?_)
      · skip
        try simp only [nq] at hc6
        refine CW.reg ?_
        refine WL.pure rfl rfl rfl (PV.fieldAddr T.fl88_2 rfl hb4.cells) ?_
        refine WL.pure rfl rfl rfl (PV.load1 T.na86 rfl hb4.cells (Ext.refl _) rfl) ?_
        refine WL.pure rfl rfl rfl (PV.fieldAddr T.fl178_1 rfl hb22.cells) ?_
        refine WL.pure rfl rfl rfl (PV.load1 T.na2 rfl hb22.cells (Ext.refl _) rfl) ?_
        refine WL.pure rfl rfl rfl (PV.fieldAddr T.fl178_2 rfl hb22.cells) ?_
        refine WL.pure rfl rfl rfl (PV.load1 T.na2 rfl hb22.cells (Ext.refl _) rfl) ?_
        refine WL.pure rfl rfl rfl (PV.fieldAddr T.fl178_3 rfl hb22.cells) ?_
        refine WL.pure rfl rfl rfl (PV.load1 T.na2 rfl hb22.cells (Ext.refl _) rfl) ?_
        refine WL.pure rfl rfl rfl (PV.build (ks := [0, 1, 2, 3]) (os := [.const (.int .i64 0), .tmp 97, .tmp 99, .tmp 101]) (css := [[_], [_], [_], [_]]) (ds := [_, _, _, _]) T.bu178 rfl rfl ⟨rfl, rfl, rfl, rfl, trivial⟩ rfl) ?_
        refine WL.op rfl (OpK.build4 (os := [.tmp 102]) rfl T.sl86 rfl rfl T.zv178 rfl rfl (fun v23 g23 w30 hXw30 ho23 hge23 => ?_))
        have hl23 := Lo.new hB hge23
        have hd1_23 := Dj.new hb1.ltO hge23
        have hd2_23 := Dj.new hb2.ltO hge23
        have hd3_23 := Dj.new hb3.ltO hge23
        have hd4_23 := Dj.new hb4.ltO hge23
        have hd17_23 := Dj.new ho17.ltO hge23
        have hd19_23 := Dj.new ho19.ltO hge23
        have hd20_23 := Dj.new ho20.ltO hge23
        have hd22_23 := Dj.new hb22.ltO hge23
        have hk0_23 := OkN.new hU0 hge23
        have hg0_23 := OgR.new hU0.size hge23
        have hB := hB.trans hXw30
        have hb1 := hb1.up hXw30
        have hb2 := hb2.up hXw30
        have hb3 := hb3.up hXw30
        have hb4 := hb4.up hXw30
        have ho17 := ho17.up hXw30
        have ho19 := ho19.up hXw30
        have ho20 := ho20.up hXw30
        have hb22 := hb22.up hXw30
        have hU0 := hU0.ext hXw30
        refine WL.op rfl (OpK.appendN (g := gR) rfl T.sl86 T.zv178 rfl rfl ho19 rfl (Osn.src ho23) (by first | (simp only [List.length_cons, List.length_nil]; omega) | (simp_all; omega)) (fun v24 og24 w31 hXw31 ho24 hap24 => ?_))
        have hl24 := Lo.app hl19 hB hap24
        have hd1_24 := Dj.app hd1_19 hb1.ltO hap24
        have hd2_24 := Dj.app hd2_19 hb2.ltO hap24
        have hd3_24 := Dj.app hd3_19 hb3.ltO hap24
        have hd4_24 := Dj.app hd4_19 hb4.ltO hap24
        have hd17_24 := Dj.app hd17_19 ho17.ltO hap24
        have hd20_24 := Dj.app (Dj.symm hd19_20) ho20.ltO hap24
        have hd22_24 := Dj.app (Dj.symm hd19_22) hb22.ltO hap24
        have hd23_24 := Dj.app (Dj.symm hd19_23) ho23.ltO hap24
        have hk0_24 := OkN.app hU0 hk0_19 hap24
        have hg0_24 := OgR.app hg0_19 hU0.size hap24
        have hB := hB.updL hXw31 hl19
        have hb1 := hb1.updD hXw31 hd1_19
        have hb2 := hb2.updD hXw31 hd2_19
        have hb3 := hb3.updD hXw31 hd3_19
        have hb4 := hb4.updD hXw31 hd4_19
        have ho17 := ho17.updD hXw31 hd17_19
        have ho20 := ho20.updD hXw31 (Dj.symm hd19_20)
        have hb22 := hb22.updD hXw31 (Dj.symm hd19_22)
        have ho23 := ho23.updD hXw31 (Dj.symm hd19_23)
        have hU0 := hU0.step hXw31 hk0_19
        refine WL.pure rfl rfl rfl (PV.fieldAddr T.fl88_2 rfl hb4.cells) ?_
        refine WL.op rfl (OpK.storeB T.sz86 rfl rfl (by first | rfl | exact Inn.one1 (by assumption) (by omega) | exact Osl.oneCell (by assumption) | exact Osn.oneCell (by assumption) | exact Rd.oneCell (by assumption) | exact Rd.oneCell (NL.rd (by assumption)) | assumption) hb4 rfl (fun w32 hXw32 hb4 => ?_))
        have hB := hB.updL hXw32 hl4
        have hb1 := hb1.updD hXw32 hd1_4
        have hb2 := hb2.updD hXw32 hd2_4
        have hb3 := hb3.updD hXw32 hd3_4
        have ho17 := ho17.updD hXw32 (Dj.symm hd4_17)
        have ho20 := ho20.updD hXw32 (Dj.symm hd4_20)
        have hb22 := hb22.updD hXw32 (Dj.symm hd4_22)
        have ho23 := ho23.updD hXw32 (Dj.symm hd4_23)
        have ho24 := ho24.updD hXw32 (Dj.symm hd4_24)
        have hU0 := hU0.step hXw32 hk0_4
        refine WL.nil ?_
        refine NQ.block ?_
        refine NQ.then ?_
        refine CW.reg ?_
        refine WL.mv rfl rfl ?_
        refine WL.pure rfl rfl rfl (PV.add rfl rfl (by constructor <;> omega)) ?_
        refine WL.asg rfl rfl ?_
        refine WL.nil ?_
        refine NQ.next (ρ := [(8, _)]) ⟨rfl, rfl, rfl, rfl, rfl, trivial⟩ ?_
        exact ⟨_, ⟨v24, og24, v20, og20, k + 1, rfl, rfl, hU0, osnE ho24 (by first | exact runE_yes (by omega) rfl | exact runE_no (by omega)), (by first | exact hg0_24 | exact OgR.weak hg0_24), osE ho20 (by first | rfl | (simp_all; done) | (simp_all; omega)), (by first | exact hg0_20 | exact OgR.weak hg0_20), bxE hb4 (by first | rfl | (simp_all; done) | (simp_all; omega)), (Dj.symm hd20_24), (by first | omega | assumption | (simp_all; done) | (simp_all; omega))⟩, by omega⟩
      try simp only [nq] at hc6
      refine CW.skip ?_
      refine NQ.block ?_
      refine NQ.then ?_
      refine CW.reg ?_
      refine WL.mv rfl rfl ?_
      refine WL.pure rfl rfl rfl (PV.add rfl rfl (by constructor <;> omega)) ?_
      refine WL.asg rfl rfl ?_
      refine WL.nil ?_
      refine NQ.next (ρ := [(8, _)]) ⟨rfl, rfl, rfl, rfl, rfl, trivial⟩ ?_
      exact ⟨_, ⟨v19, og19, v20, og20, k + 1, rfl, rfl, hU0, osnE ho19 (by first | exact runE_yes (by omega) rfl | exact runE_no (by omega)), (by first | exact hg0_19 | exact OgR.weak hg0_19), osE ho20 (by first | rfl | (simp_all; done) | (simp_all; omega)), (by first | exact hg0_20 | exact OgR.weak hg0_20), bxE hb4 (by first | rfl | (simp_all; done) | (simp_all; omega)), hd19_20, (by first | omega | assumption | (simp_all; done) | (simp_all; omega))⟩, by omega⟩
    try simp only [nq] at hc4
    refine WL.pureG rfl rfl rfl rfl rfl (PV.move rfl) ?_
    refine WL.pureG rfl rfl rfl rfl rfl (PV.fieldAddr T.fl88_2 rfl hb1.cells) ?_
    refine WL.pureG rfl rfl rfl rfl rfl (PV.load1 T.na86 rfl hb1.cells (Ext.refl _) rfl) ?_
    refine WL.pureG rfl rfl rfl rfl rfl ((by first | exact PV.len rfl (by assumption) T.sl86 | exact PV.lenOs rfl (by assumption) T.sl86 | exact PV.len rfl (NL.rd (by assumption)) T.sl86 | exact PV.len rfl (Inn.rd (by assumption) (by omega)) T.sl86)) ?_
    refine WL.pureG rfl rfl rfl rfl rfl (PV.lss rfl rfl) ?_
    refine WL.pure rfl rfl rfl (PV.pickT rfl rfl) ?_
    refine WL.mv rfl rfl ?_
    refine WL.split (t := 79) rfl (fun hc7 => ?_) (fun hc7 => ?_)
    · skip
      try simp only [nq] at hc7
      refine WL.skip rfl rfl rfl rfl rfl ?_
      refine WL.skip rfl rfl rfl rfl rfl ?_
      refine WL.skip rfl rfl rfl rfl rfl ?_
      refine WL.skip rfl rfl rfl rfl rfl ?_
      refine WL.skip rfl rfl rfl rfl rfl ?_
      refine WL.skip rfl rfl rfl rfl rfl ?_
      refine WL.skip rfl rfl rfl rfl rfl ?_
      refine WL.skipU rfl rfl rfl rfl rfl ?_
      refine WL.skipU rfl rfl rfl rfl rfl ?_
      refine WL.skipU rfl rfl rfl rfl rfl ?_
      refine WL.skipU rfl rfl rfl rfl rfl ?_
      refine WL.skipU rfl rfl rfl rfl rfl ?_
      refine WL.skip rfl rfl rfl rfl rfl ?_
      refine WL.pure rfl rfl rfl (PV.pickT rfl rfl) ?_
      refine WL.nilS ?_
      refine CW.condT rfl ?_
      refine CW.reg ?_
      refine WL.pure rfl rfl rfl (PV.fieldAddr T.fl88_2 rfl hb4.cells) ?_
      refine WL.pure rfl rfl rfl (PV.load1 T.na86 rfl hb4.cells (Ext.refl _) rfl) ?_
      refine WL.pure rfl rfl rfl (PV.fieldAddr T.fl178_1 rfl hb22.cells) ?_
      refine WL.pure rfl rfl rfl (PV.load1 T.na2 rfl hb22.cells (Ext.refl _) rfl) ?_
      refine WL.pure rfl rfl rfl (PV.fieldAddr T.fl178_2 rfl hb22.cells) ?_
      refine WL.pure rfl rfl rfl (PV.load1 T.na2 rfl hb22.cells (Ext.refl _) rfl) ?_
      refine WL.pure rfl rfl rfl (PV.fieldAddr T.fl178_3 rfl hb22.cells) ?_
      refine WL.pure rfl rfl rfl (PV.load1 T.na2 rfl hb22.cells (Ext.refl _) rfl) ?_
      refine WL.pure rfl rfl rfl (PV.build (ks := [0, 1, 2, 3]) (os := [.const (.int .i64 0), .tmp 97, .tmp 99, .tmp 101]) (css := [[_], [_], [_], [_]]) (ds := [_, _, _, _]) T.bu178 rfl rfl ⟨rfl, rfl, rfl, rfl, trivial⟩ rfl) ?_
      refine WL.op rfl (OpK.build4 (os := [.tmp 102]) rfl T.sl86 rfl rfl T.zv178 rfl rfl (fun v25 g25 w33 hXw33 ho25 hge25 => ?_))
      have hl25 := Lo.new hB hge25
      have hd1_25 := Dj.new hb1.ltO hge25
      have hd2_25 := Dj.new hb2.ltO hge25
      have hd3_25 := Dj.new hb3.ltO hge25
      have hd4_25 := Dj.new hb4.ltO hge25
      have hd17_25 := Dj.new ho17.ltO hge25
      have hd19_25 := Dj.new ho19.ltO hge25
      have hd20_25 := Dj.new ho20.ltO hge25
      have hd22_25 := Dj.new hb22.ltO hge25
      have hk0_25 := OkN.new hU0 hge25
      have hg0_25 := OgR.new hU0.size hge25
      have hB := hB.trans hXw33
      have hb1 := hb1.up hXw33
      have hb2 := hb2.up hXw33
      have hb3 := hb3.up hXw33
      have hb4 := hb4.up hXw33
      have ho17 := ho17.up hXw33
      have ho19 := ho19.up hXw33
      have ho20 := ho20.up hXw33
      have hb22 := hb22.up hXw33
      have hU0 := hU0.ext hXw33
      refine WL.op rfl (OpK.appendN (g := gR) rfl T.sl86 T.zv178 rfl rfl ho19 rfl (Osn.src ho25) (by first | (simp only [List.length_cons, List.length_nil]; omega) | (simp_all; omega)) (fun v26 og26 w34 hXw34 ho26 hap26 => ?_))
      have hl26 := Lo.app hl19 hB hap26
      have hd1_26 := Dj.app hd1_19 hb1.ltO hap26
      have hd2_26 := Dj.app hd2_19 hb2.ltO hap26
      have hd3_26 := Dj.app hd3_19 hb3.ltO hap26
      have hd4_26 := Dj.app hd4_19 hb4.ltO hap26
      have hd17_26 := Dj.app hd17_19 ho17.ltO hap26
      have hd20_26 := Dj.app (Dj.symm hd19_20) ho20.ltO hap26
      have hd22_26 := Dj.app (Dj.symm hd19_22) hb22.ltO hap26
      have hd25_26 := Dj.app (Dj.symm hd19_25) ho25.ltO hap26
      have hk0_26 := OkN.app hU0 hk0_19 hap26
      have hg0_26 := OgR.app hg0_19 hU0.size hap26
      have hB := hB.updL hXw34 hl19
      have hb1 := hb1.updD hXw34 hd1_19
      have hb2 := hb2.updD hXw34 hd2_19
      have hb3 := hb3.updD hXw34 hd3_19
      have hb4 := hb4.updD hXw34 hd4_19
      have ho17 := ho17.updD hXw34 hd17_19
      have ho20 := ho20.updD hXw34 (Dj.symm hd19_20)
      have hb22 := hb22.updD hXw34 (Dj.symm hd19_22)
      have ho25 := ho25.updD hXw34 (Dj.symm hd19_25)
      have hU0 := hU0.step hXw34 hk0_19
      refine WL.pure rfl rfl rfl (PV.fieldAddr T.fl88_2 rfl hb4.cells) ?_
      refine WL.op rfl (OpK.storeB T.sz86 rfl rfl (by first | rfl | exact Inn.one1 (by assumption) (by omega) | exact Osl.oneCell (by assumption) | exact Osn.oneCell (by assumption) | exact Rd.oneCell (by assumption) | exact Rd.oneCell (NL.rd (by assumption)) | assumption) hb4 rfl (fun w35 hXw35 hb4 => ?_))
      have hB := hB.updL hXw35 hl4
      have hb1 := hb1.updD hXw35 hd1_4
      have hb2 := hb2.updD hXw35 hd2_4
      have hb3 := hb3.updD hXw35 hd3_4
      have ho17 := ho17.updD hXw35 (Dj.symm hd4_17)
      have ho20 := ho20.updD hXw35 (Dj.symm hd4_20)
      have hb22 := hb22.updD hXw35 (Dj.symm hd4_22)
      have ho25 := ho25.updD hXw35 (Dj.symm hd4_25)
      have ho26 := ho26.updD hXw35 (Dj.symm hd4_26)
      have hU0 := hU0.step hXw35 hk0_4
      refine WL.nil ?_
      refine NQ.block ?_
      refine NQ.then ?_
      refine CW.reg ?_
      refine WL.mv rfl rfl ?_
      refine WL.pure rfl rfl rfl (PV.add rfl rfl (by constructor <;> omega)) ?_
      refine WL.asg rfl rfl ?_
      refine WL.nil ?_
      refine NQ.next (ρ := [(8, _)]) ⟨rfl, rfl, rfl, rfl, rfl, trivial⟩ ?_
      exact ⟨_, ⟨v26, og26, v20, og20, k + 1, rfl, rfl, hU0, osnE ho26 (by first | exact runE_yes (by omega) rfl | exact runE_no (by omega)), (by first | exact hg0_26 | exact OgR.weak hg0_26), osE ho20 (by first | rfl | (simp_all; done) | (simp_all; omega)), (by first | exact hg0_20 | exact OgR.weak hg0_20), bxE hb4 (by first | rfl | (simp_all; done) | (simp_all; omega)), (Dj.symm hd20_26), (by first | omega | assumption | (simp_all; done) | (simp_all; omega))⟩, by omega⟩
    try simp only [nq] at hc7
    refine WL.pureG rfl rfl rfl rfl rfl (PV.fieldAddr T.fl178_0 rfl hb22.cells) ?_
    refine WL.pureG rfl rfl rfl rfl rfl (PV.load1 T.na2 rfl hb22.cells (Ext.refl _) rfl) ?_
    refine WL.pureG rfl rfl rfl rfl rfl (PV.fieldAddr T.fl88_0 rfl hb1.cells) ?_
    refine WL.pureG rfl rfl rfl rfl rfl (PV.load1 T.na2 rfl hb1.cells (Ext.refl _) rfl) ?_
    refine WL.pureG rfl rfl rfl rfl rfl (PV.add rfl rfl (by constructor <;> omega)) ?_
    refine WL.pureG rfl rfl rfl rfl rfl (PV.eql rfl rfl) ?_
    refine WL.pureG rfl rfl rfl rfl rfl (PV.move rfl) ?_
    refine WL.split (t := 86) rfl (fun hc8 => ?_) (fun hc8 => ?_)
    rotate_left
    · skip
      try simp only [nq] at hc8
      refine WL.skip rfl rfl rfl rfl rfl ?_
      refine WL.skip rfl rfl rfl rfl rfl ?_
      refine WL.skip rfl rfl rfl rfl rfl ?_
      refine WL.skip rfl rfl rfl rfl rfl ?_
      refine WL.skip rfl rfl rfl rfl rfl ?_
      refine WL.pureG rfl rfl rfl rfl rfl (PV.pickF rfl rfl) ?_
      refine WL.pure rfl rfl rfl (PV.pickF rfl rfl) ?_
      refine WL.nilS ?_
      refine CW.condF rfl ?_
      refine CW.skip ?_
      refine NQ.block ?_
      refine NQ.then ?_
      refine CW.reg ?_
      refine WL.mv rfl rfl ?_
      refine WL.pure rfl rfl rfl (PV.add rfl rfl (by constructor <;> omega)) ?_
      refine WL.asg rfl rfl ?_
      refine WL.nil ?_
      refine NQ.next (ρ := [(8, _)]) ⟨rfl, rfl, rfl, rfl, rfl, trivial⟩ ?_
      exact ⟨_, ⟨v19, og19, v20, og20, k + 1, rfl, rfl, hU0, osnE ho19 (by first | exact runE_yes (by omega) rfl | exact runE_no (by omega)), (by first | exact hg0_19 | exact OgR.weak hg0_19), osE ho20 (by first | rfl | (simp_all; done) | (simp_all; omega)), (by first | exact hg0_20 | exact OgR.weak hg0_20), bxE hb4 (by first | rfl | (simp_all; done) | (simp_all; omega)), hd19_20, (by first | omega | assumption | (simp_all; done) | (simp_all; omega))⟩, by omega⟩
    try simp only [nq] at hc8
    refine WL.pureG rfl rfl rfl rfl rfl (PV.move rfl) ?_
    refine WL.pureG rfl rfl rfl rfl rfl (PV.fieldAddr T.fl88_2 rfl hb1.cells) ?_
    refine WL.pureG rfl rfl rfl rfl rfl (PV.load1 T.na86 rfl hb1.cells (Ext.refl _) rfl) ?_
    refine WL.pureG rfl rfl rfl rfl rfl ((by first | exact PV.len rfl (by assumption) T.sl86 | exact PV.lenOs rfl (by assumption) T.sl86 | exact PV.len rfl (NL.rd (by assumption)) T.sl86 | exact PV.len rfl (Inn.rd (by assumption) (by omega)) T.sl86)) ?_
    refine WL.pureG rfl rfl rfl rfl rfl (PV.geq rfl rfl) ?_
    refine WL.pureG rfl rfl rfl rfl rfl (PV.pickT rfl rfl) ?_
    refine WL.pure rfl rfl rfl (PV.pickF rfl rfl) ?_
    refine WL.nilS ?_
    refine CW.cond rfl (fun hc9 => ?_) (fun hc9 => ?_)
    · skip
      try simp only [nq] at hc9
      refine CW.reg ?_
      refine WL.pure rfl rfl rfl (PV.fieldAddr T.fl88_2 rfl hb4.cells) ?_
      refine WL.pure rfl rfl rfl (PV.load1 T.na86 rfl hb4.cells (Ext.refl _) rfl) ?_
      refine WL.pure rfl rfl rfl (PV.fieldAddr T.fl178_1 rfl hb22.cells) ?_
      refine WL.pure rfl rfl rfl (PV.load1 T.na2 rfl hb22.cells (Ext.refl _) rfl) ?_
      refine WL.pure rfl rfl rfl (PV.fieldAddr T.fl178_2 rfl hb22.cells) ?_
      refine WL.pure rfl rfl rfl (PV.load1 T.na2 rfl hb22.cells (Ext.refl _) rfl) ?_
      refine WL.pure rfl rfl rfl (PV.fieldAddr T.fl178_3 rfl hb22.cells) ?_
      refine WL.pure rfl rfl rfl (PV.load1 T.na2 rfl hb22.cells (Ext.refl _) rfl) ?_
      refine WL.pure rfl rfl rfl (PV.build (ks := [0, 1, 2, 3]) (os := [.const (.int .i64 0), .tmp 97, .tmp 99, .tmp 101]) (css := [[_], [_], [_], [_]]) (ds := [_, _, _, _]) T.bu178 rfl rfl ⟨rfl, rfl, rfl, rfl, trivial⟩ rfl) ?_
      refine WL.op rfl (OpK.build4 (os := [.tmp 102]) rfl T.sl86 rfl rfl T.zv178 rfl rfl (fun v27 g27 w36 hXw36 ho27 hge27 => ?_))
      have hl27 := Lo.new hB hge27
      have hd1_27 := Dj.new hb1.ltO hge27
      have hd2_27 := Dj.new hb2.ltO hge27
      have hd3_27 := Dj.new hb3.ltO hge27
      have hd4_27 := Dj.new hb4.ltO hge27
      have hd17_27 := Dj.new ho17.ltO hge27
      have hd19_27 := Dj.new ho19.ltO hge27
      have hd20_27 := Dj.new ho20.ltO hge27
      have hd22_27 := Dj.new hb22.ltO hge27
      have hk0_27 := OkN.new hU0 hge27
      have hg0_27 := OgR.new hU0.size hge27
      have hB := hB.trans hXw36
      have hb1 := hb1.up hXw36
      have hb2 := hb2.up hXw36
      have hb3 := hb3.up hXw36
      have hb4 := hb4.up hXw36
      have ho17 := ho17.up hXw36
      have ho19 := ho19.up hXw36
      have ho20 := ho20.up hXw36
      have hb22 := hb22.up hXw36
      have hU0 := hU0.ext hXw36
      refine WL.op rfl (OpK.appendN (g := gR) rfl T.sl86 T.zv178 rfl rfl ho19 rfl (Osn.src ho27) (by first | (simp only [List.length_cons, List.length_nil]; omega) | (simp_all; omega)) (fun v28 og28 w37 hXw37 ho28 hap28 => ?_))
      have hl28 := Lo.app hl19 hB hap28
      have hd1_28 := Dj.app hd1_19 hb1.ltO hap28
      have hd2_28 := Dj.app hd2_19 hb2.ltO hap28
      have hd3_28 := Dj.app hd3_19 hb3.ltO hap28
      have hd4_28 := Dj.app hd4_19 hb4.ltO hap28
      have hd17_28 := Dj.app hd17_19 ho17.ltO hap28
      have hd20_28 := Dj.app (Dj.symm hd19_20) ho20.ltO hap28
      have hd22_28 := Dj.app (Dj.symm hd19_22) hb22.ltO hap28
      have hd27_28 := Dj.app (Dj.symm hd19_27) ho27.ltO hap28
      have hk0_28 := OkN.app hU0 hk0_19 hap28
      have hg0_28 := OgR.app hg0_19 hU0.size hap28
      have hB := hB.updL hXw37 hl19
      have hb1 := hb1.updD hXw37 hd1_19
      have hb2 := hb2.updD hXw37 hd2_19
      have hb3 := hb3.updD hXw37 hd3_19
      have hb4 := hb4.updD hXw37 hd4_19
      have ho17 := ho17.updD hXw37 hd17_19
      have ho20 := ho20.updD hXw37 (Dj.symm hd19_20)
      have hb22 := hb22.updD hXw37 (Dj.symm hd19_22)
      have ho27 := ho27.updD hXw37 (Dj.symm hd19_27)
      have hU0 := hU0.step hXw37 hk0_19
      refine WL.pure rfl rfl rfl (PV.fieldAddr T.fl88_2 rfl hb4.cells) ?_
      refine WL.op rfl (OpK.storeB T.sz86 rfl rfl (by first | rfl | exact Inn.one1 (by assumption) (by omega) | exact Osl.oneCell (by assumption) | exact Osn.oneCell (by assumption) | exact Rd.oneCell (by assumption) | exact Rd.oneCell (NL.rd (by assumption)) | assumption) hb4 rfl (fun w38 hXw38 hb4 => ?_))
      have hB := hB.updL hXw38 hl4
      have hb1 := hb1.updD hXw38 hd1_4
      have hb2 := hb2.updD hXw38 hd2_4
      have hb3 := hb3.updD hXw38 hd3_4
      have ho17 := ho17.updD hXw38 (Dj.symm hd4_17)
      have ho20 := ho20.updD hXw38 (Dj.symm hd4_20)
      have hb22 := hb22.updD hXw38 (Dj.symm hd4_22)
      have ho27 := ho27.updD hXw38 (Dj.symm hd4_27)
      have ho28 := ho28.updD hXw38 (Dj.symm hd4_28)
      have hU0 := hU0.step hXw38 hk0_4
      refine WL.nil ?_
      refine NQ.block ?_
      refine NQ.then ?_
      refine CW.reg ?_
      refine WL.mv rfl rfl ?_
      refine WL.pure rfl rfl rfl (PV.add rfl rfl (by constructor <;> omega)) ?_
      refine WL.asg rfl rfl ?_
      refine WL.nil ?_
      refine NQ.next (ρ := [(8, _)]) ⟨rfl, rfl, rfl, rfl, rfl, trivial⟩ ?_
      exact ⟨_, ⟨v28, og28, v20, og20, k + 1, rfl, rfl, hU0, osnE ho28 (by first | exact runE_yes (by omega) rfl | exact runE_no (by omega)), (by first | exact hg0_28 | exact OgR.weak hg0_28), osE ho20 (by first | rfl | (simp_all; done) | (simp_all; omega)), (by first | exact hg0_20 | exact OgR.weak hg0_20), bxE hb4 (by first | rfl | (simp_all; done) | (simp_all; omega)), (Dj.symm hd20_28), (by first | omega | assumption | (simp_all; done) | (simp_all; omega))⟩, by omega⟩
    try simp only [nq] at hc9
    refine CW.skip ?_
    refine NQ.block ?_
    refine NQ.then ?_
    refine CW.reg ?_
    refine WL.mv rfl rfl ?_
    refine WL.pure rfl rfl rfl (PV.add rfl rfl (by constructor <;> omega)) ?_
    refine WL.asg rfl rfl ?_
    refine WL.nil ?_
    refine NQ.next (ρ := [(8, _)]) ⟨rfl, rfl, rfl, rfl, rfl, trivial⟩ ?_
    exact ⟨_, ⟨v19, og19, v20, og20, k + 1, rfl, rfl, hU0, osnE ho19 (by first | exact runE_yes (by omega) rfl | exact runE_no (by omega)), (by first | exact hg0_19 | exact OgR.weak hg0_19), osE ho20 (by first | rfl | (simp_all; done) | (simp_all; omega)), (by first | exact hg0_20 | exact OgR.weak hg0_20), bxE hb4 (by first | rfl | (simp_all; done) | (simp_all; omega)), hd19_20, (by first | omega | assumption | (simp_all; done) | (simp_all; omega))⟩, by omega⟩
  try simp only [nq] at hc3
  refine CW.exit ?_
  refine XQ.then ?_
  refine XQ.then ?_
  refine XQ.here ?_
  refine NQ.then ?_
  refine CW.seq ?_
  refine CW.reg ?_
  obtain rfl : k = xa2.length + xy2.length := (by omega); have he9 : (allE a0 xa2 xy2) ++ runE a0 xa2.length (allE a0 xa2 xy2) (xa2.length + xy2.length) = eA a0 xa2 xy2 := rfl; rw [he9] at ho19
  refine WL.pure rfl rfl rfl (PV.loadA T.ag88 rfl hb4.cells (Ext.refl _) rfl) ?_
  refine WL.op rfl (OpK.call rfl T.cf151 rfl (c_spec_l05Give (Osn.rdR ho19) (Osl.rd ho20)) (fun rv3 w39 hR => ?_))
  rcases hR with ⟨hXw39, ⟨hal, rfl⟩ | ⟨hal, rfl⟩⟩
  · skip
    have hB := hB.trans hXw39
    have hb1 := hb1.up hXw39
    have hb2 := hb2.up hXw39
    have hb3 := hb3.up hXw39
    have hb4 := hb4.up hXw39
    have ho17 := ho17.up hXw39
    have ho19 := ho19.up hXw39
    have ho20 := ho20.up hXw39
    refine WL.pure rfl rfl rfl (PV.extract rfl rfl) ?_
    refine WL.pure rfl rfl rfl (PV.extract rfl rfl) ?_
    refine WL.op rfl (OpK.storeA T.sz88 rfl rfl rfl rfl (by simp [Value.oneCell'] <;> first | done | (repeat' apply And.intro) <;> first | rfl | exact Inn.one1 (by assumption) (by omega) | exact Osl.oneCell (by assumption) | exact Osn.oneCell (by assumption) | exact Rd.oneCell (by assumption) | exact Rd.oneCell (NL.rd (by assumption)) | assumption) hb3 (fun w40 hXw40 hb3 => ?_))
    have hB := hB.updL hXw40 hl3
    have hb1 := hb1.updD hXw40 hd1_3
    have hb2 := hb2.updD hXw40 hd2_3
    have hb4 := hb4.updD hXw40 (Dj.symm hd3_4)
    have ho17 := ho17.updD hXw40 (Dj.symm hd3_17)
    have ho19 := ho19.updD hXw40 (Dj.symm hd3_19)
    have ho20 := ho20.updD hXw40 (Dj.symm hd3_20)
    refine WL.asg rfl rfl ?_
    refine WL.nilS ?_
    refine CW.ret ?_
    refine RQ.rc1 T.ag88 rfl (by first | exact Cells.up (by assumption) hB | exact Bx.cells (by assumption) | assumption) rfl rfl ?_
    refine ⟨hB, v19, og19, v20, og20, ?_, osnE ho19 ?_, hl19, osE ho20 ?_, hl20, hd19_20⟩
    · skip
      first | (have hn : ¬ (bothB a0 a1 xa2 xa3 y0 y1 xy2 xy3) = true := (by first | exact both_n1 (by assumption) | exact both_n2 (by assumption) | exact both_n3 (by omega) | exact both_n6 (by assumption) | exact both_n4 (by assumption)); first | exact tE2 (by rw [onI_no hn, onI_no hn]) (bE (Bool.eq_false_iff.2 hn).symm) | exact tE2 (by rw [onI_no hn, onI_no hn]; rfl) (bE (Bool.eq_false_iff.2 hn).symm)) | (have hy : (bothB a0 a1 xa2 xa3 y0 y1 xy2 xy3) = true := (both_yes (by assumption) (by assumption) (by omega) (by assumption)); first | exact tE2 (by rw [onI_yes hy, onI_yes hy]; rfl) (bE hy.symm) | exact tE2 (by rw [onI_yes hy, onI_yes hy]) (bE hy.symm))
    · skip
      first | (rw [onT_no (by first | exact both_n1 (by assumption) | exact both_n2 (by assumption) | exact both_n3 (by omega) | exact both_n6 (by assumption) | exact both_n4 (by assumption))]; done) | (rw [onT_yes (both_yes (by assumption) (by assumption) (by omega) (by assumption))]; first | done | rfl)
    · skip
      first | (rw [onT_no (by first | exact both_n1 (by assumption) | exact both_n2 (by assumption) | exact both_n3 (by omega) | exact both_n6 (by assumption) | exact both_n4 (by assumption))]; done) | (rw [onT_yes (both_yes (by assumption) (by assumption) (by omega) (by assumption))]; first | done | rfl)
  · skip
    have hB := hB.trans hXw39
    have hb1 := hb1.up hXw39
    have hb2 := hb2.up hXw39
    have hb3 := hb3.up hXw39
    have hb4 := hb4.up hXw39
    have ho17 := ho17.up hXw39
    have ho19 := ho19.up hXw39
    have ho20 := ho20.up hXw39
    refine WL.pure rfl rfl rfl (PV.extract rfl rfl) ?_
    refine WL.pure rfl rfl rfl (PV.extract rfl rfl) ?_
    refine WL.op rfl (OpK.storeA T.sz88 rfl rfl rfl rfl (by simp [Value.oneCell'] <;> first | done | (repeat' apply And.intro) <;> first | rfl | exact Inn.one1 (by assumption) (by omega) | exact Osl.oneCell (by assumption) | exact Osn.oneCell (by assumption) | exact Rd.oneCell (by assumption) | exact Rd.oneCell (NL.rd (by assumption)) | assumption) hb3 (fun w41 hXw41 hb3 => ?_))
    have hB := hB.updL hXw41 hl3
    have hb1 := hb1.updD hXw41 hd1_3
    have hb2 := hb2.updD hXw41 hd2_3
    have hb4 := hb4.updD hXw41 (Dj.symm hd3_4)
    have ho17 := ho17.updD hXw41 (Dj.symm hd3_17)
    have ho19 := ho19.updD hXw41 (Dj.symm hd3_19)
    have ho20 := ho20.updD hXw41 (Dj.symm hd3_20)
    refine WL.asg rfl rfl ?_
    refine WL.nilS ?_
    refine CW.ret ?_
    refine RQ.rc1 T.ag88 rfl (by first | exact Cells.up (by assumption) hB | exact Bx.cells (by assumption) | assumption) rfl rfl ?_
    refine ⟨hB, (.slice none 0 0), none, (.slice none 0 0), none, ?_, osnE (Osn.nil gR_ok _) ?_, Lo.nl _, osE (Osl.nil _ _) ?_, Lo.nl _, (Dj.nl _)⟩
    · skip
      first | (have hn : ¬ (bothB a0 a1 xa2 xa3 y0 y1 xy2 xy3) = true := (by first | exact both_n1 (by assumption) | exact both_n2 (by assumption) | exact both_n3 (by omega) | exact both_n6 (by assumption) | exact both_n4 (by assumption)); first | exact tE2 (by rw [onI_no hn, onI_no hn]) (bE (Bool.eq_false_iff.2 hn).symm) | exact tE2 (by rw [onI_no hn, onI_no hn]; rfl) (bE (Bool.eq_false_iff.2 hn).symm)) | (have hy : (bothB a0 a1 xa2 xa3 y0 y1 xy2 xy3) = true := (both_yes (by assumption) (by assumption) (by omega) (by assumption)); first | exact tE2 (by rw [onI_yes hy, onI_yes hy]; rfl) (bE hy.symm) | exact tE2 (by rw [onI_yes hy, onI_yes hy]) (bE hy.symm))
    · skip
      first | (rw [onT_no (by first | exact both_n1 (by assumption) | exact both_n2 (by assumption) | exact both_n3 (by omega) | exact both_n6 (by assumption) | exact both_n4 (by assumption))]; done) | (rw [onT_yes (both_yes (by assumption) (by assumption) (by omega) (by assumption))]; first | done | rfl)
    · skip
      first | (rw [onT_no (by first | exact both_n1 (by assumption) | exact both_n2 (by assumption) | exact both_n3 (by omega) | exact both_n6 (by assumption) | exact both_n4 (by assumption))]; done) | (rw [onT_yes (both_yes (by assumption) (by assumption) (by omega) (by assumption))]; first | done | rfl)
theorem c_impl_areWithin {w : World} {va : Value} {xs : List Int} {lo hi : Int} (ha : Rd EI w va xs) : Calls Try.prog 144 #[va, .int .i64 lo, .int .i64 hi] w (Ret1 (RQt (.bool (allIn xs lo hi)) w)) := by
  have hB : Ext w w := Ext.refl w
  have hla := ha.leI
  refine callsOf (vs := [_, _, _]) Try.func144 rfl Try.ntmps144 rfl rfl ?_
  refine CW.seq ?_
  refine CW.reg ?_
  refine WL.asg rfl rfl ?_
  refine WL.nilS ?_
  refine CW.seq ?_
  refine CW.seq ?_
  refine CW.reg ?_
  refine WL.mv rfl rfl ?_
  refine WL.pure rfl rfl rfl ((by first | exact PV.len rfl (by assumption) T.sl28 | exact PV.lenOs rfl (by assumption) T.sl28 | exact PV.len rfl (NL.rd (by assumption)) T.sl28 | exact PV.len rfl (Inn.rd (by assumption) (by omega)) T.sl28)) ?_
  refine WL.mv rfl rfl ?_
  refine WL.nilS ?_
  refine CW.block ?_
  refine CW.loop (σk := [(1, _), (2, _), (9, _), (10, _)]) (fun ρ wz m => ∃ (k : Nat), ρ = [(11, .int .i64 (k : Nat))] ∧ m = xs.length - k ∧ UpdL [] w wz ∧ (k ≤ xs.length) ∧ (allIn (xs.take k) lo hi = true)) (ρ₀ := [(11, _)]) (m₀ := _) ⟨rfl, rfl, rfl, rfl, rfl, trivial⟩ ⟨0, rfl, rfl, (UpdL.refl _ _), (by first | omega | rfl | (simp; done) | assumption | (simp_all; done)), (by exact allIn_zero _ _ _)⟩ ?_
  rintro _ wl1 _ ⟨k, rfl, rfl, hU0, hk, he⟩
  have hB := hB.loop hU0 trivial
  refine CW.seq ?_
  refine CW.reg ?_
  refine WL.pure rfl rfl rfl (PV.lss rfl rfl) ?_
  refine WL.nilS ?_
  refine CW.seq ?_
  refine CW.cond rfl (fun hc1 => ?_) (fun hc1 => ?_)
  · skip
    try simp only [nq] at hc1
    refine CW.skipS ?_
    refine CW.seq ?_
    refine CW.block ?_
    refine CW.seq ?_
    refine CW.reg ?_
    first
      | refine WL.at (x := .tmp 9) (y := .tmp 11) (E := EI) (0) rfl rfl (by first | assumption | exact Inn.rd (by assumption) (by omega)) (by first | omega | (simp only [List.length_set]; omega) | (simp only [List.length_append, List.length_take, List.length_replicate, List.length_drop]; omega)) (fun p1 csp1 hpp1 hcp1 hq => ?_)
      | refine WL.atZ (x := .tmp 9) (y := .tmp 11) (E := EI) (0) rfl rfl (by first | assumption | exact Inn.rd (by assumption) (by omega)) (by first | omega | (simp only [List.length_set]; omega) | (simp only [List.length_append, List.length_take, List.length_replicate, List.length_drop]; omega)) (fun p1 csp1 hpp1 hzp1 hcp1 hq => ?_)
    cases hq
    refine WL.pure rfl rfl rfl ((by first | exact PV.indexAddr hpp1 rfl rfl T.sl28 | exact PV.indexAddr hpp1 rfl (by rw [← hzp1]; rfl) T.sl28)) ?_
    refine WL.pure rfl rfl rfl ((by first | exact PV.load0 T.na2 rfl (by first | exact Cells.up (by assumption) hB | exact Bx.cells (by assumption) | assumption) (Ext.refl _) rfl | exact PV.load1 T.na2 rfl (by first | exact Cells.up (by assumption) hB | exact Bx.cells (by assumption) | assumption) (Ext.refl _) rfl)) ?_
    refine WL.asg rfl rfl ?_
    refine WL.nilS ?_
    refine CW.seq ?_
    refine CW.reg ?_
    refine WL.mv rfl rfl ?_
    refine WL.mv rfl rfl ?_
    refine WL.mv rfl rfl ?_
    refine WL.op rfl (OpK.callR rfl T.cf104 rfl (c_impl_within) (fun w1 hXw1 => ?_))
    have hB := hB.trans hXw1
    have hU0 := hU0.ext hXw1
    refine WL.pure rfl rfl rfl (PV.not rfl) ?_
    refine WL.nilS ?_
    refine CW.cond rfl (fun hc2 => ?_) (fun hc2 => ?_)
    · skip
      try simp only [nq] at hc2
      refine CW.seq ?_
      refine CW.reg ?_
      refine WL.asg rfl rfl ?_
      refine WL.nilS ?_
      refine CW.ret ?_
      refine RQ.block ?_
      refine RQ.then ?_
      refine RQ.then ?_
      refine RQ.block ?_
      refine RQ.then ?_
      refine RQ.r1 rfl ?_
      refine ⟨?_, hB⟩
      exact bE (allIn_bad (k := k) (by omega) (by assumption)).symm
    try simp only [nq] at hc2
    refine CW.skip ?_
    refine NQ.block ?_
    refine NQ.then ?_
    refine CW.reg ?_
    refine WL.pure rfl rfl rfl (PV.add rfl rfl (by constructor <;> omega)) ?_
    refine WL.mv rfl rfl ?_
    refine WL.nil ?_
    refine NQ.next (ρ := [(11, _)]) ⟨rfl, rfl, rfl, rfl, rfl, trivial⟩ ?_
    exact ⟨_, ⟨k + 1, rfl, rfl, hU0, (by first | omega | assumption | (simp_all; done) | (simp_all; omega)), (by exact allIn_step (by omega) he (by assumption))⟩, by omega⟩
  try simp only [nq] at hc1
  refine CW.exit ?_
  refine XQ.then ?_
  refine XQ.then ?_
  refine XQ.here ?_
  refine NQ.then ?_
  refine CW.seq ?_
  refine CW.reg ?_
  refine WL.asg rfl rfl ?_
  refine WL.nilS ?_
  refine CW.ret ?_
  refine RQ.r1 rfl ?_
  refine ⟨?_, hB⟩
  exact bE (allIn_all (k := k) (by omega) he).symm
theorem c_impl_IsWord {w : World} {va : Value} {xs : List Int} {L : Int} (ha : Rd EI w va xs) : Calls Try.prog 124 #[va, .int .i64 L] w (Ret1 (RQt (.bool (isWordB xs L)) w)) := by
  have hB : Ext w w := Ext.refl w
  have hla := ha.leI
  refine callsOf (vs := [_, _]) Try.func124 rfl Try.ntmps124 rfl rfl ?_
  refine CW.seq ?_
  refine CW.reg ?_
  refine WL.asg rfl rfl ?_
  refine WL.nilS ?_
  refine CW.seq ?_
  refine CW.reg ?_
  refine WL.mv rfl rfl ?_
  refine WL.op rfl (OpK.callR rfl T.cf104 rfl (c_impl_within) (fun w1 hXw1 => ?_))
  have hB := hB.trans hXw1
  refine WL.mv rfl rfl ?_
  refine WL.split (t := 7) rfl (fun hc1 => ?_) (fun hc1 => ?_)
  rotate_left
  · skip
    try simp only [nq] at hc1
    refine WL.skip rfl rfl rfl rfl rfl ?_
    refine WL.skip rfl rfl rfl rfl rfl ?_
    refine WL.skip rfl rfl rfl rfl rfl ?_
    refine WL.pure rfl rfl rfl (PV.pickF rfl rfl) ?_
    refine WL.mv rfl rfl ?_
    refine WL.skip rfl rfl rfl rfl rfl ?_
    refine WL.skip rfl rfl rfl rfl rfl ?_
    refine WL.skip rfl rfl rfl rfl rfl ?_
    refine WL.skip rfl rfl rfl rfl rfl ?_
    refine WL.pure rfl rfl rfl (PV.pickF rfl rfl) ?_
    refine WL.asg rfl rfl ?_
    refine WL.nilS ?_
    refine CW.ret ?_
    refine RQ.r1 rfl ?_
    refine ⟨?_, hB⟩
    simp only [isWordB, wordB]; first | (simp_all; done) | (simp_all; omega) | (simp_all; intros; omega)
  try simp only [nq] at hc1
  refine WL.pureG rfl rfl rfl rfl rfl (PV.move rfl) ?_
  refine WL.pureG rfl rfl rfl rfl rfl ((by first | exact PV.len rfl (by assumption) T.sl28 | exact PV.lenOs rfl (by assumption) T.sl28 | exact PV.len rfl (NL.rd (by assumption)) T.sl28 | exact PV.len rfl (Inn.rd (by assumption) (by omega)) T.sl28)) ?_
  refine WL.pureG rfl rfl rfl rfl rfl (PV.leq rfl rfl) ?_
  refine WL.pure rfl rfl rfl (PV.pickT rfl rfl) ?_
  refine WL.mv rfl rfl ?_
  refine WL.split (t := 12) rfl (fun hc2 => ?_) (fun hc2 => ?_)
  rotate_left
  · skip
    try simp only [nq] at hc2
    refine WL.skip rfl rfl rfl rfl rfl ?_
    refine WL.skip rfl rfl rfl rfl rfl ?_
    refine WL.skip rfl rfl rfl rfl rfl ?_
    refine WL.skip rfl rfl rfl rfl rfl ?_
    refine WL.pure rfl rfl rfl (PV.pickF rfl rfl) ?_
    refine WL.asg rfl rfl ?_
    refine WL.nilS ?_
    refine CW.ret ?_
    refine RQ.r1 rfl ?_
    refine ⟨?_, hB⟩
    simp only [isWordB, wordB]; first | (simp_all; done) | (simp_all; omega) | (simp_all; intros; omega)
  try simp only [nq] at hc2
  refine WL.pureG rfl rfl rfl rfl rfl (PV.move rfl) ?_
  refine WL.pureG rfl rfl rfl rfl rfl (PV.move rfl) ?_
  refine WL.pureG rfl rfl rfl rfl rfl (PV.sub rfl rfl (by constructor <;> omega)) ?_
  refine WL.opG rfl rfl rfl (OpK.callR rfl T.cf144 rfl (c_impl_areWithin (by first | assumption | exact Rd.up (by assumption) hB | exact Osl.rd (by assumption) | exact Osn.rdR (by assumption) | exact NL.rd (by assumption) | exact rdII (by assumption) (by assumption) | exact Inn.rd (by assumption) (by omega))) (fun w2 hXw2 => ?_))
  have hB := hB.trans hXw2
  refine WL.pure rfl rfl rfl (PV.pickT rfl rfl) ?_
  refine WL.asg rfl rfl ?_
  refine WL.nilS ?_
  refine CW.ret ?_
  refine RQ.r1 rfl ?_
  refine ⟨?_, hB⟩
  simp only [isWordB, wordB]; first | (simp_all; done) | (simp_all; omega) | (simp_all; intros; omega)
theorem c_slices_Clone_int64_int64 {w : World} {va : Value} {xs : List Int} (ha : Rd EI w va xs) (hN : xs.length ≤ 1048576) : Calls Try.prog 141 #[va] w (Ret1 (fun v w' => Ext w w' ∧ ∃ v1 og_v1, v = v1 ∧ Osl VI w' og_v1 v1 (xs) ∧ Lo w og_v1)) := by
  have hB : Ext w w := Ext.refl w
  have hla := ha.leI
  refine callsOf (vs := [_]) Try.func141 rfl Try.ntmps141 rfl rfl ?_
  refine CW.seq ?_
  refine CW.reg ?_
  refine WL.asg rfl rfl ?_
  refine WL.nilS ?_
  refine CW.seq ?_
  refine CW.seq ?_
  refine CW.reg ?_
  refine WL.mv rfl rfl ?_
  refine WL.pure rfl rfl rfl ((by first | exact PV.eqlNil T.sl28 rfl (by assumption) rfl | exact PV.eqlNil T.sl28 rfl (Osl.rd (by assumption)) rfl)) ?_
  refine WL.nilS ?_
  refine CW.cond rfl (fun hc1 => ?_) (fun hc1 => ?_)
  · skip
    try simp only [nq] at hc1
    refine CW.seq ?_
    refine CW.reg ?_
    refine WL.asg rfl rfl ?_
    refine WL.nilS ?_
    refine CW.ret ?_
    refine RQ.then ?_
    refine RQ.r1 rfl ?_
    refine ⟨hB, (.slice none 0 0), none, ?_, osE (Osl.nil _ _) ?_, Lo.nl _⟩
    · skip
      rfl
    · skip
      first | rfl | (simp; done) | exact ((Rd.nil_of ha (by assumption)).1).symm
  try simp only [nq] at hc1
  refine CW.skipS ?_
  refine CW.seq ?_
  refine CW.reg ?_
  refine WL.op rfl (OpK.buildS VI (os := []) [] rfl T.sl28 rfl rfl T.zv2 rfl (by intro z hz; cases hz) rfl (fun v1 g1 w1 hXw1 ho1 hge1 => ?_))
  have hl1 := Lo.new hB hge1
  have hB := hB.trans hXw1
  refine WL.mv rfl rfl ?_
  refine WL.op rfl (OpK.appendS (f := VI) rfl T.sl28 T.zv2 rfl rfl ho1 rfl (Rd.src (by first | assumption | exact Rd.up (by assumption) hB | exact Inn.rd (by assumption) (by omega)) (fun _ => rfl)) (by first | (simp only [List.length_cons, List.length_nil]; omega) | (simp_all; omega)) (fun v2 og2 w2 hXw2 ho2 hap2 => ?_))
  have hl2 := Lo.app hl1 hB hap2
  have hB := hB.updL hXw2 hl1
  refine WL.asg rfl rfl ?_
  refine WL.nilS ?_
  refine CW.ret ?_
  refine RQ.r1 rfl ?_
  refine ⟨hB, v2, og2, ?_, osE ho2 ?_, hl2⟩
  · skip
    rfl
  · skip
    first | rfl | (simp; done) | exact ((Rd.nil_of ha (by assumption)).1).symm
theorem c_impl_wordsOf {w : World} {L n : Int} (hL : 1 ≤ L ∧ L ≤ 4) (hn : 0 ≤ n ∧ n ≤ 5) : Calls Try.prog 126 #[.int .i64 L, .int .i64 n] w (Ret1 (fun v w' => Ext w w' ∧ ∃ u og_u vs_u os_u, v = u ∧ Osl VV w' og_u u vs_u ∧ Lo w og_u ∧ Inn w' os_u vs_u (wordsL L n.toNat) ∧ LoI w os_u ∧ DI os_u og_u)) := by
  have hB : Ext w w := Ext.refl w
  refine callsOf (vs := [_, _]) Try.func126 rfl Try.ntmps126 rfl rfl ?_
  refine CW.seq ?_
  refine CW.reg ?_
  refine WL.asg rfl rfl ?_
  refine WL.nilS ?_
  refine CW.seq ?_
  refine CW.reg ?_
  refine WL.op rfl (OpK.buildS VI (os := []) [] rfl T.sl28 rfl rfl T.zv2 rfl (by intro z hz; cases hz) rfl (fun v1 g1 w1 hXw1 ho1 hge1 => ?_))
  have hl1 := Lo.new hB hge1
  have hB := hB.trans hXw1
  refine WL.op rfl (OpK.buildS VV (os := [.tmp 10]) [_] rfl T.sl25 rfl rfl T.zv28 rfl (by intro z hz; first | rfl | (simp only [List.mem_cons, List.not_mem_nil, or_false] at hz; subst hz; exact (by first | exact Rd.cells1 (by assumption) | exact Osl.cells1 (by assumption) | exact Osn.cells1 (by assumption) | exact Rd.cells1 (NL.rd (by assumption)) | exact Inn.cell1 (by assumption) (by omega) | assumption | rfl))) rfl (fun v2 g2 w2 hXw2 ho2 hge2 => ?_))
  have hl2 := Lo.new hB hge2
  have hd1_2 := Dj.new ho1.ltO hge2
  have hB := hB.trans hXw2
  have ho1 := ho1.up hXw2
  refine WL.asg rfl rfl ?_
  refine WL.nilS ?_
  refine CW.seq ?_
  refine CW.seq ?_
  refine CW.reg ?_
  refine WL.mv rfl rfl ?_
  refine WL.mv rfl rfl ?_
  refine WL.nilS ?_
  refine CW.block ?_
  have hn3 := Inn.one ho1
  have hl3 := LoI.one hl1
  have hd2_3 := DI.one hd1_2
  have hlt2 := ho2.ltO
  have hlt3 := hn3.ltO
  refine CW.loop (σk := [(0, _), (12, _)]) (fun ρ wz m => ∃ (v4 : Value) (og4 : Option Nat) (vs4 : List Value) (os4 : List (Option Nat)) (i : Nat), ρ = [(5, v4), (13, .int .i64 (i : Nat))] ∧ m = n.toNat - i ∧ UpdL [(some g2)] w2 wz ∧ Osl VV wz og4 v4 (vs4) ∧ OgR w2 (some g2) og4 ∧ Inn wz os4 vs4 (wordsL L i) ∧ BlR w2 [(some g1)] os4 ∧ DI os4 og4 ∧ ((i : Int) ≤ n)) (ρ₀ := [(5, _), (13, _)]) (m₀ := _) ⟨rfl, rfl, rfl, rfl, trivial⟩ ⟨v2, (some g2), _, [(some g1)], 0, rfl, rfl, (UpdL.refl _ _), ho2, OgR.refl _ _, innE hn3 (by rfl), BlR.refl _ _, hd2_3, (by first | omega | rfl | (simp; done) | assumption | (simp_all; done))⟩ ?_
  rintro _ wl1 _ ⟨v4, og4, vs4, os4, i, rfl, rfl, hU0, ho4, ha4, hn5, hy5, hd4_5, hi⟩
  have hl4 := Lo.ogr hl2 hB ha4
  have hg0_4 := ha4
  have hk0_4 : OkB [(some g2)] w2 og4 := OkB.ogr (OkB.mem (by simp)) (Nat.le_refl _) ha4
  have hBpre0 := hB
  have hB := hB.loop hU0 ⟨hl2, trivial⟩
  have hlv5 := hn5.lv
  have hz0_5 := hy5
  have hl5 := LoI.blr hl3 hBpre0 hy5
  have h256 := fun h : (i : Int) < n => wordsL_256 (L := L) (n := i) (by omega) (by omega); have hwg := fun (q : Nat) (h : q < (wordsL L i).length) => wordsL_get (L := L) (n := i) h
  refine CW.seq ?_
  refine CW.reg ?_
  refine WL.pure rfl rfl rfl (PV.lss rfl rfl) ?_
  refine WL.nilS ?_
  refine CW.seq ?_
  refine CW.cond rfl (fun hc1 => ?_) (fun hc1 => ?_)
  · skip
    try simp only [nq] at hc1
    have h256 := h256 (by omega)
    refine CW.skipS ?_
    refine CW.seq ?_
    refine CW.block ?_
    refine CW.seq ?_
    refine CW.reg ?_
    refine WL.op rfl (OpK.buildS VV (os := []) [] rfl T.sl25 rfl rfl T.zv28 rfl (by intro z hz; cases hz) rfl (fun v6 g6 w3 hXw3 ho6 hge6 => ?_))
    have hl6 := Lo.new hB hge6
    have hd5_6 := DI.new hn5 hge6
    have hd4_6 := Dj.new ho4.ltO hge6
    have hk0_6 := OkN.new hU0 hge6
    have hg0_6 := OgR.new hU0.size hge6
    have hB := hB.trans hXw3
    have hn5 := hn5.up hXw3
    have ho4 := ho4.up hXw3
    have hU0 := hU0.ext hXw3
    refine WL.asg rfl rfl ?_
    refine WL.nilS ?_
    refine CW.seq ?_
    refine CW.seq ?_
    refine CW.reg ?_
    refine WL.mv rfl rfl ?_
    refine WL.pure rfl rfl rfl ((PV.lenOs rfl ho4 T.sl25)) ?_
    refine WL.mv rfl rfl ?_
    refine WL.nilS ?_
    refine CW.block ?_
    have hn7 := Inn.zero w3
    have hl7 := LoI.nl w
    have hz0_7 := BlR.nil hU0
    have hd4_7 : DI [] og4 := DI.zero _
    have hd6_7 : DI [] (some g6) := DI.zero _
    have hdd5_7 : DD os4 [] := DD.zeroR _
    have hlt5 := hn5.ltO
    have hlt4 := ho4.ltO
    have hlt6 := ho6.ltO
    have hlt7 := hn7.ltO
    refine CW.loop (σk := [(0, _), (12, _), (13, _), (16, _), (17, _)]) (fun ρ wz m => ∃ (v8 : Value) (og8 : Option Nat) (vs8 : List Value) (os8 : List (Option Nat)) (k : Nat), ρ = [(6, v8), (18, .int .i64 (k : Nat))] ∧ m = (wordsL L i).length - k ∧ UpdL [(some g6)] w3 wz ∧ Osl VV wz og8 v8 (vs8) ∧ OgR w3 (some g6) og8 ∧ Inn wz os8 vs8 (gP L (wordsL L i) k 0) ∧ BlR w3 [] os8 ∧ DI os8 og8 ∧ (k ≤ (wordsL L i).length)) (ρ₀ := [(6, _), (18, _)]) (m₀ := _) ⟨rfl, rfl, rfl, rfl, rfl, rfl, rfl, trivial⟩ ⟨v6, (some g6), _, [], 0, rfl, rfl, (UpdL.refl _ _), ho6, OgR.refl _ _, innE hn7 (by exact gP_zero _ _), BlR.refl _ _, hd6_7, (by first | omega | rfl | (simp; done) | assumption | (simp_all; done))⟩ ?_
    rintro _ wl2 _ ⟨v8, og8, vs8, os8, k, rfl, rfl, hU1, ho8, ha8, hn9, hy9, hd8_9, hk⟩
    have hU0 := hU0.trans hU1 ⟨hk0_6, trivial⟩
    have hn5 := hn5.loop hU1 ⟨hd5_6, trivial⟩
    have ho4 := ho4.loop hU1 ⟨hd4_6, trivial⟩
    have hl8 := Lo.ogr hl6 hB ha8
    have hg1_8 := ha8
    have hk1_8 : OkB [(some g6)] w3 og8 := OkB.ogr (OkB.mem (by simp)) (Nat.le_refl _) ha8
    have hk0_8 := OkB.ogr hk0_6 (by first | assumption | exact UpdL.size (by assumption)) ha8
    have hg0_8 := OgR.trans hg0_6 (by first | assumption | exact UpdL.size (by assumption)) ha8
    have hd5_8 := DI.ogr hd5_6 hlt5 ha8
    have hd4_8 := Dj.ogr hd4_6 hlt4 ha8
    have hBpre1 := hB
    have hB := hB.loop hU1 ⟨hl6, trivial⟩
    have hlv9 := hn9.lv
    have hd4_9 := DI.blr hd4_7 hlt4 hy9
    have hz1_9 := hy9
    have hz0_9 := BlR.trans hz0_7 (by first | assumption | exact UpdL.size (by assumption)) hy9
    have hl9 := LoI.blr hl7 hBpre1 hy9
    have hgl := gP_len (L := L) (xss := (wordsL L i)) (k := k) (l := 0) hk (by omega) (by omega)
    refine CW.seq ?_
    refine CW.reg ?_
    refine WL.pure rfl rfl rfl (PV.lss rfl rfl) ?_
    refine WL.nilS ?_
    refine CW.seq ?_
    refine CW.cond rfl (fun hc2 => ?_) (fun hc2 => ?_)
    · skip
      try simp only [nq] at hc2
      refine CW.skipS ?_
      refine CW.seq ?_
      refine CW.block ?_
      refine CW.seq ?_
      refine CW.reg ?_
      first
        | refine WL.atO (x := .tmp 16) (y := .tmp 18) (f := VV) (.slice none 0 0) rfl rfl ho4 (by first | omega | (simp only [List.length_set]; omega) | (simp only [List.length_append, List.length_take, List.length_replicate, List.length_drop]; omega)) (fun p1 hpp1 hcp1 => ?_)
        | refine WL.atOZ (x := .tmp 16) (y := .tmp 18) (f := VV) (.slice none 0 0) rfl rfl ho4 (by first | omega | (simp only [List.length_set]; omega) | (simp only [List.length_append, List.length_take, List.length_replicate, List.length_drop]; omega)) (fun p1 hpp1 hzp1 hcp1 => ?_)
      refine WL.pure rfl rfl rfl ((by first | exact PV.indexAddr hpp1 rfl rfl T.sl25 | exact PV.indexAddr hpp1 rfl (by rw [← hzp1]; rfl) T.sl25)) ?_
      refine WL.pure rfl rfl rfl ((by first | exact PV.load0 T.na28 rfl (by first | exact Cells.up (by assumption) hB | exact Bx.cells (by assumption) | assumption) (Ext.refl _) rfl | exact PV.load1 T.na28 rfl (by first | exact Cells.up (by assumption) hB | exact Bx.cells (by assumption) | assumption) (Ext.refl _) rfl)) ?_
      refine WL.asg rfl rfl ?_
      refine WL.nilS ?_
      refine CW.seq ?_
      refine CW.reg ?_
      refine WL.mv rfl rfl ?_
      refine WL.mv rfl rfl ?_
      refine WL.nilS ?_
      refine CW.block ?_
      have hlt5 := hn5.ltO
      have hlt4 := ho4.ltO
      have hlt9 := hn9.ltO
      have hlt8 := ho8.ltO
      refine CW.loop (σk := [(0, _), (8, _), (12, _), (13, _), (16, _), (17, _), (18, _), (22, _)]) (fun ρ wz m => ∃ (v10 : Value) (og10 : Option Nat) (vs10 : List Value) (os10 : List (Option Nat)) (l : Nat), ρ = [(6, v10), (23, .int .i64 (l : Nat))] ∧ m = L.toNat - l ∧ UpdL [og8] wl2 wz ∧ Osl VV wz og10 v10 (vs10) ∧ OgR wl2 og8 og10 ∧ Inn wz os10 vs10 (gP L (wordsL L i) k l) ∧ BlR wl2 os8 os10 ∧ DI os10 og10 ∧ ((l : Int) ≤ L)) (ρ₀ := [(6, _), (23, _)]) (m₀ := _) ⟨rfl, rfl, rfl, rfl, rfl, rfl, rfl, rfl, rfl, rfl, trivial⟩ ⟨v8, og8, _, os8, 0, rfl, rfl, (UpdL.refl _ _), ho8, OgR.refl _ _, innE hn9 (by rfl), BlR.refl _ _, hd8_9, (by first | omega | rfl | (simp; done) | assumption | (simp_all; done))⟩ ?_
      rintro _ wl3 _ ⟨v10, og10, vs10, os10, l, rfl, rfl, hU2, ho10, ha10, hn11, hy11, hd10_11, hl⟩
      have hU0 := hU0.trans hU2 ⟨hk0_8, trivial⟩
      have hU1 := hU1.trans hU2 ⟨hk1_8, trivial⟩
      have hn5 := hn5.loop hU2 ⟨hd5_8, trivial⟩
      have ho4 := ho4.loop hU2 ⟨hd4_8, trivial⟩
      have hl10 := Lo.ogr hl8 hB ha10
      have hg2_10 := ha10
      have hk2_10 : OkB [og8] wl2 og10 := OkB.ogr (OkB.mem (by simp)) (Nat.le_refl _) ha10
      have hk0_10 := OkB.ogr hk0_8 (by first | assumption | exact UpdL.size (by assumption)) ha10
      have hg0_10 := OgR.trans hg0_8 (by first | assumption | exact UpdL.size (by assumption)) ha10
      have hk1_10 := OkB.ogr hk1_8 (by first | assumption | exact UpdL.size (by assumption)) ha10
      have hg1_10 := OgR.trans hg1_8 (by first | assumption | exact UpdL.size (by assumption)) ha10
      have hd5_10 := DI.ogr hd5_8 hlt5 ha10
      have hd4_10 := Dj.ogr hd4_8 hlt4 ha10
      have hBpre2 := hB
      have hB := hB.loop hU2 ⟨hl8, trivial⟩
      have hlv11 := hn11.lv
      have hd4_11 := DI.blr hd4_9 hlt4 hy11
      have hz2_11 := hy11
      have hz0_11 := BlR.trans hz0_9 (by first | assumption | exact UpdL.size (by assumption)) hy11
      have hz1_11 := BlR.trans hz1_9 (by first | assumption | exact UpdL.size (by assumption)) hy11
      have hl11 := LoI.blr hl9 hBpre2 hy11
      have hgl := gP_len (L := L) (xss := (wordsL L i)) (k := k) (l := l) (by omega) (by omega) (by omega)
      refine CW.seq ?_
      refine CW.reg ?_
      refine WL.pure rfl rfl rfl (PV.lss rfl rfl) ?_
      refine WL.nilS ?_
      refine CW.seq ?_
      refine CW.cond rfl (fun hc3 => ?_) (fun hc3 => ?_)
      · skip
        try simp only [nq] at hc3
        refine CW.skipS ?_
        refine CW.seq ?_
        refine CW.block ?_
        refine CW.seq ?_
        refine CW.reg ?_
        refine WL.mv rfl rfl ?_
        refine WL.asg rfl rfl ?_
        refine WL.nilS ?_
        refine CW.reg ?_
        have hw5 := hwg k (by omega)
        refine WL.mv rfl rfl ?_
        refine WL.mv rfl rfl ?_
        refine WL.op rfl (OpK.call rfl T.cf141 rfl (c_slices_Clone_int64_int64 (by first | assumption | exact Rd.up (by assumption) hB | exact Osl.rd (by assumption) | exact Osn.rdR (by assumption) | exact NL.rd (by assumption) | exact rdII (by assumption) (by assumption) | exact Inn.rd (by assumption) (by omega)) (by first | assumption | omega | (simp only [marks_len, marksB_len, marksR_len, sumL_marksS]; omega))) (fun rv1 w4 hR => ?_))
        obtain ⟨hXw4, v12, og12, rfl, ho12, hq12⟩ := hR
        have hl12 := Lo.up hq12 hB
        have hd5_12 := DI.fresh hn5 hq12
        have hd4_12 := Dj.lo ho4.ltO hq12
        have hd11_12 := DI.fresh hn11 hq12
        have hd10_12 := Dj.lo ho10.ltO hq12
        have hk0_12 := OkN.lo hU0 hq12
        have hg0_12 := OgR.lo hU0.size hq12
        have hk1_12 := OkN.lo hU1 hq12
        have hg1_12 := OgR.lo hU1.size hq12
        have hk2_12 := OkN.lo hU2 hq12
        have hg2_12 := OgR.lo hU2.size hq12
        have hB := hB.trans hXw4
        have hn5 := hn5.up hXw4
        have ho4 := ho4.up hXw4
        have hn11 := hn11.up hXw4
        have ho10 := ho10.up hXw4
        have hU0 := hU0.ext hXw4
        have hU1 := hU1.ext hXw4
        have hU2 := hU2.ext hXw4
        refine WL.mv rfl rfl ?_
        refine WL.op rfl (OpK.buildS VI (os := [.tmp 29]) [_] rfl T.sl28 rfl rfl T.zv2 rfl (by intro z hz; first | rfl | (simp only [List.mem_cons, List.not_mem_nil, or_false] at hz; subst hz; exact (by first | exact Rd.cells1 (by assumption) | exact Osl.cells1 (by assumption) | exact Osn.cells1 (by assumption) | exact Rd.cells1 (NL.rd (by assumption)) | exact Inn.cell1 (by assumption) (by omega) | assumption | rfl))) rfl (fun v13 g13 w5 hXw5 ho13 hge13 => ?_))
        have hl13 := Lo.new hB hge13
        have hd5_13 := DI.new hn5 hge13
        have hd4_13 := Dj.new ho4.ltO hge13
        have hd11_13 := DI.new hn11 hge13
        have hd10_13 := Dj.new ho10.ltO hge13
        have hd12_13 := Dj.new ho12.ltO hge13
        have hk0_13 := OkN.new hU0 hge13
        have hg0_13 := OgR.new hU0.size hge13
        have hk1_13 := OkN.new hU1 hge13
        have hg1_13 := OgR.new hU1.size hge13
        have hk2_13 := OkN.new hU2 hge13
        have hg2_13 := OgR.new hU2.size hge13
        have hB := hB.trans hXw5
        have hn5 := hn5.up hXw5
        have ho4 := ho4.up hXw5
        have hn11 := hn11.up hXw5
        have ho10 := ho10.up hXw5
        have ho12 := ho12.up hXw5
        have hU0 := hU0.ext hXw5
        have hU1 := hU1.ext hXw5
        have hU2 := hU2.ext hXw5
        refine WL.op rfl (OpK.appendS (f := VI) rfl T.sl28 T.zv2 rfl rfl ho12 rfl (Osl.src ho13 (fun _ => rfl)) (by first | (simp only [List.length_cons, List.length_nil]; omega) | (simp only [List.length_append, List.length_cons, List.length_nil]; omega)) (fun v14 og14 w6 hXw6 ho14 hap14 => ?_))
        have hl14 := Lo.app hl12 hB hap14
        have hd5_14 := DI.app hd5_12 hn5 hap14
        have hd4_14 := Dj.app hd4_12 ho4.ltO hap14
        have hd11_14 := DI.app hd11_12 hn11 hap14
        have hd10_14 := Dj.app hd10_12 ho10.ltO hap14
        have hd13_14 := Dj.app (Dj.symm hd12_13) ho13.ltO hap14
        have hk0_14 := OkN.app hU0 hk0_12 hap14
        have hg0_14 := OgR.app hg0_12 hU0.size hap14
        have hk1_14 := OkN.app hU1 hk1_12 hap14
        have hg1_14 := OgR.app hg1_12 hU1.size hap14
        have hk2_14 := OkN.app hU2 hk2_12 hap14
        have hg2_14 := OgR.app hg2_12 hU2.size hap14
        have hB := hB.updL hXw6 hl12
        have hn5 := hn5.updD hXw6 hd5_12
        have ho4 := ho4.updD hXw6 hd4_12
        have hn11 := hn11.updD hXw6 hd11_12
        have ho10 := ho10.updD hXw6 hd10_12
        have ho13 := ho13.updD hXw6 (Dj.symm hd12_13)
        have hU0 := hU0.step hXw6 hk0_12
        have hU1 := hU1.step hXw6 hk1_12
        have hU2 := hU2.step hXw6 hk2_12
        refine WL.op rfl (OpK.buildS VV (os := [.tmp 31]) [_] rfl T.sl25 rfl rfl T.zv28 rfl (by intro z hz; first | rfl | (simp only [List.mem_cons, List.not_mem_nil, or_false] at hz; subst hz; exact (by first | exact Rd.cells1 (by assumption) | exact Osl.cells1 (by assumption) | exact Osn.cells1 (by assumption) | exact Rd.cells1 (NL.rd (by assumption)) | exact Inn.cell1 (by assumption) (by omega) | assumption | rfl))) rfl (fun v15 g15 w7 hXw7 ho15 hge15 => ?_))
        have hl15 := Lo.new hB hge15
        have hd5_15 := DI.new hn5 hge15
        have hd4_15 := Dj.new ho4.ltO hge15
        have hd11_15 := DI.new hn11 hge15
        have hd10_15 := Dj.new ho10.ltO hge15
        have hd13_15 := Dj.new ho13.ltO hge15
        have hd14_15 := Dj.new ho14.ltO hge15
        have hk0_15 := OkN.new hU0 hge15
        have hg0_15 := OgR.new hU0.size hge15
        have hk1_15 := OkN.new hU1 hge15
        have hg1_15 := OgR.new hU1.size hge15
        have hk2_15 := OkN.new hU2 hge15
        have hg2_15 := OgR.new hU2.size hge15
        have hB := hB.trans hXw7
        have hn5 := hn5.up hXw7
        have ho4 := ho4.up hXw7
        have hn11 := hn11.up hXw7
        have ho10 := ho10.up hXw7
        have ho13 := ho13.up hXw7
        have ho14 := ho14.up hXw7
        have hU0 := hU0.ext hXw7
        have hU1 := hU1.ext hXw7
        have hU2 := hU2.ext hXw7
        refine WL.op rfl (OpK.appendS (f := VV) rfl T.sl25 T.zv28 rfl rfl ho10 rfl (Osl.srcM ho15 (one_mem (Osl.oneCell ho14))) (by first | (simp only [List.length_cons, List.length_nil]; omega) | (simp only [List.length_append, List.length_cons, List.length_nil]; omega)) (fun v16 og16 w8 hXw8 ho16 hap16 => ?_))
        have hn17 := Inn.put hn11 ho14 hd11_14
        have hl17 := LoI.put hl11 hl14
        have hz0_17 := BlR.put hz0_11 hg0_14
        have hz1_17 := BlR.put hz1_11 hg1_14
        have hz2_17 := BlR.put hz2_11 hg2_14
        have hd4_17 := DI.put hd4_11 (Dj.symm hd4_14)
        have hd10_17 := DI.put hd10_11 (Dj.symm hd10_14)
        have hd13_17 := DI.put hd11_13 (Dj.symm hd13_14)
        have hd15_17 := DI.put hd11_15 hd14_15
        have hnp17 := hn17
        have hl16 := Lo.app hl10 hB hap16
        have hd5_16 := DI.app hd5_10 hn5 hap16
        have hd4_16 := Dj.app hd4_10 ho4.ltO hap16
        have hd13_16 := Dj.app (Dj.symm hd10_13) ho13.ltO hap16
        have hd15_16 := Dj.app (Dj.symm hd10_15) ho15.ltO hap16
        have hd16_17 := DI.app hd10_17 hn17 hap16
        have hk0_16 := OkN.app hU0 hk0_10 hap16
        have hg0_16 := OgR.app hg0_10 hU0.size hap16
        have hk1_16 := OkN.app hU1 hk1_10 hap16
        have hg1_16 := OgR.app hg1_10 hU1.size hap16
        have hk2_16 := OkN.app hU2 hk2_10 hap16
        have hg2_16 := OgR.app hg2_10 hU2.size hap16
        have hB := hB.updL hXw8 hl10
        have hn5 := hn5.updD hXw8 hd5_10
        have ho4 := ho4.updD hXw8 hd4_10
        have ho13 := ho13.updD hXw8 (Dj.symm hd10_13)
        have ho15 := ho15.updD hXw8 (Dj.symm hd10_15)
        have hn17 := hn17.updD hXw8 hd10_17
        have hU0 := hU0.step hXw8 hk0_10
        have hU1 := hU1.step hXw8 hk1_10
        have hU2 := hU2.step hXw8 hk2_10
        refine WL.asg rfl rfl ?_
        refine WL.nil ?_
        refine NQ.block ?_
        refine NQ.then ?_
        refine CW.reg ?_
        refine WL.pure rfl rfl rfl (PV.add rfl rfl (by constructor <;> omega)) ?_
        refine WL.mv rfl rfl ?_
        refine WL.nil ?_
        refine NQ.next (ρ := [(6, _), (23, _)]) ⟨rfl, rfl, rfl, rfl, rfl, rfl, rfl, rfl, rfl, rfl, trivial⟩ ?_
        exact ⟨_, ⟨v16, og16, _, (os10 ++ [og14]), l + 1, rfl, rfl, hU2, ho16, (by first | exact hg2_16 | exact OgR.weak hg2_16), innE hn17 (by exact gP_put), (by first | exact hz2_17 | exact BlR.weak hz2_17), hd16_17, (by first | omega | assumption | (simp_all; done) | (simp_all; omega))⟩, by omega⟩
      try simp only [nq] at hc3
      refine CW.exit ?_
      refine XQ.then ?_
      refine XQ.then ?_
      refine XQ.here ?_
      refine NQ.block ?_
      refine NQ.then ?_
      refine CW.reg ?_
      refine WL.pure rfl rfl rfl (PV.add rfl rfl (by constructor <;> omega)) ?_
      refine WL.mv rfl rfl ?_
      refine WL.nil ?_
      refine NQ.next (ρ := [(6, _), (18, _)]) ⟨rfl, rfl, rfl, rfl, rfl, rfl, rfl, trivial⟩ ?_
      exact ⟨_, ⟨v10, og10, _, os10, k + 1, rfl, rfl, hU1, ho10, (by first | exact hg1_10 | exact OgR.weak hg1_10), innE hn11 (by rw [show l = L.toNat from (by omega)]; exact gP_next (by omega)), (by first | exact hz1_11 | exact BlR.weak hz1_11), hd10_11, (by first | omega | assumption | (simp_all; done) | (simp_all; omega))⟩, by omega⟩
    try simp only [nq] at hc2
    refine CW.exit ?_
    refine XQ.then ?_
    refine XQ.then ?_
    refine XQ.here ?_
    refine NQ.then ?_
    refine CW.reg ?_
    refine WL.mv rfl rfl ?_
    refine WL.asg rfl rfl ?_
    refine WL.nil ?_
    refine NQ.block ?_
    refine NQ.then ?_
    refine CW.reg ?_
    refine WL.pure rfl rfl rfl (PV.add rfl rfl (by constructor <;> omega)) ?_
    refine WL.mv rfl rfl ?_
    refine WL.nil ?_
    refine NQ.next (ρ := [(5, _), (13, _)]) ⟨rfl, rfl, rfl, rfl, trivial⟩ ?_
    exact ⟨_, ⟨v8, og8, _, os8, i + 1, rfl, rfl, hU0, ho8, (by first | exact hg0_8 | exact OgR.weak hg0_8), innE hn9 (by rw [show k = (wordsL L i).length from (by omega)]; exact gP_done (Nat.le_refl _)), (by first | exact hz0_9 | exact BlR.weak hz0_9), hd8_9, (by first | omega | assumption | (simp_all; done) | (simp_all; omega))⟩, by omega⟩
  try simp only [nq] at hc1
  refine CW.exit ?_
  refine XQ.then ?_
  refine XQ.then ?_
  refine XQ.here ?_
  refine NQ.then ?_
  refine CW.seq ?_
  refine CW.reg ?_
  refine WL.mv rfl rfl ?_
  refine WL.asg rfl rfl ?_
  refine WL.nilS ?_
  refine CW.ret ?_
  refine RQ.r1 rfl ?_
  refine ⟨hB, v4, og4, _ , os4, ?_, ho4, hl4, innE hn5 ?_, hl5, hd4_5⟩
  · skip
    rfl
  · skip
    rw [show i = n.toNat from (by omega)]
theorem c_impl_wordsUpTo {w : World} {L n : Int} (hL : 1 ≤ L ∧ L ≤ 4) (hn : 0 ≤ n ∧ n ≤ 5) : Calls Try.prog 156 #[.int .i64 L, .int .i64 n] w (Ret1 (fun v w' => Ext w w' ∧ ∃ u og_u vs_u os_u, v = u ∧ Osl VV w' og_u u vs_u ∧ Lo w og_u ∧ Inn w' os_u vs_u (wordsP L (n.toNat + 1)) ∧ LoI w os_u ∧ DI os_u og_u)) := by
  have hB : Ext w w := Ext.refl w
  refine callsOf (vs := [_, _]) Try.func156 rfl Try.ntmps156 rfl rfl ?_
  refine CW.seq ?_
  refine CW.reg ?_
  refine WL.asg rfl rfl ?_
  refine WL.nilS ?_
  refine CW.seq ?_
  refine CW.reg ?_
  refine WL.op rfl (OpK.buildS VV (os := []) [] rfl T.sl25 rfl rfl T.zv28 rfl (by intro z hz; cases hz) rfl (fun v1 g1 w1 hXw1 ho1 hge1 => ?_))
  have hl1 := Lo.new hB hge1
  have hB := hB.trans hXw1
  refine WL.asg rfl rfl ?_
  refine WL.nilS ?_
  refine CW.seq ?_
  refine CW.seq ?_
  refine CW.reg ?_
  refine WL.mv rfl rfl ?_
  refine WL.pure rfl rfl rfl (PV.add rfl rfl (by constructor <;> omega)) ?_
  refine WL.mv rfl rfl ?_
  refine WL.nilS ?_
  refine CW.block ?_
  have hn2 := Inn.zero w1
  have hl2 := LoI.nl w
  have hd1_2 : DI [] (some g1) := DI.zero _
  have hlt1 := ho1.ltO
  have hlt2 := hn2.ltO
  refine CW.loop (σk := [(0, _), (9, _)]) (fun ρ wz m => ∃ (v3 : Value) (og3 : Option Nat) (vs3 : List Value) (os3 : List (Option Nat)) (i : Nat), ρ = [(5, v3), (10, .int .i64 (i : Nat))] ∧ m = (n + 1).toNat - i ∧ UpdL [(some g1)] w1 wz ∧ Osl VV wz og3 v3 (vs3) ∧ OgR w1 (some g1) og3 ∧ Inn wz os3 vs3 (wordsP L i) ∧ BlR w1 [] os3 ∧ DI os3 og3 ∧ ((i : Int) ≤ n + 1)) (ρ₀ := [(5, _), (10, _)]) (m₀ := _) ⟨rfl, rfl, rfl, rfl, trivial⟩ ⟨v1, (some g1), _, [], 0, rfl, rfl, (UpdL.refl _ _), ho1, OgR.refl _ _, innE hn2 (by exact wordsP_zero _), BlR.refl _ _, hd1_2, (by first | omega | rfl | (simp; done) | assumption | (simp_all; done))⟩ ?_
  rintro _ wl1 _ ⟨v3, og3, vs3, os3, i, rfl, rfl, hU0, ho3, ha3, hn4, hy4, hd3_4, hi⟩
  have hl3 := Lo.ogr hl1 hB ha3
  have hg0_3 := ha3
  have hk0_3 : OkB [(some g1)] w1 og3 := OkB.ogr (OkB.mem (by simp)) (Nat.le_refl _) ha3
  have hBpre0 := hB
  have hB := hB.loop hU0 ⟨hl1, trivial⟩
  have hlv4 := hn4.lv
  have hz0_4 := hy4
  have hl4 := LoI.blr hl2 hBpre0 hy4
  have hpl := wordsP_len (L := L) (by omega) i (by omega)
  refine CW.seq ?_
  refine CW.reg ?_
  refine WL.pure rfl rfl rfl (PV.lss rfl rfl) ?_
  refine WL.nilS ?_
  refine CW.seq ?_
  refine CW.cond rfl (fun hc1 => ?_) (fun hc1 => ?_)
  · skip
    try simp only [nq] at hc1
    refine CW.skipS ?_
    refine CW.seq ?_
    refine CW.block ?_
    refine CW.seq ?_
    refine CW.reg ?_
    refine WL.mv rfl rfl ?_
    refine WL.asg rfl rfl ?_
    refine WL.nilS ?_
    refine CW.reg ?_
    refine WL.mv rfl rfl ?_
    refine WL.mv rfl rfl ?_
    refine WL.mv rfl rfl ?_
    refine WL.op rfl (OpK.call rfl T.cf126 rfl (c_impl_wordsOf (by first | assumption | omega | (simp only [marks_len, marksB_len, marksR_len, sumL_marksS]; omega)) (by first | assumption | omega | (simp only [marks_len, marksB_len, marksR_len, sumL_marksS]; omega))) (fun rv1 w2 hR => ?_))
    obtain ⟨hXw2, v5, og5, vs6, os6, rfl, ho5, hq5, hn6, hq6, hd5_6⟩ := hR
    have hl5 := Lo.up hq5 hB
    have hd4_5 := DI.fresh hn4 hq5
    have hd3_5 := Dj.lo ho3.ltO hq5
    have hk0_5 := OkN.lo hU0 hq5
    have hg0_5 := OgR.lo hU0.size hq5
    have hl6 := LoI.up hq6 hB
    have hlv6 := hn6.lv
    have hdd4_6 := DD.symm (DD.lo hn4 hq6)
    have hd3_6 := DI.lo ho3.ltO hq6
    have hz0_6 := BlR.lo hU0.size hq6
    have hB := hB.trans hXw2
    have hn4 := hn4.up hXw2
    have ho3 := ho3.up hXw2
    have hU0 := hU0.ext hXw2
    have hwl9 := wordsL_1024 (L := L) (n := ((i : Int)).toNat) (by omega) (by omega)
    refine WL.op rfl (OpK.appendS (f := VV) rfl T.sl25 T.zv28 rfl rfl ho3 rfl (Osl.srcM ho5 (Inn.cells hn6)) (by first | (simp only [List.length_cons, List.length_nil]; omega) | (omega)) (fun v7 og7 w3 hXw3 ho7 hap7 => ?_))
    have hn8 := Inn.app hn4 hn6 (DD.symm hdd4_6)
    have hl8 := LoI.cat hl4 hl6
    have hz0_8 := BlR.cat hz0_4 hz0_6
    have hd3_8 := DI.cat hd3_4 hd3_6
    have hd5_8 := DI.cat hd4_5 hd5_6
    have hnp8 := hn8
    have hl7 := Lo.app hl3 hB hap7
    have hd5_7 := Dj.app (Dj.symm hd3_5) ho5.ltO hap7
    have hd7_8 := DI.app hd3_8 hn8 hap7
    have hk0_7 := OkN.app hU0 hk0_3 hap7
    have hg0_7 := OgR.app hg0_3 hU0.size hap7
    have hB := hB.updL hXw3 hl3
    have ho5 := ho5.updD hXw3 (Dj.symm hd3_5)
    have hn8 := hn8.updD hXw3 hd3_8
    have hU0 := hU0.step hXw3 hk0_3
    refine WL.asg rfl rfl ?_
    refine WL.nil ?_
    refine NQ.block ?_
    refine NQ.then ?_
    refine CW.reg ?_
    refine WL.pure rfl rfl rfl (PV.add rfl rfl (by constructor <;> omega)) ?_
    refine WL.mv rfl rfl ?_
    refine WL.nil ?_
    refine NQ.next (ρ := [(5, _), (10, _)]) ⟨rfl, rfl, rfl, rfl, trivial⟩ ?_
    exact ⟨_, ⟨v7, og7, _, (os3 ++ os6), i + 1, rfl, rfl, hU0, ho7, (by first | exact hg0_7 | exact OgR.weak hg0_7), innE hn8 (by exact wordsP_succ _ _), (by first | exact hz0_8 | exact BlR.weak hz0_8), hd7_8, (by first | omega | assumption | (simp_all; done) | (simp_all; omega))⟩, by omega⟩
  try simp only [nq] at hc1
  refine CW.exit ?_
  refine XQ.then ?_
  refine XQ.then ?_
  refine XQ.here ?_
  refine NQ.then ?_
  refine CW.seq ?_
  refine CW.reg ?_
  refine WL.mv rfl rfl ?_
  refine WL.asg rfl rfl ?_
  refine WL.nilS ?_
  refine CW.ret ?_
  refine RQ.r1 rfl ?_
  refine ⟨hB, v3, og3, _ , os3, ?_, ho3, hl3, innE hn4 ?_, hl4, hd3_4⟩
  · skip
    rfl
  · skip
    rw [show i = n.toNat + 1 from (by omega)]
theorem c_impl_pass {w : World} {va : Value} {xs : List Int} {a l : Int} (ha : Rd EI w va xs) (hab : 0 ≤ a ∧ a ≤ 100) : Calls Try.prog 207 #[va, .int .i64 a, .int .i64 l] w (Ret1 (RQt (.tuple #[.int .i64 (pasI a l), .bool (pasB xs a l)]) w)) := by
  have hB : Ext w w := Ext.refl w
  have hla := ha.leI
  refine callsOf (vs := [_, _, _]) Try.func207 rfl Try.ntmps207 rfl rfl ?_
  refine CW.seq ?_
  refine CW.reg ?_
  refine WL.asg rfl rfl ?_
  refine WL.asg rfl rfl ?_
  refine WL.nilS ?_
  refine CW.seq ?_
  refine CW.seq ?_
  refine CW.reg ?_
  refine WL.mv rfl rfl ?_
  refine WL.pure rfl rfl rfl (PV.lss rfl rfl) ?_
  refine WL.nilS ?_
  refine CW.cond rfl (fun hc1 => ?_) (fun hc1 => ?_)
  · skip
    try simp only [nq] at hc1
    refine CW.seq ?_
    refine CW.reg ?_
    refine WL.mv rfl rfl ?_
    refine WL.asg rfl rfl ?_
    refine WL.asg rfl rfl ?_
    refine WL.nilS ?_
    refine CW.ret ?_
    refine RQ.then ?_
    refine RQ.r2 rfl rfl ?_
    refine ⟨?_, hB⟩
    first | (rw [(pas_neg (xs := xs) (by assumption : l < 0)).1, (pas_neg (xs := xs) (by assumption : l < 0)).2]) | (rw [(pas_pos (xs := xs) (by omega : ¬ l < 0)).1, (pas_pos (xs := xs) (by omega : ¬ l < 0)).2]; first | (rw [decide_eq_false (by omega : ¬ a < xs.length)]; rfl) | (rw [decide_eq_true (by omega : a < xs.length)]; rfl))
  try simp only [nq] at hc1
  refine CW.skipS ?_
  refine CW.seq ?_
  refine CW.draw T.mixed (by kernel_rfl) (fun _ _ _ _ _ h => h) (fun w8 w9 => Upd none w8 w9) 16 (.take 0 (.take 1 (.take 2 (.take 3 (.take 4 (.take 5 (.take 6 (.take 14 (.split (.take 7 (.take 8 (.take 9 (.take 10 (.take 11 (.take 12 (.take 13 (.take 15 .done)))))))) (.take 7 (.take 8 (.take 9 (.take 10 (.take 11 (.take 12 (.take 13 (.take 15 .done))))))))))))))))) (by kernel_rfl) (fun w1 hXd => ?_)
  have hB := hB.trans hXd
  have hBr := hB
  have hS : Upd none w1 w1 := Ext.toUpd (Ext.refl _)
  refine HP.take rfl rfl rfl rfl hS (fun wS hS1 => PV.move rfl) ?_
  refine HP.take rfl rfl rfl rfl hS (fun wS hS1 => PV.add rfl rfl (by constructor <;> omega)) ?_
  refine HP.take rfl rfl rfl rfl hS (fun wS hS1 => PV.move rfl) ?_
  refine HP.take rfl rfl rfl rfl hS (fun wS hS1 => PV.move rfl) ?_
  refine HP.take rfl rfl rfl rfl hS (fun wS hS1 => (by first | exact PV.len rfl (by assumption) T.sl28 | exact PV.lenOs rfl (by assumption) T.sl28 | exact PV.len rfl (NL.rd (by assumption)) T.sl28 | exact PV.len rfl (Inn.rd (by assumption) (by omega)) T.sl28)) ?_
  refine HP.take rfl rfl rfl rfl hS (fun wS hS1 => PV.lss rfl rfl) ?_
  refine HP.take rfl rfl rfl rfl hS (fun wS hS1 => PV.move rfl) ?_
  refine HP.take rfl rfl rfl rfl hS (fun wS hS1 => PV.assign rfl) ?_
  refine HP.split (t := 17) rfl (fun hc2 => ?_) (fun hc2 => ?_)
  rotate_left
  · skip
    try simp only [nq] at hc2
    refine HP.skip rfl rfl rfl rfl rfl rfl hS ?_
    refine HP.skip rfl rfl rfl rfl rfl rfl hS ?_
    refine HP.skip rfl rfl rfl rfl rfl rfl hS ?_
    refine HP.skip rfl rfl rfl rfl rfl rfl hS ?_
    refine HP.skip rfl rfl rfl rfl rfl rfl hS ?_
    refine HP.skip rfl rfl rfl rfl rfl rfl hS ?_
    refine HP.take rfl rfl rfl rfl hS (fun wS hS1 => PV.pickF rfl rfl) ?_
    refine HP.take rfl rfl rfl rfl hS (fun wS hS1 => PV.assign rfl) ?_
    refine HP.doneS ?_
    refine CW.ret ?_
    refine RQ.r2 rfl rfl ?_
    refine ⟨?_, hB⟩
    first | (rw [(pas_neg (xs := xs) (by assumption : l < 0)).1, (pas_neg (xs := xs) (by assumption : l < 0)).2]) | (rw [(pas_pos (xs := xs) (by omega : ¬ l < 0)).1, (pas_pos (xs := xs) (by omega : ¬ l < 0)).2]; first | (rw [decide_eq_false (by omega : ¬ a < xs.length)]; rfl) | (rw [decide_eq_true (by omega : a < xs.length)]; rfl))
  try simp only [nq] at hc2
  refine HP.takeG rfl rfl rfl rfl rfl rfl hS (fun wS hS1 => PV.move rfl) ?_
  refine HP.takeG rfl rfl rfl rfl rfl rfl hS (fun wS hS1 => PV.move rfl) ?_
  first
    | refine HP.at (x := .tmp 18) (y := .tmp 19) (E := EI) (0) rfl rfl (by first | assumption | exact Inn.rd (by assumption) (by omega)) (by first | omega | (simp only [List.length_set]; omega) | (simp only [List.length_append, List.length_take, List.length_replicate, List.length_drop]; omega)) (fun p1 csp1 hpp1 hcp1 hq => ?_)
    | refine HP.atZ (x := .tmp 18) (y := .tmp 19) (E := EI) (0) rfl rfl (by first | assumption | exact Inn.rd (by assumption) (by omega)) (by first | omega | (simp only [List.length_set]; omega) | (simp only [List.length_append, List.length_take, List.length_replicate, List.length_drop]; omega)) (fun p1 csp1 hpp1 hzp1 hcp1 hq => ?_)
  cases hq
  refine HP.takeG rfl rfl rfl rfl rfl rfl hS (fun wS hS1 => (by first | exact PV.indexAddr hpp1 rfl rfl T.sl28 | exact PV.indexAddr hpp1 rfl (by rw [← hzp1]; rfl) T.sl28)) ?_
  refine HP.takeG rfl rfl rfl rfl rfl rfl hS (fun wS hS1 => (by first | exact PV.load0 T.na2 rfl (by first | exact Cells.up (by assumption) (hBr.trans hS1) | exact Bx.cells (Bx.updD (by assumption) hS1 (Dj.nlR _)) | exact Cells.upd (by assumption) hS1 (by simp)) (Ext.refl _) rfl | exact PV.load1 T.na2 rfl (by first | exact Cells.up (by assumption) (hBr.trans hS1) | exact Bx.cells (Bx.updD (by assumption) hS1 (Dj.nlR _)) | exact Cells.upd (by assumption) hS1 (by simp)) (Ext.refl _) rfl)) ?_
  refine HP.takeG rfl rfl rfl rfl rfl rfl hS (fun wS hS1 => PV.move rfl) ?_
  refine HP.takeG rfl rfl rfl rfl rfl rfl hS (fun wS hS1 => PV.eql rfl rfl) ?_
  refine HP.take rfl rfl rfl rfl hS (fun wS hS1 => PV.pickT rfl rfl) ?_
  refine HP.take rfl rfl rfl rfl hS (fun wS hS1 => PV.assign rfl) ?_
  refine HP.doneS ?_
  refine CW.ret ?_
  refine RQ.r2 rfl rfl ?_
  refine ⟨?_, hB⟩
  first | (rw [(pas_neg (xs := xs) (by assumption : l < 0)).1, (pas_neg (xs := xs) (by assumption : l < 0)).2]) | (rw [(pas_pos (xs := xs) (by omega : ¬ l < 0)).1, (pas_pos (xs := xs) (by omega : ¬ l < 0)).2]; first | (rw [decide_eq_false (by omega : ¬ a < xs.length)]; rfl) | (rw [decide_eq_true (by omega : a < xs.length)]; rfl))
theorem c_impl_Sided_readsPair {w : World} {a0 : Int} {a1 : Int} {va2 : Value} {xa2 : List R4} {va3 : Value} {xa3 : List Bool} {vi vo : Value} {ins outs : List Int}  (ha2 : Rd ER w va2 xa2) (ha3 : Rd EB w va3 xa3) (hi : Rd EI w vi ins) (ho : Rd EI w vo outs) (hv : sidedV a0 a1 xa2 xa3) (hi12 : ins.length ≤ 12) (ho12 : outs.length ≤ 12) : Calls Try.prog 157 #[.agg #[.int .i64 a0, .int .i64 a1, va2, va3], vi, vo] w (Ret1 (RQt (.bool (rdB xa2 ins outs xa3)) w)) := by
  have hB : Ext w w := Ext.refl w
  have hla2 := ha2.leI; have hla3 := ha3.leI; have hli := hi.leI; have hlo := ho.leI; have hv8 := hv.1; have hvn := hv.2.2.1; have hve := hv.2.2.2.1; have hva := hv.2.2.2.2
  refine callsOf (vs := [_, _, _]) Try.func157 rfl Try.ntmps157 rfl rfl ?_
  refine CW.seq ?_
  refine CW.reg ?_
  refine WL.op rfl (OpK.box rfl rfl (by first | exact Rd.cells1 (by assumption) | exact Osl.cells1 (by assumption) | exact Osn.cells1 (by assumption) | exact Rd.cells1 (NL.rd (by assumption)) | exact Inn.cell1 (by assumption) (by omega) | assumption | rfl) (fun b1 w1 hXw1 hb1 hge1 => ?_))
  have hl1 := Lo.new hB hge1
  have hB := hB.trans hXw1
  refine WL.asg rfl rfl ?_
  refine WL.nilS ?_
  refine CW.seq ?_
  refine CW.reg ?_
  refine WL.pure rfl rfl rfl (PV.build (ks := []) (os := []) (css := []) (ds := [_, _, _]) T.bu237 rfl rfl trivial rfl) ?_
  refine WL.op rfl (OpK.buildN (g := g3) (os := [.tmp 18]) [(_, _, _)] g3_ok rfl T.sl238 rfl rfl T.zv237 rfl rfl (fun v2 g2 w2 hXw2 ho2 hge2 => ?_))
  have hl2 := Lo.new hB hge2
  have hd1_2 := Dj.new hb1.ltO hge2
  have hB := hB.trans hXw2
  have hb1 := hb1.up hXw2
  refine WL.asg rfl rfl ?_
  refine WL.nilS ?_
  refine CW.seq ?_
  refine CW.reg ?_
  refine WL.op rfl (OpK.makeMap rfl VP3 (fun b : Bool => Value.bool b) (fun b3 w3 hXw3 hb3 hge3 => ?_))
  have hl3 := Lo.new hB hge3
  have hd1_3 := Dj.new hb1.ltO hge3
  have hd2_3 := Dj.new ho2.ltO hge3
  have hB := hB.trans hXw3
  have hb1 := hb1.up hXw3
  have ho2 := ho2.up hXw3
  refine WL.pure rfl rfl rfl (PV.build (ks := []) (os := []) (css := []) (ds := [_, _, _]) T.bu237 rfl rfl trivial rfl) ?_
  refine WL.op rfl (OpK.insert (a := (_, _, _)) (c := true) (key3 T.s3237) Try.underlying239 rfl rfl rfl hb3 (by rfl) (fun w4 hXw4 hb3 => ?_))
  have hB := hB.updL hXw4 hl3
  have hb1 := hb1.updD hXw4 hd1_3
  have ho2 := ho2.updD hXw4 hd2_3
  refine WL.mv rfl rfl ?_
  refine WL.asg rfl rfl ?_
  refine WL.nilS ?_
  refine CW.seq ?_
  refine CW.seq ?_
  refine CW.reg ?_
  refine WL.asg rfl rfl ?_
  refine WL.nilS ?_
  refine CW.block ?_
  have hlt1 := hb1.ltO
  have hlt2 := ho2.ltO
  have hlt3 := hb3.ltO
  refine CW.loop (σk := [(1, _), (2, _), (3, _), (8, _)]) (fun ρ wz m => ∃ (v4 : Value) (og4 : Option Nat) (at_ : Nat) (xs : List P3), ρ = [(7, v4), (9, .int .i64 (at_ : Nat))] ∧ m = 1352 - at_ ∧ UpdL [(some g2), (some b3.block)] w4 wz ∧ Osn 3 g3 wz og4 v4 (xs) ∧ OgR w4 (some g2) og4 ∧ Mp wz b3 VP3 (fun b : Bool => Value.bool b) (xs.map fun x => (x, true)) ∧ (BI xa2 ins outs xa3 at_ xs)) (ρ₀ := [(7, _), (9, _)]) (m₀ := _) ⟨rfl, rfl, rfl, rfl, rfl, rfl, trivial⟩ ⟨v2, (some g2), 0, [z3], rfl, rfl, (UpdL.refl _ _), osnE ho2 (by rfl), OgR.refl _ _, mpE hb3 (by rfl), (by exact BI.start _ _ _ _)⟩ ?_
  rintro _ wl1 _ ⟨v4, og4, at_, xs, rfl, rfl, hU0, ho4, ha4, hb3, hBI⟩
  have hb1 := hb1.loop hU0 ⟨hd1_2, hd1_3, trivial⟩
  have hl4 := Lo.ogr hl2 hB ha4
  have hg0_4 := ha4
  have hk0_4 : OkB [(some g2), (some b3.block)] w4 og4 := OkB.ogr (OkB.mem (by simp)) (Nat.le_refl _) ha4
  have hd1_4 := Dj.ogr hd1_2 hlt1 ha4
  have hd3_4 := Dj.ogr (Dj.symm hd2_3) hlt3 ha4
  have hk0_3 : OkB [(some g2), (some b3.block)] w4 (some b3.block) := OkB.mem (by simp)
  have hB := hB.loop hU0 ⟨hl2, hl3, trivial⟩
  have hsm := hBI.small hv hi12 ho12
  refine CW.seq ?_
  refine CW.seq ?_
  refine CW.reg ?_
  refine WL.mv rfl rfl ?_
  refine WL.mv rfl rfl ?_
  refine WL.pure rfl rfl rfl ((PV.lenOsn rfl ho4 T.sl238)) ?_
  refine WL.pure rfl rfl rfl (PV.lss rfl rfl) ?_
  refine WL.nilS ?_
  refine CW.cond rfl (fun hc1 => ?_) (fun hc1 => ?_)
  · skip
    try simp only [nq] at hc1
    refine CW.skipS ?_
    refine CW.seq ?_
    refine CW.block ?_
    refine CW.seq ?_
    refine CW.reg ?_
    obtain ⟨p, hp⟩ : ∃ p, xs.getD at_ z3 = p := ⟨_, rfl⟩; have hpr : InR ins outs a0 p := (by rw [← hp]; exact hBI.inR hv (by omega)); have hpr1 : 0 ≤ p.1 ∧ p.1 ≤ ins.length := hpr.1; have hpr2 : 0 ≤ p.2.1 ∧ p.2.1 ≤ outs.length := hpr.2.1; have hpr3 : 0 ≤ p.2.2 ∧ p.2.2 ≤ a0 - 1 := hpr.2.2
    refine WL.mv rfl rfl ?_
    refine WL.mv rfl rfl ?_
    have hrdp1 := ho4.rd
    first
      | refine WL.at (x := .tmp 29) (y := .tmp 30) (E := (EG 3 g3 g3_ok)) ((0, 0, 0)) rfl rfl hrdp1 (by first | omega | (simp only [List.length_set]; omega) | (simp only [List.length_append, List.length_take, List.length_replicate, List.length_drop]; omega)) (fun p1 csp1 hpp1 hcp1 hq => ?_)
      | refine WL.atZ (x := .tmp 29) (y := .tmp 30) (E := (EG 3 g3 g3_ok)) ((0, 0, 0)) rfl rfl hrdp1 (by first | omega | (simp only [List.length_set]; omega) | (simp only [List.length_append, List.length_take, List.length_replicate, List.length_drop]; omega)) (fun p1 csp1 hpp1 hzp1 hcp1 hq => ?_)
    cases hq
    refine WL.pure rfl rfl rfl ((by first | exact PV.indexAddr hpp1 rfl rfl T.sl238 | exact PV.indexAddr hpp1 rfl (by rw [← hzp1]; rfl) T.sl238)) ?_
    rw [hp] at hcp1
    refine WL.pure rfl rfl rfl ((by first | exact PV.loadA T.ag237 rfl (by first | exact Cells.up (by assumption) hB | exact Bx.cells (by assumption) | assumption) (Ext.refl _) rfl | exact PV.loadP (ds := [_, _, _]) T.ag237 rfl (by first | exact Cells.up (by assumption) hB | exact Bx.cells (by assumption) | assumption) (Ext.refl _) rfl rfl)) ?_
    refine WL.op rfl (OpK.alloc rfl T.zv237 rfl (fun b6 w5 hXw5 hb6 hge6 => ?_))
    have hl6 := Lo.new hB hge6
    have hd1_6 := Dj.new hb1.ltO hge6
    have hd3_6 := Dj.new hb3.ltO hge6
    have hd4_6 := Dj.new ho4.ltO hge6
    have hk0_6 := OkN.new hU0 hge6
    have hg0_6 := OgR.new hU0.size hge6
    have hB := hB.trans hXw5
    have hb1 := hb1.up hXw5
    have hb3 := hb3.up hXw5
    have ho4 := ho4.up hXw5
    have hU0 := hU0.ext hXw5
    refine WL.op rfl (OpK.storeA T.sz237 rfl rfl rfl rfl (by simp [Value.oneCell'] <;> first | done | (repeat' apply And.intro) <;> first | rfl | exact Inn.one1 (by assumption) (by omega) | exact Osl.oneCell (by assumption) | exact Osn.oneCell (by assumption) | exact Rd.oneCell (by assumption) | exact Rd.oneCell (NL.rd (by assumption)) | assumption) hb6 (fun w6 hXw6 hb6 => ?_))
    have hB := hB.updL hXw6 hl6
    have hb1 := hb1.updD hXw6 hd1_6
    have hb3 := hb3.updD hXw6 hd3_6
    have ho4 := ho4.updD hXw6 hd4_6
    have hU0 := hU0.step hXw6 hk0_6
    refine WL.nilS ?_
    refine CW.seq ?_
    refine CW.seq ?_
    refine CW.reg ?_
    refine WL.pure rfl rfl rfl (PV.fieldAddr T.fl237_0 rfl hb6.cells) ?_
    refine WL.pure rfl rfl rfl (PV.load1 T.na3 rfl hb6.cells (Ext.refl _) rfl) ?_
    refine WL.mv rfl rfl ?_
    refine WL.pure rfl rfl rfl ((by first | exact PV.len rfl (by assumption) T.sl28 | exact PV.lenOs rfl (by assumption) T.sl28 | exact PV.len rfl (NL.rd (by assumption)) T.sl28 | exact PV.len rfl (Inn.rd (by assumption) (by omega)) T.sl28)) ?_
    refine WL.pure rfl rfl rfl (PV.eql rfl rfl) ?_
    refine WL.mv rfl rfl ?_
    refine WL.split (t := 38) rfl (fun hc2 => ?_) (fun hc2 => ?_)
    rotate_left
    · skip
      try simp only [nq] at hc2
      refine WL.skip rfl rfl rfl rfl rfl ?_
      refine WL.skip rfl rfl rfl rfl rfl ?_
      refine WL.skip rfl rfl rfl rfl rfl ?_
      refine WL.skip rfl rfl rfl rfl rfl ?_
      refine WL.skip rfl rfl rfl rfl rfl ?_
      refine WL.pure rfl rfl rfl (PV.pickF rfl rfl) ?_
      refine WL.mv rfl rfl ?_
      refine WL.skip rfl rfl rfl rfl rfl ?_
      refine WL.skip rfl rfl rfl rfl rfl ?_
      refine WL.skip rfl rfl rfl rfl rfl ?_
      refine WL.skip rfl rfl rfl rfl rfl ?_
      refine WL.skip rfl rfl rfl rfl rfl ?_
      refine WL.skip rfl rfl rfl rfl rfl ?_
      refine WL.pure rfl rfl rfl (PV.pickF rfl rfl) ?_
      refine WL.nilS ?_
      refine CW.condF rfl ?_
      refine CW.skipS ?_
      refine CW.seq ?_
      refine CW.reg ?_
      refine WL.pure rfl rfl rfl (PV.fieldAddr T.fl88_2 rfl hb1.cells) ?_
      refine WL.pure rfl rfl rfl (PV.load1 T.na86 rfl hb1.cells (Ext.refl _) rfl) ?_
      refine WL.pure rfl rfl rfl ((by first | exact PV.len rfl (by assumption) T.sl86 | exact PV.lenOs rfl (by assumption) T.sl86 | exact PV.len rfl (NL.rd (by assumption)) T.sl86 | exact PV.len rfl (Inn.rd (by assumption) (by omega)) T.sl86)) ?_
      refine WL.mv rfl rfl ?_
      refine WL.nilS ?_
      refine CW.block ?_
      have hlt1 := hb1.ltO
      have hlt3 := hb3.ltO
      have hlt4 := ho4.ltO
      have hlt6 := hb6.ltO
      refine CW.loop (σk := [(1, _), (2, _), (3, _), (8, _), (9, _), (10, _), (54, _), (55, _)]) (fun ρ wz m => ∃ (v7 : Value) (og7 : Option Nat) (k : Nat) (xs : List P3), ρ = [(7, v7), (56, .int .i64 (k : Nat))] ∧ m = xa2.length - k ∧ UpdL [og4, (some b3.block)] w6 wz ∧ Osn 3 g3 wz og7 v7 (xs) ∧ OgR w6 og4 og7 ∧ Mp wz b3 VP3 (fun b : Bool => Value.bool b) (xs.map fun x => (x, true)) ∧ (k ≤ xa2.length) ∧ (BA xa2 ins outs xa3 at_ p k xs)) (ρ₀ := [(7, _), (56, _)]) (m₀ := _) ⟨rfl, rfl, rfl, rfl, rfl, rfl, rfl, rfl, rfl, rfl, trivial⟩ ⟨v4, og4, 0, _, rfl, rfl, (UpdL.refl _ _), osnE ho4 (by rfl), OgR.refl _ _, mpE hb3 (by rfl), (by first | omega | rfl | (simp; done) | assumption | (simp_all; done)), (by exact hBI.arc (by omega) hp (by first | exact fin_n1 (by assumption) | exact fin_n2 (by assumption) | exact fin_n3 (by assumption)))⟩ ?_
      rintro _ wl2 _ ⟨v7, og7, k, xs, rfl, rfl, hU1, ho7, ha7, hb3, hk, hBA⟩
      have hU0 := hU0.trans hU1 ⟨hk0_4, hk0_3, trivial⟩
      have hb1 := hb1.loop hU1 ⟨hd1_4, hd1_3, trivial⟩
      have hb6 := hb6.loop hU1 ⟨(Dj.symm hd4_6), (Dj.symm hd3_6), trivial⟩
      have hl7 := Lo.ogr hl4 hB ha7
      have hg1_7 := ha7
      have hk1_7 : OkB [og4, (some b3.block)] w6 og7 := OkB.ogr (OkB.mem (by simp)) (Nat.le_refl _) ha7
      have hk0_7 := OkB.ogr hk0_4 (by first | assumption | exact UpdL.size (by assumption)) ha7
      have hg0_7 := OgR.trans hg0_4 (by first | assumption | exact UpdL.size (by assumption)) ha7
      have hd1_7 := Dj.ogr hd1_4 hlt1 ha7
      have hd3_7 := Dj.ogr hd3_4 hlt3 ha7
      have hd6_7 := Dj.ogr (Dj.symm hd4_6) hlt6 ha7
      have hk1_3 : OkB [og4, (some b3.block)] w6 (some b3.block) := OkB.mem (by simp)
      have hB := hB.loop hU1 ⟨hl4, hl3, trivial⟩
      have hsm := hBA.bi.small hv hi12 ho12
      refine CW.seq ?_
      refine CW.reg ?_
      refine WL.pure rfl rfl rfl (PV.lss rfl rfl) ?_
      refine WL.nilS ?_
      refine CW.seq ?_
      refine CW.cond rfl (fun hc3 => ?_) (fun hc3 => ?_)
      · skip
        try simp only [nq] at hc3
        refine CW.skipS ?_
        refine CW.seq ?_
        refine CW.block ?_
        refine CW.seq ?_
        refine CW.reg ?_
        first
          | refine WL.at (x := .tmp 54) (y := .tmp 56) (E := ER) ((0, 0, 0, 0)) rfl rfl (by first | assumption | exact Inn.rd (by assumption) (by omega)) (by first | omega | (simp only [List.length_set]; omega) | (simp only [List.length_append, List.length_take, List.length_replicate, List.length_drop]; omega)) (fun p2 csp2 hpp2 hcp2 hq => ?_)
          | refine WL.atZ (x := .tmp 54) (y := .tmp 56) (E := ER) ((0, 0, 0, 0)) rfl rfl (by first | assumption | exact Inn.rd (by assumption) (by omega)) (by first | omega | (simp only [List.length_set]; omega) | (simp only [List.length_append, List.length_take, List.length_replicate, List.length_drop]; omega)) (fun p2 csp2 hpp2 hzp2 hcp2 hq => ?_)
        cases hq
        refine WL.pure rfl rfl rfl ((by first | exact PV.indexAddr hpp2 rfl rfl T.sl86 | exact PV.indexAddr hpp2 rfl (by rw [← hzp2]; rfl) T.sl86)) ?_
        refine WL.pure rfl rfl rfl ((by first | exact PV.loadA T.ag178 rfl (by first | exact Cells.up (by assumption) hB | exact Bx.cells (by assumption) | assumption) (Ext.refl _) rfl | exact PV.loadP (ds := [_, _, _, _]) T.ag178 rfl (by first | exact Cells.up (by assumption) hB | exact Bx.cells (by assumption) | assumption) (Ext.refl _) rfl rfl)) ?_
        refine WL.op rfl (OpK.alloc rfl T.zv178 rfl (fun b9 w7 hXw7 hb9 hge9 => ?_))
        have hl9 := Lo.new hB hge9
        have hd1_9 := Dj.new hb1.ltO hge9
        have hd3_9 := Dj.new hb3.ltO hge9
        have hd6_9 := Dj.new hb6.ltO hge9
        have hd7_9 := Dj.new ho7.ltO hge9
        have hk0_9 := OkN.new hU0 hge9
        have hg0_9 := OgR.new hU0.size hge9
        have hk1_9 := OkN.new hU1 hge9
        have hg1_9 := OgR.new hU1.size hge9
        have hB := hB.trans hXw7
        have hb1 := hb1.up hXw7
        have hb3 := hb3.up hXw7
        have hb6 := hb6.up hXw7
        have ho7 := ho7.up hXw7
        have hU0 := hU0.ext hXw7
        have hU1 := hU1.ext hXw7
        refine WL.op rfl (OpK.storeA T.sz178 rfl rfl rfl rfl (by simp [Value.oneCell'] <;> first | done | (repeat' apply And.intro) <;> first | rfl | exact Inn.one1 (by assumption) (by omega) | exact Osl.oneCell (by assumption) | exact Osn.oneCell (by assumption) | exact Rd.oneCell (by assumption) | exact Rd.oneCell (NL.rd (by assumption)) | assumption) hb9 (fun w8 hXw8 hb9 => ?_))
        have hB := hB.updL hXw8 hl9
        have hb1 := hb1.updD hXw8 hd1_9
        have hb3 := hb3.updD hXw8 hd3_9
        have hb6 := hb6.updD hXw8 hd6_9
        have ho7 := ho7.updD hXw8 hd7_9
        have hU0 := hU0.step hXw8 hk0_9
        have hU1 := hU1.step hXw8 hk1_9
        refine WL.nilS ?_
        refine CW.seq ?_
        refine CW.reg ?_
        refine WL.mv rfl rfl ?_
        refine WL.pure rfl rfl rfl (PV.fieldAddr T.fl237_0 rfl hb6.cells) ?_
        refine WL.pure rfl rfl rfl (PV.load1 T.na3 rfl hb6.cells (Ext.refl _) rfl) ?_
        refine WL.pure rfl rfl rfl (PV.fieldAddr T.fl178_2 rfl hb9.cells) ?_
        refine WL.pure rfl rfl rfl (PV.load1 T.na2 rfl hb9.cells (Ext.refl _) rfl) ?_
        refine WL.op rfl (OpK.callR rfl T.cf207 rfl (c_impl_pass (by first | assumption | exact Rd.up (by assumption) hB | exact Osl.rd (by assumption) | exact Osn.rdR (by assumption) | exact NL.rd (by assumption) | exact rdII (by assumption) (by assumption) | exact Inn.rd (by assumption) (by omega)) (by first | assumption | omega | (simp only [marks_len, marksB_len, marksR_len, sumL_marksS]; omega))) (fun w9 hXw9 => ?_))
        have hB := hB.trans hXw9
        have hb1 := hb1.up hXw9
        have hb3 := hb3.up hXw9
        have hb6 := hb6.up hXw9
        have ho7 := ho7.up hXw9
        have hb9 := hb9.up hXw9
        have hU0 := hU0.ext hXw9
        have hU1 := hU1.ext hXw9
        refine WL.mv rfl rfl ?_
        refine WL.pure rfl rfl rfl (PV.extract rfl rfl) ?_
        refine WL.pure rfl rfl rfl (PV.extract rfl rfl) ?_
        refine WL.asg rfl rfl ?_
        refine WL.asg rfl rfl ?_
        refine WL.nilS ?_
        refine CW.seq ?_
        refine CW.reg ?_
        refine WL.mv rfl rfl ?_
        refine WL.pure rfl rfl rfl (PV.fieldAddr T.fl237_1 rfl hb6.cells) ?_
        refine WL.pure rfl rfl rfl (PV.load1 T.na3 rfl hb6.cells (Ext.refl _) rfl) ?_
        refine WL.pure rfl rfl rfl (PV.fieldAddr T.fl178_3 rfl hb9.cells) ?_
        refine WL.pure rfl rfl rfl (PV.load1 T.na2 rfl hb9.cells (Ext.refl _) rfl) ?_
        refine WL.op rfl (OpK.callR rfl T.cf207 rfl (c_impl_pass (by first | assumption | exact Rd.up (by assumption) hB | exact Osl.rd (by assumption) | exact Osn.rdR (by assumption) | exact NL.rd (by assumption) | exact rdII (by assumption) (by assumption) | exact Inn.rd (by assumption) (by omega)) (by first | assumption | omega | (simp only [marks_len, marksB_len, marksR_len, sumL_marksS]; omega))) (fun w10 hXw10 => ?_))
        have hB := hB.trans hXw10
        have hb1 := hb1.up hXw10
        have hb3 := hb3.up hXw10
        have hb6 := hb6.up hXw10
        have ho7 := ho7.up hXw10
        have hb9 := hb9.up hXw10
        have hU0 := hU0.ext hXw10
        have hU1 := hU1.ext hXw10
        refine WL.mv rfl rfl ?_
        refine WL.pure rfl rfl rfl (PV.extract rfl rfl) ?_
        refine WL.pure rfl rfl rfl (PV.extract rfl rfl) ?_
        refine WL.asg rfl rfl ?_
        refine WL.asg rfl rfl ?_
        refine WL.nilS ?_
        refine CW.seq ?_
        refine CW.reg ?_
        refine WL.mv rfl rfl ?_
        refine WL.mv rfl rfl ?_
        refine WL.pure rfl rfl rfl (PV.fieldAddr T.fl178_1 rfl hb9.cells) ?_
        refine WL.pure rfl rfl rfl (PV.load1 T.na2 rfl hb9.cells (Ext.refl _) rfl) ?_
        refine WL.pure rfl rfl rfl (PV.build (ks := [0, 1, 2]) (os := [.tmp 78, .tmp 79, .tmp 81]) (css := [[_], [_], [_]]) (ds := [_, _, _]) T.bu237 rfl rfl ⟨rfl, rfl, rfl, trivial⟩ rfl) ?_
        refine WL.op rfl (OpK.alloc rfl T.zv237 rfl (fun b10 w11 hXw11 hb10 hge10 => ?_))
        have hl10 := Lo.new hB hge10
        have hd1_10 := Dj.new hb1.ltO hge10
        have hd3_10 := Dj.new hb3.ltO hge10
        have hd6_10 := Dj.new hb6.ltO hge10
        have hd7_10 := Dj.new ho7.ltO hge10
        have hd9_10 := Dj.new hb9.ltO hge10
        have hk0_10 := OkN.new hU0 hge10
        have hg0_10 := OgR.new hU0.size hge10
        have hk1_10 := OkN.new hU1 hge10
        have hg1_10 := OgR.new hU1.size hge10
        have hB := hB.trans hXw11
        have hb1 := hb1.up hXw11
        have hb3 := hb3.up hXw11
        have hb6 := hb6.up hXw11
        have ho7 := ho7.up hXw11
        have hb9 := hb9.up hXw11
        have hU0 := hU0.ext hXw11
        have hU1 := hU1.ext hXw11
        refine WL.op rfl (OpK.storeA T.sz237 rfl rfl rfl rfl (by simp [Value.oneCell'] <;> first | done | (repeat' apply And.intro) <;> first | rfl | exact Inn.one1 (by assumption) (by omega) | exact Osl.oneCell (by assumption) | exact Osn.oneCell (by assumption) | exact Rd.oneCell (by assumption) | exact Rd.oneCell (NL.rd (by assumption)) | assumption) hb10 (fun w12 hXw12 hb10 => ?_))
        have hB := hB.updL hXw12 hl10
        have hb1 := hb1.updD hXw12 hd1_10
        have hb3 := hb3.updD hXw12 hd3_10
        have hb6 := hb6.updD hXw12 hd6_10
        have ho7 := ho7.updD hXw12 hd7_10
        have hb9 := hb9.updD hXw12 hd9_10
        have hU0 := hU0.step hXw12 hk0_10
        have hU1 := hU1.step hXw12 hk1_10
        refine WL.nilS ?_
        refine CW.seq ?_
        refine CW.reg ?_
        refine WL.pure rfl rfl rfl (PV.fieldAddr T.fl178_0 rfl hb9.cells) ?_
        refine WL.pure rfl rfl rfl (PV.load1 T.na2 rfl hb9.cells (Ext.refl _) rfl) ?_
        refine WL.pure rfl rfl rfl (PV.fieldAddr T.fl237_2 rfl hb6.cells) ?_
        refine WL.pure rfl rfl rfl (PV.load1 T.na2 rfl hb6.cells (Ext.refl _) rfl) ?_
        refine WL.pure rfl rfl rfl (PV.eql rfl rfl) ?_
        refine WL.mv rfl rfl ?_
        refine WL.split (t := 88) rfl (fun hc4 => ?_) (fun hc4 => ?_)
        rotate_left
        · skip
          try simp only [nq] at hc4
          refine WL.skip rfl rfl rfl rfl rfl ?_
          refine WL.pure rfl rfl rfl (PV.pickF rfl rfl) ?_
          refine WL.mv rfl rfl ?_
          refine WL.skip rfl rfl rfl rfl rfl ?_
          refine WL.pure rfl rfl rfl (PV.pickF rfl rfl) ?_
          refine WL.mv rfl rfl ?_
          refine WL.skip rfl rfl rfl rfl rfl ?_
          refine WL.skip rfl rfl rfl rfl rfl ?_
          refine WL.skip rfl rfl rfl rfl rfl ?_
          refine WL.skip rfl rfl rfl rfl rfl ?_
          refine WL.pure rfl rfl rfl (PV.pickF rfl rfl) ?_
          refine WL.nilS ?_
          refine CW.condF rfl ?_
          refine CW.skip ?_
          refine NQ.block ?_
          refine NQ.then ?_
          refine CW.reg ?_
          refine WL.pure rfl rfl rfl (PV.add rfl rfl (by constructor <;> omega)) ?_
          refine WL.mv rfl rfl ?_
          refine WL.nil ?_
          refine NQ.next (ρ := [(7, _), (56, _)]) ⟨rfl, rfl, rfl, rfl, rfl, rfl, rfl, rfl, rfl, rfl, trivial⟩ ?_
          exact ⟨_, ⟨v7, og7, k + 1, _, rfl, rfl, hU1, osnE ho7 (by rfl), (by first | exact hg1_7 | exact OgR.weak hg1_7), mpE hb3 (by first | rfl | (rw [List.map_append]; rfl)), (by first | omega | assumption | (simp_all; done) | (simp_all; omega)), (by first | exact hBA.put (by omega) (nxt_y (by assumption) (by assumption) (by assumption)) (by assumption) | exact hBA.old (by assumption) | exact hBA.no (by first | exact nxt_n1 (by assumption) | exact nxt_n2 (by assumption) | exact nxt_n3 (by assumption)))⟩, by omega⟩
        try simp only [nq] at hc4
        refine WL.pureG rfl rfl rfl rfl rfl (PV.move rfl) ?_
        refine WL.pure rfl rfl rfl (PV.pickT rfl rfl) ?_
        refine WL.mv rfl rfl ?_
        refine WL.split (t := 91) rfl (fun hc5 => ?_) (fun hc5 => ?_)
        rotate_left
        · skip
          try simp only [nq] at hc5
          refine WL.skip rfl rfl rfl rfl rfl ?_
          refine WL.pure rfl rfl rfl (PV.pickF rfl rfl) ?_
          refine WL.mv rfl rfl ?_
          refine WL.skip rfl rfl rfl rfl rfl ?_
          refine WL.skip rfl rfl rfl rfl rfl ?_
          refine WL.skip rfl rfl rfl rfl rfl ?_
          refine WL.skip rfl rfl rfl rfl rfl ?_
          refine WL.pure rfl rfl rfl (PV.pickF rfl rfl) ?_
          refine WL.nilS ?_
          refine CW.condF rfl ?_
          refine CW.skip ?_
          refine NQ.block ?_
          refine NQ.then ?_
          refine CW.reg ?_
          refine WL.pure rfl rfl rfl (PV.add rfl rfl (by constructor <;> omega)) ?_
          refine WL.mv rfl rfl ?_
          refine WL.nil ?_
          refine NQ.next (ρ := [(7, _), (56, _)]) ⟨rfl, rfl, rfl, rfl, rfl, rfl, rfl, rfl, rfl, rfl, trivial⟩ ?_
          exact ⟨_, ⟨v7, og7, k + 1, _, rfl, rfl, hU1, osnE ho7 (by rfl), (by first | exact hg1_7 | exact OgR.weak hg1_7), mpE hb3 (by first | rfl | (rw [List.map_append]; rfl)), (by first | omega | assumption | (simp_all; done) | (simp_all; omega)), (by first | exact hBA.put (by omega) (nxt_y (by assumption) (by assumption) (by assumption)) (by assumption) | exact hBA.old (by assumption) | exact hBA.no (by first | exact nxt_n1 (by assumption) | exact nxt_n2 (by assumption) | exact nxt_n3 (by assumption)))⟩, by omega⟩
        try simp only [nq] at hc5
        refine WL.pureG rfl rfl rfl rfl rfl (PV.move rfl) ?_
        refine WL.pure rfl rfl rfl (PV.pickT rfl rfl) ?_
        refine WL.mv rfl rfl ?_
        refine WL.split (t := 94) rfl (fun hc6 => ?_) (fun hc6 => ?_)
        rotate_left
        · skip
          try simp only [nq] at hc6
          refine WL.skip rfl rfl rfl rfl rfl ?_
          refine WL.skip rfl rfl rfl rfl rfl ?_
          refine WL.skip rfl rfl rfl rfl rfl ?_
          refine WL.skip rfl rfl rfl rfl rfl ?_
          refine WL.pure rfl rfl rfl (PV.pickF rfl rfl) ?_
          refine WL.nilS ?_
          refine CW.condF rfl ?_
          refine CW.skip ?_
          refine NQ.block ?_
          refine NQ.then ?_
          refine CW.reg ?_
          refine WL.pure rfl rfl rfl (PV.add rfl rfl (by constructor <;> omega)) ?_
          refine WL.mv rfl rfl ?_
          refine WL.nil ?_
          refine NQ.next (ρ := [(7, _), (56, _)]) ⟨rfl, rfl, rfl, rfl, rfl, rfl, rfl, rfl, rfl, rfl, trivial⟩ ?_
          exact ⟨_, ⟨v7, og7, k + 1, _, rfl, rfl, hU1, osnE ho7 (by rfl), (by first | exact hg1_7 | exact OgR.weak hg1_7), mpE hb3 (by first | rfl | (rw [List.map_append]; rfl)), (by first | omega | assumption | (simp_all; done) | (simp_all; omega)), (by first | exact hBA.put (by omega) (nxt_y (by assumption) (by assumption) (by assumption)) (by assumption) | exact hBA.old (by assumption) | exact hBA.no (by first | exact nxt_n1 (by assumption) | exact nxt_n2 (by assumption) | exact nxt_n3 (by assumption)))⟩, by omega⟩
        try simp only [nq] at hc6
        refine WL.pureG rfl rfl rfl rfl rfl (PV.move rfl) ?_
        refine WL.pureG rfl rfl rfl rfl rfl (PV.loadA T.ag237 rfl hb10.cells (Ext.refl _) rfl) ?_
        refine WL.pureG rfl rfl rfl rfl rfl (PV.lookSet (a := (_, _, _)) (key3 T.s3237) Try.underlying239 T.zv4 rfl rfl hb3) ?_
        refine WL.pureG rfl rfl rfl rfl rfl (PV.not rfl) ?_
        refine WL.pure rfl rfl rfl (PV.pickT rfl rfl) ?_
        refine WL.nilS ?_
        refine CW.cond rfl (fun hc7 => ?_) (fun hc7 => ?_)
        · skip
          try simp only [nq] at hc7
          refine CW.seq ?_
          refine CW.reg ?_
          refine WL.mv rfl rfl ?_
          refine WL.pure rfl rfl rfl (PV.loadA T.ag237 rfl hb10.cells (Ext.refl _) rfl) ?_
          refine WL.op rfl (OpK.put (a := (_, _, _)) (c := true) (key3 T.s3237) Try.underlying239 rfl rfl rfl hb3 (by rw [mpGet_set, if_neg (by assumption)]) (fun w13 hXw13 hb3 => ?_))
          have hB := hB.updL hXw13 hl3
          have hb1 := hb1.updD hXw13 hd1_3
          have hb6 := hb6.updD hXw13 (Dj.symm hd3_6)
          have ho7 := ho7.updD hXw13 (Dj.symm hd3_7)
          have hb9 := hb9.updD hXw13 (Dj.symm hd3_9)
          have hb10 := hb10.updD hXw13 (Dj.symm hd3_10)
          have hU0 := hU0.step hXw13 hk0_3
          have hU1 := hU1.step hXw13 hk1_3
          refine WL.nilS ?_
          refine CW.reg ?_
          refine WL.mv rfl rfl ?_
          refine WL.pure rfl rfl rfl (PV.loadA T.ag237 rfl hb10.cells (Ext.refl _) rfl) ?_
          refine WL.op rfl (OpK.buildN (g := g3) (os := [.tmp 103]) [(_, _, _)] g3_ok rfl T.sl238 rfl rfl T.zv237 rfl rfl (fun v11 g11 w14 hXw14 ho11 hge11 => ?_))
          have hl11 := Lo.new hB hge11
          have hd1_11 := Dj.new hb1.ltO hge11
          have hd3_11 := Dj.new hb3.ltO hge11
          have hd6_11 := Dj.new hb6.ltO hge11
          have hd7_11 := Dj.new ho7.ltO hge11
          have hd9_11 := Dj.new hb9.ltO hge11
          have hd10_11 := Dj.new hb10.ltO hge11
          have hk0_11 := OkN.new hU0 hge11
          have hg0_11 := OgR.new hU0.size hge11
          have hk1_11 := OkN.new hU1 hge11
          have hg1_11 := OgR.new hU1.size hge11
          have hB := hB.trans hXw14
          have hb1 := hb1.up hXw14
          have hb3 := hb3.up hXw14
          have hb6 := hb6.up hXw14
          have ho7 := ho7.up hXw14
          have hb9 := hb9.up hXw14
          have hb10 := hb10.up hXw14
          have hU0 := hU0.ext hXw14
          have hU1 := hU1.ext hXw14
          refine WL.op rfl (OpK.appendN (g := g3) rfl T.sl238 T.zv237 rfl rfl ho7 rfl (Osn.src ho11) (by first | (simp only [List.length_cons, List.length_nil]; omega) | (omega)) (fun v12 og12 w15 hXw15 ho12 hap12 => ?_))
          have hl12 := Lo.app hl7 hB hap12
          have hd1_12 := Dj.app hd1_7 hb1.ltO hap12
          have hd3_12 := Dj.app hd3_7 hb3.ltO hap12
          have hd6_12 := Dj.app hd6_7 hb6.ltO hap12
          have hd9_12 := Dj.app (Dj.symm hd7_9) hb9.ltO hap12
          have hd10_12 := Dj.app (Dj.symm hd7_10) hb10.ltO hap12
          have hd11_12 := Dj.app (Dj.symm hd7_11) ho11.ltO hap12
          have hk0_12 := OkN.app hU0 hk0_7 hap12
          have hg0_12 := OgR.app hg0_7 hU0.size hap12
          have hk1_12 := OkN.app hU1 hk1_7 hap12
          have hg1_12 := OgR.app hg1_7 hU1.size hap12
          have hB := hB.updL hXw15 hl7
          have hb1 := hb1.updD hXw15 hd1_7
          have hb3 := hb3.updD hXw15 hd3_7
          have hb6 := hb6.updD hXw15 hd6_7
          have hb9 := hb9.updD hXw15 (Dj.symm hd7_9)
          have hb10 := hb10.updD hXw15 (Dj.symm hd7_10)
          have ho11 := ho11.updD hXw15 (Dj.symm hd7_11)
          have hU0 := hU0.step hXw15 hk0_7
          have hU1 := hU1.step hXw15 hk1_7
          refine WL.asg rfl rfl ?_
          refine WL.nil ?_
          refine NQ.block ?_
          refine NQ.then ?_
          refine CW.reg ?_
          refine WL.pure rfl rfl rfl (PV.add rfl rfl (by constructor <;> omega)) ?_
          refine WL.mv rfl rfl ?_
          refine WL.nil ?_
          refine NQ.next (ρ := [(7, _), (56, _)]) ⟨rfl, rfl, rfl, rfl, rfl, rfl, rfl, rfl, rfl, rfl, trivial⟩ ?_
          exact ⟨_, ⟨v12, og12, k + 1, xs ++ [nxtP p (xa2.getD k z4)], rfl, rfl, hU1, osnE ho12 (by rfl), (by first | exact hg1_12 | exact OgR.weak hg1_12), mpE hb3 (by first | rfl | (rw [List.map_append]; rfl)), (by first | omega | assumption | (simp_all; done) | (simp_all; omega)), (by first | exact hBA.put (by omega) (nxt_y (by assumption) (by assumption) (by assumption)) (by assumption) | exact hBA.old (by assumption) | exact hBA.no (by first | exact nxt_n1 (by assumption) | exact nxt_n2 (by assumption) | exact nxt_n3 (by assumption)))⟩, by omega⟩
        try simp only [nq] at hc7
        refine CW.skip ?_
        refine NQ.block ?_
        refine NQ.then ?_
        refine CW.reg ?_
        refine WL.pure rfl rfl rfl (PV.add rfl rfl (by constructor <;> omega)) ?_
        refine WL.mv rfl rfl ?_
        refine WL.nil ?_
        refine NQ.next (ρ := [(7, _), (56, _)]) ⟨rfl, rfl, rfl, rfl, rfl, rfl, rfl, rfl, rfl, rfl, trivial⟩ ?_
        exact ⟨_, ⟨v7, og7, k + 1, _, rfl, rfl, hU1, osnE ho7 (by rfl), (by first | exact hg1_7 | exact OgR.weak hg1_7), mpE hb3 (by first | rfl | (rw [List.map_append]; rfl)), (by first | omega | assumption | (simp_all; done) | (simp_all; omega)), (by first | exact hBA.put (by omega) (nxt_y (by assumption) (by assumption) (by assumption)) (by assumption) | exact hBA.old (by assumption) | exact hBA.no (by first | exact nxt_n1 (by assumption) | exact nxt_n2 (by assumption) | exact nxt_n3 (by assumption)))⟩, by omega⟩
      try simp only [nq] at hc3
      refine CW.exit ?_
      refine XQ.then ?_
      refine XQ.then ?_
      refine XQ.here ?_
      refine NQ.block ?_
      refine NQ.then ?_
      refine CW.reg ?_
      refine WL.mv rfl rfl ?_
      refine WL.pure rfl rfl rfl (PV.add rfl rfl (by constructor <;> omega)) ?_
      refine WL.asg rfl rfl ?_
      refine WL.nil ?_
      refine NQ.next (ρ := [(7, _), (9, _)]) ⟨rfl, rfl, rfl, rfl, rfl, rfl, trivial⟩ ?_
      exact ⟨_, ⟨v7, og7, at_ + 1, _, rfl, rfl, hU0, osnE ho7 (by rfl), (by first | exact hg0_7 | exact OgR.weak hg0_7), mpE hb3 (by rfl), (by exact hBA.done (by omega))⟩, by (have := hBA.lt; omega)⟩
    try simp only [nq] at hc2
    refine WL.pureG rfl rfl rfl rfl rfl (PV.fieldAddr T.fl237_1 rfl hb6.cells) ?_
    refine WL.pureG rfl rfl rfl rfl rfl (PV.load1 T.na3 rfl hb6.cells (Ext.refl _) rfl) ?_
    refine WL.pureG rfl rfl rfl rfl rfl (PV.move rfl) ?_
    refine WL.pureG rfl rfl rfl rfl rfl ((by first | exact PV.len rfl (by assumption) T.sl28 | exact PV.lenOs rfl (by assumption) T.sl28 | exact PV.len rfl (NL.rd (by assumption)) T.sl28 | exact PV.len rfl (Inn.rd (by assumption) (by omega)) T.sl28)) ?_
    refine WL.pureG rfl rfl rfl rfl rfl (PV.eql rfl rfl) ?_
    refine WL.pure rfl rfl rfl (PV.pickT rfl rfl) ?_
    refine WL.mv rfl rfl ?_
    refine WL.split (t := 45) rfl (fun hc8 => ?_) (fun hc8 => ?_)
    rotate_left
    · skip
      try simp only [nq] at hc8
      refine WL.skip rfl rfl rfl rfl rfl ?_
      refine WL.skip rfl rfl rfl rfl rfl ?_
      refine WL.skip rfl rfl rfl rfl rfl ?_
      refine WL.skip rfl rfl rfl rfl rfl ?_
      refine WL.skip rfl rfl rfl rfl rfl ?_
      refine WL.skip rfl rfl rfl rfl rfl ?_
      refine WL.pure rfl rfl rfl (PV.pickF rfl rfl) ?_
      refine WL.nilS ?_
      refine CW.condF rfl ?_
      refine CW.skipS ?_
      refine CW.seq ?_
      refine CW.reg ?_
      refine WL.pure rfl rfl rfl (PV.fieldAddr T.fl88_2 rfl hb1.cells) ?_
      refine WL.pure rfl rfl rfl (PV.load1 T.na86 rfl hb1.cells (Ext.refl _) rfl) ?_
      refine WL.pure rfl rfl rfl ((by first | exact PV.len rfl (by assumption) T.sl86 | exact PV.lenOs rfl (by assumption) T.sl86 | exact PV.len rfl (NL.rd (by assumption)) T.sl86 | exact PV.len rfl (Inn.rd (by assumption) (by omega)) T.sl86)) ?_
      refine WL.mv rfl rfl ?_
      refine WL.nilS ?_
      refine CW.block ?_
      have hlt1 := hb1.ltO
      have hlt3 := hb3.ltO
      have hlt4 := ho4.ltO
      have hlt6 := hb6.ltO
      refine CW.loop (σk := [(1, _), (2, _), (3, _), (8, _), (9, _), (10, _), (54, _), (55, _)]) (fun ρ wz m => ∃ (v13 : Value) (og13 : Option Nat) (k : Nat) (xs : List P3), ρ = [(7, v13), (56, .int .i64 (k : Nat))] ∧ m = xa2.length - k ∧ UpdL [og4, (some b3.block)] w6 wz ∧ Osn 3 g3 wz og13 v13 (xs) ∧ OgR w6 og4 og13 ∧ Mp wz b3 VP3 (fun b : Bool => Value.bool b) (xs.map fun x => (x, true)) ∧ (k ≤ xa2.length) ∧ (BA xa2 ins outs xa3 at_ p k xs)) (ρ₀ := [(7, _), (56, _)]) (m₀ := _) ⟨rfl, rfl, rfl, rfl, rfl, rfl, rfl, rfl, rfl, rfl, trivial⟩ ⟨v4, og4, 0, _, rfl, rfl, (UpdL.refl _ _), osnE ho4 (by rfl), OgR.refl _ _, mpE hb3 (by rfl), (by first | omega | rfl | (simp; done) | assumption | (simp_all; done)), (by exact hBI.arc (by omega) hp (by first | exact fin_n1 (by assumption) | exact fin_n2 (by assumption) | exact fin_n3 (by assumption)))⟩ ?_
      rintro _ wl3 _ ⟨v13, og13, k, xs, rfl, rfl, hU1, ho13, ha13, hb3, hk, hBA⟩
      have hU0 := hU0.trans hU1 ⟨hk0_4, hk0_3, trivial⟩
      have hb1 := hb1.loop hU1 ⟨hd1_4, hd1_3, trivial⟩
      have hb6 := hb6.loop hU1 ⟨(Dj.symm hd4_6), (Dj.symm hd3_6), trivial⟩
      have hl13 := Lo.ogr hl4 hB ha13
      have hg1_13 := ha13
      have hk1_13 : OkB [og4, (some b3.block)] w6 og13 := OkB.ogr (OkB.mem (by simp)) (Nat.le_refl _) ha13
      have hk0_13 := OkB.ogr hk0_4 (by first | assumption | exact UpdL.size (by assumption)) ha13
      have hg0_13 := OgR.trans hg0_4 (by first | assumption | exact UpdL.size (by assumption)) ha13
      have hd1_13 := Dj.ogr hd1_4 hlt1 ha13
      have hd3_13 := Dj.ogr hd3_4 hlt3 ha13
      have hd6_13 := Dj.ogr (Dj.symm hd4_6) hlt6 ha13
      have hk1_3 : OkB [og4, (some b3.block)] w6 (some b3.block) := OkB.mem (by simp)
      have hB := hB.loop hU1 ⟨hl4, hl3, trivial⟩
      have hsm := hBA.bi.small hv hi12 ho12
      refine CW.seq ?_
      refine CW.reg ?_
      refine WL.pure rfl rfl rfl (PV.lss rfl rfl) ?_
      refine WL.nilS ?_
      refine CW.seq ?_
      refine CW.cond rfl (fun hc9 => ?_) (fun hc9 => ?_)
      · skip
        try simp only [nq] at hc9
        refine CW.skipS ?_
        refine CW.seq ?_
        refine CW.block ?_
        refine CW.seq ?_
        refine CW.reg ?_
        first
          | refine WL.at (x := .tmp 54) (y := .tmp 56) (E := ER) ((0, 0, 0, 0)) rfl rfl (by first | assumption | exact Inn.rd (by assumption) (by omega)) (by first | omega | (simp only [List.length_set]; omega) | (simp only [List.length_append, List.length_take, List.length_replicate, List.length_drop]; omega)) (fun p3 csp3 hpp3 hcp3 hq => ?_)
          | refine WL.atZ (x := .tmp 54) (y := .tmp 56) (E := ER) ((0, 0, 0, 0)) rfl rfl (by first | assumption | exact Inn.rd (by assumption) (by omega)) (by first | omega | (simp only [List.length_set]; omega) | (simp only [List.length_append, List.length_take, List.length_replicate, List.length_drop]; omega)) (fun p3 csp3 hpp3 hzp3 hcp3 hq => ?_)
        cases hq
        refine WL.pure rfl rfl rfl ((by first | exact PV.indexAddr hpp3 rfl rfl T.sl86 | exact PV.indexAddr hpp3 rfl (by rw [← hzp3]; rfl) T.sl86)) ?_
        refine WL.pure rfl rfl rfl ((by first | exact PV.loadA T.ag178 rfl (by first | exact Cells.up (by assumption) hB | exact Bx.cells (by assumption) | assumption) (Ext.refl _) rfl | exact PV.loadP (ds := [_, _, _, _]) T.ag178 rfl (by first | exact Cells.up (by assumption) hB | exact Bx.cells (by assumption) | assumption) (Ext.refl _) rfl rfl)) ?_
        refine WL.op rfl (OpK.alloc rfl T.zv178 rfl (fun b15 w16 hXw16 hb15 hge15 => ?_))
        have hl15 := Lo.new hB hge15
        have hd1_15 := Dj.new hb1.ltO hge15
        have hd3_15 := Dj.new hb3.ltO hge15
        have hd6_15 := Dj.new hb6.ltO hge15
        have hd13_15 := Dj.new ho13.ltO hge15
        have hk0_15 := OkN.new hU0 hge15
        have hg0_15 := OgR.new hU0.size hge15
        have hk1_15 := OkN.new hU1 hge15
        have hg1_15 := OgR.new hU1.size hge15
        have hB := hB.trans hXw16
        have hb1 := hb1.up hXw16
        have hb3 := hb3.up hXw16
        have hb6 := hb6.up hXw16
        have ho13 := ho13.up hXw16
        have hU0 := hU0.ext hXw16
        have hU1 := hU1.ext hXw16
        refine WL.op rfl (OpK.storeA T.sz178 rfl rfl rfl rfl (by simp [Value.oneCell'] <;> first | done | (repeat' apply And.intro) <;> first | rfl | exact Inn.one1 (by assumption) (by omega) | exact Osl.oneCell (by assumption) | exact Osn.oneCell (by assumption) | exact Rd.oneCell (by assumption) | exact Rd.oneCell (NL.rd (by assumption)) | assumption) hb15 (fun w17 hXw17 hb15 => ?_))
        have hB := hB.updL hXw17 hl15
        have hb1 := hb1.updD hXw17 hd1_15
        have hb3 := hb3.updD hXw17 hd3_15
        have hb6 := hb6.updD hXw17 hd6_15
        have ho13 := ho13.updD hXw17 hd13_15
        have hU0 := hU0.step hXw17 hk0_15
        have hU1 := hU1.step hXw17 hk1_15
        refine WL.nilS ?_
        refine CW.seq ?_
        refine CW.reg ?_
        refine WL.mv rfl rfl ?_
        refine WL.pure rfl rfl rfl (PV.fieldAddr T.fl237_0 rfl hb6.cells) ?_
        refine WL.pure rfl rfl rfl (PV.load1 T.na3 rfl hb6.cells (Ext.refl _) rfl) ?_
        refine WL.pure rfl rfl rfl (PV.fieldAddr T.fl178_2 rfl hb15.cells) ?_
        refine WL.pure rfl rfl rfl (PV.load1 T.na2 rfl hb15.cells (Ext.refl _) rfl) ?_
        refine WL.op rfl (OpK.callR rfl T.cf207 rfl (c_impl_pass (by first | assumption | exact Rd.up (by assumption) hB | exact Osl.rd (by assumption) | exact Osn.rdR (by assumption) | exact NL.rd (by assumption) | exact rdII (by assumption) (by assumption) | exact Inn.rd (by assumption) (by omega)) (by first | assumption | omega | (simp only [marks_len, marksB_len, marksR_len, sumL_marksS]; omega))) (fun w18 hXw18 => ?_))
        have hB := hB.trans hXw18
        have hb1 := hb1.up hXw18
        have hb3 := hb3.up hXw18
        have hb6 := hb6.up hXw18
        have ho13 := ho13.up hXw18
        have hb15 := hb15.up hXw18
        have hU0 := hU0.ext hXw18
        have hU1 := hU1.ext hXw18
        refine WL.mv rfl rfl ?_
        refine WL.pure rfl rfl rfl (PV.extract rfl rfl) ?_
        refine WL.pure rfl rfl rfl (PV.extract rfl rfl) ?_
        refine WL.asg rfl rfl ?_
        refine WL.asg rfl rfl ?_
        refine WL.nilS ?_
        refine CW.seq ?_
        refine CW.reg ?_
        refine WL.mv rfl rfl ?_
        refine WL.pure rfl rfl rfl (PV.fieldAddr T.fl237_1 rfl hb6.cells) ?_
        refine WL.pure rfl rfl rfl (PV.load1 T.na3 rfl hb6.cells (Ext.refl _) rfl) ?_
        refine WL.pure rfl rfl rfl (PV.fieldAddr T.fl178_3 rfl hb15.cells) ?_
        refine WL.pure rfl rfl rfl (PV.load1 T.na2 rfl hb15.cells (Ext.refl _) rfl) ?_
        refine WL.op rfl (OpK.callR rfl T.cf207 rfl (c_impl_pass (by first | assumption | exact Rd.up (by assumption) hB | exact Osl.rd (by assumption) | exact Osn.rdR (by assumption) | exact NL.rd (by assumption) | exact rdII (by assumption) (by assumption) | exact Inn.rd (by assumption) (by omega)) (by first | assumption | omega | (simp only [marks_len, marksB_len, marksR_len, sumL_marksS]; omega))) (fun w19 hXw19 => ?_))
        have hB := hB.trans hXw19
        have hb1 := hb1.up hXw19
        have hb3 := hb3.up hXw19
        have hb6 := hb6.up hXw19
        have ho13 := ho13.up hXw19
        have hb15 := hb15.up hXw19
        have hU0 := hU0.ext hXw19
        have hU1 := hU1.ext hXw19
        refine WL.mv rfl rfl ?_
        refine WL.pure rfl rfl rfl (PV.extract rfl rfl) ?_
        refine WL.pure rfl rfl rfl (PV.extract rfl rfl) ?_
        refine WL.asg rfl rfl ?_
        refine WL.asg rfl rfl ?_
        refine WL.nilS ?_
        refine CW.seq ?_
        refine CW.reg ?_
        refine WL.mv rfl rfl ?_
        refine WL.mv rfl rfl ?_
        refine WL.pure rfl rfl rfl (PV.fieldAddr T.fl178_1 rfl hb15.cells) ?_
        refine WL.pure rfl rfl rfl (PV.load1 T.na2 rfl hb15.cells (Ext.refl _) rfl) ?_
        refine WL.pure rfl rfl rfl (PV.build (ks := [0, 1, 2]) (os := [.tmp 78, .tmp 79, .tmp 81]) (css := [[_], [_], [_]]) (ds := [_, _, _]) T.bu237 rfl rfl ⟨rfl, rfl, rfl, trivial⟩ rfl) ?_
        refine WL.op rfl (OpK.alloc rfl T.zv237 rfl (fun b16 w20 hXw20 hb16 hge16 => ?_))
        have hl16 := Lo.new hB hge16
        have hd1_16 := Dj.new hb1.ltO hge16
        have hd3_16 := Dj.new hb3.ltO hge16
        have hd6_16 := Dj.new hb6.ltO hge16
        have hd13_16 := Dj.new ho13.ltO hge16
        have hd15_16 := Dj.new hb15.ltO hge16
        have hk0_16 := OkN.new hU0 hge16
        have hg0_16 := OgR.new hU0.size hge16
        have hk1_16 := OkN.new hU1 hge16
        have hg1_16 := OgR.new hU1.size hge16
        have hB := hB.trans hXw20
        have hb1 := hb1.up hXw20
        have hb3 := hb3.up hXw20
        have hb6 := hb6.up hXw20
        have ho13 := ho13.up hXw20
        have hb15 := hb15.up hXw20
        have hU0 := hU0.ext hXw20
        have hU1 := hU1.ext hXw20
        refine WL.op rfl (OpK.storeA T.sz237 rfl rfl rfl rfl (by simp [Value.oneCell'] <;> first | done | (repeat' apply And.intro) <;> first | rfl | exact Inn.one1 (by assumption) (by omega) | exact Osl.oneCell (by assumption) | exact Osn.oneCell (by assumption) | exact Rd.oneCell (by assumption) | exact Rd.oneCell (NL.rd (by assumption)) | assumption) hb16 (fun w21 hXw21 hb16 => ?_))
        have hB := hB.updL hXw21 hl16
        have hb1 := hb1.updD hXw21 hd1_16
        have hb3 := hb3.updD hXw21 hd3_16
        have hb6 := hb6.updD hXw21 hd6_16
        have ho13 := ho13.updD hXw21 hd13_16
        have hb15 := hb15.updD hXw21 hd15_16
        have hU0 := hU0.step hXw21 hk0_16
        have hU1 := hU1.step hXw21 hk1_16
        refine WL.nilS ?_
        refine CW.seq ?_
        refine CW.reg ?_
        refine WL.pure rfl rfl rfl (PV.fieldAddr T.fl178_0 rfl hb15.cells) ?_
        refine WL.pure rfl rfl rfl (PV.load1 T.na2 rfl hb15.cells (Ext.refl _) rfl) ?_
        refine WL.pure rfl rfl rfl (PV.fieldAddr T.fl237_2 rfl hb6.cells) ?_
        refine WL.pure rfl rfl rfl (PV.load1 T.na2 rfl hb6.cells (Ext.refl _) rfl) ?_
        refine WL.pure rfl rfl rfl (PV.eql rfl rfl) ?_
        refine WL.mv rfl rfl ?_
        refine WL.split (t := 88) rfl (fun hc10 => ?_) (fun hc10 => ?_)
        rotate_left
        · skip
          try simp only [nq] at hc10
          refine WL.skip rfl rfl rfl rfl rfl ?_
          refine WL.pure rfl rfl rfl (PV.pickF rfl rfl) ?_
          refine WL.mv rfl rfl ?_
          refine WL.skip rfl rfl rfl rfl rfl ?_
          refine WL.pure rfl rfl rfl (PV.pickF rfl rfl) ?_
          refine WL.mv rfl rfl ?_
          refine WL.skip rfl rfl rfl rfl rfl ?_
          refine WL.skip rfl rfl rfl rfl rfl ?_
          refine WL.skip rfl rfl rfl rfl rfl ?_
          refine WL.skip rfl rfl rfl rfl rfl ?_
          refine WL.pure rfl rfl rfl (PV.pickF rfl rfl) ?_
          refine WL.nilS ?_
          refine CW.condF rfl ?_
          refine CW.skip ?_
          refine NQ.block ?_
          refine NQ.then ?_
          refine CW.reg ?_
          refine WL.pure rfl rfl rfl (PV.add rfl rfl (by constructor <;> omega)) ?_
          refine WL.mv rfl rfl ?_
          refine WL.nil ?_
          refine NQ.next (ρ := [(7, _), (56, _)]) ⟨rfl, rfl, rfl, rfl, rfl, rfl, rfl, rfl, rfl, rfl, trivial⟩ ?_
          exact ⟨_, ⟨v13, og13, k + 1, _, rfl, rfl, hU1, osnE ho13 (by rfl), (by first | exact hg1_13 | exact OgR.weak hg1_13), mpE hb3 (by first | rfl | (rw [List.map_append]; rfl)), (by first | omega | assumption | (simp_all; done) | (simp_all; omega)), (by first | exact hBA.put (by omega) (nxt_y (by assumption) (by assumption) (by assumption)) (by assumption) | exact hBA.old (by assumption) | exact hBA.no (by first | exact nxt_n1 (by assumption) | exact nxt_n2 (by assumption) | exact nxt_n3 (by assumption)))⟩, by omega⟩
        try simp only [nq] at hc10
        refine WL.pureG rfl rfl rfl rfl rfl (PV.move rfl) ?_
        refine WL.pure rfl rfl rfl (PV.pickT rfl rfl) ?_
        refine WL.mv rfl rfl ?_
        refine WL.split (t := 91) rfl (fun hc11 => ?_) (fun hc11 => ?_)
        rotate_left
        · skip
          try simp only [nq] at hc11
          refine WL.skip rfl rfl rfl rfl rfl ?_
          refine WL.pure rfl rfl rfl (PV.pickF rfl rfl) ?_
          refine WL.mv rfl rfl ?_
          refine WL.skip rfl rfl rfl rfl rfl ?_
          refine WL.skip rfl rfl rfl rfl rfl ?_
          refine WL.skip rfl rfl rfl rfl rfl ?_
          refine WL.skip rfl rfl rfl rfl rfl ?_
          refine WL.pure rfl rfl rfl (PV.pickF rfl rfl) ?_
          refine WL.nilS ?_
          refine CW.condF rfl ?_
          refine CW.skip ?_
          refine NQ.block ?_
          refine NQ.then ?_
          refine CW.reg ?_
          refine WL.pure rfl rfl rfl (PV.add rfl rfl (by constructor <;> omega)) ?_
          refine WL.mv rfl rfl ?_
          refine WL.nil ?_
          refine NQ.next (ρ := [(7, _), (56, _)]) ⟨rfl, rfl, rfl, rfl, rfl, rfl, rfl, rfl, rfl, rfl, trivial⟩ ?_
          exact ⟨_, ⟨v13, og13, k + 1, _, rfl, rfl, hU1, osnE ho13 (by rfl), (by first | exact hg1_13 | exact OgR.weak hg1_13), mpE hb3 (by first | rfl | (rw [List.map_append]; rfl)), (by first | omega | assumption | (simp_all; done) | (simp_all; omega)), (by first | exact hBA.put (by omega) (nxt_y (by assumption) (by assumption) (by assumption)) (by assumption) | exact hBA.old (by assumption) | exact hBA.no (by first | exact nxt_n1 (by assumption) | exact nxt_n2 (by assumption) | exact nxt_n3 (by assumption)))⟩, by omega⟩
        try simp only [nq] at hc11
        refine WL.pureG rfl rfl rfl rfl rfl (PV.move rfl) ?_
        refine WL.pure rfl rfl rfl (PV.pickT rfl rfl) ?_
        refine WL.mv rfl rfl ?_
        refine WL.split (t := 94) rfl (fun hc12 => ?_) (fun hc12 => ?_)
        rotate_left
        · skip
          try simp only [nq] at hc12
          refine WL.skip rfl rfl rfl rfl rfl ?_
          refine WL.skip rfl rfl rfl rfl rfl ?_
          refine WL.skip rfl rfl rfl rfl rfl ?_
          refine WL.skip rfl rfl rfl rfl rfl ?_
          refine WL.pure rfl rfl rfl (PV.pickF rfl rfl) ?_
          refine WL.nilS ?_
          refine CW.condF rfl ?_
          refine CW.skip ?_
          refine NQ.block ?_
          refine NQ.then ?_
          refine CW.reg ?_
          refine WL.pure rfl rfl rfl (PV.add rfl rfl (by constructor <;> omega)) ?_
          refine WL.mv rfl rfl ?_
          refine WL.nil ?_
          refine NQ.next (ρ := [(7, _), (56, _)]) ⟨rfl, rfl, rfl, rfl, rfl, rfl, rfl, rfl, rfl, rfl, trivial⟩ ?_
          exact ⟨_, ⟨v13, og13, k + 1, _, rfl, rfl, hU1, osnE ho13 (by rfl), (by first | exact hg1_13 | exact OgR.weak hg1_13), mpE hb3 (by first | rfl | (rw [List.map_append]; rfl)), (by first | omega | assumption | (simp_all; done) | (simp_all; omega)), (by first | exact hBA.put (by omega) (nxt_y (by assumption) (by assumption) (by assumption)) (by assumption) | exact hBA.old (by assumption) | exact hBA.no (by first | exact nxt_n1 (by assumption) | exact nxt_n2 (by assumption) | exact nxt_n3 (by assumption)))⟩, by omega⟩
        try simp only [nq] at hc12
        refine WL.pureG rfl rfl rfl rfl rfl (PV.move rfl) ?_
        refine WL.pureG rfl rfl rfl rfl rfl (PV.loadA T.ag237 rfl hb16.cells (Ext.refl _) rfl) ?_
        refine WL.pureG rfl rfl rfl rfl rfl (PV.lookSet (a := (_, _, _)) (key3 T.s3237) Try.underlying239 T.zv4 rfl rfl hb3) ?_
        refine WL.pureG rfl rfl rfl rfl rfl (PV.not rfl) ?_
        refine WL.pure rfl rfl rfl (PV.pickT rfl rfl) ?_
        refine WL.nilS ?_
        refine CW.cond rfl (fun hc13 => ?_) (fun hc13 => ?_)
        · skip
          try simp only [nq] at hc13
          refine CW.seq ?_
          refine CW.reg ?_
          refine WL.mv rfl rfl ?_
          refine WL.pure rfl rfl rfl (PV.loadA T.ag237 rfl hb16.cells (Ext.refl _) rfl) ?_
          refine WL.op rfl (OpK.put (a := (_, _, _)) (c := true) (key3 T.s3237) Try.underlying239 rfl rfl rfl hb3 (by rw [mpGet_set, if_neg (by assumption)]) (fun w22 hXw22 hb3 => ?_))
          have hB := hB.updL hXw22 hl3
          have hb1 := hb1.updD hXw22 hd1_3
          have hb6 := hb6.updD hXw22 (Dj.symm hd3_6)
          have ho13 := ho13.updD hXw22 (Dj.symm hd3_13)
          have hb15 := hb15.updD hXw22 (Dj.symm hd3_15)
          have hb16 := hb16.updD hXw22 (Dj.symm hd3_16)
          have hU0 := hU0.step hXw22 hk0_3
          have hU1 := hU1.step hXw22 hk1_3
          refine WL.nilS ?_
          refine CW.reg ?_
          refine WL.mv rfl rfl ?_
          refine WL.pure rfl rfl rfl (PV.loadA T.ag237 rfl hb16.cells (Ext.refl _) rfl) ?_
          refine WL.op rfl (OpK.buildN (g := g3) (os := [.tmp 103]) [(_, _, _)] g3_ok rfl T.sl238 rfl rfl T.zv237 rfl rfl (fun v17 g17 w23 hXw23 ho17 hge17 => ?_))
          have hl17 := Lo.new hB hge17
          have hd1_17 := Dj.new hb1.ltO hge17
          have hd3_17 := Dj.new hb3.ltO hge17
          have hd6_17 := Dj.new hb6.ltO hge17
          have hd13_17 := Dj.new ho13.ltO hge17
          have hd15_17 := Dj.new hb15.ltO hge17
          have hd16_17 := Dj.new hb16.ltO hge17
          have hk0_17 := OkN.new hU0 hge17
          have hg0_17 := OgR.new hU0.size hge17
          have hk1_17 := OkN.new hU1 hge17
          have hg1_17 := OgR.new hU1.size hge17
          have hB := hB.trans hXw23
          have hb1 := hb1.up hXw23
          have hb3 := hb3.up hXw23
          have hb6 := hb6.up hXw23
          have ho13 := ho13.up hXw23
          have hb15 := hb15.up hXw23
          have hb16 := hb16.up hXw23
          have hU0 := hU0.ext hXw23
          have hU1 := hU1.ext hXw23
          refine WL.op rfl (OpK.appendN (g := g3) rfl T.sl238 T.zv237 rfl rfl ho13 rfl (Osn.src ho17) (by first | (simp only [List.length_cons, List.length_nil]; omega) | (omega)) (fun v18 og18 w24 hXw24 ho18 hap18 => ?_))
          have hl18 := Lo.app hl13 hB hap18
          have hd1_18 := Dj.app hd1_13 hb1.ltO hap18
          have hd3_18 := Dj.app hd3_13 hb3.ltO hap18
          have hd6_18 := Dj.app hd6_13 hb6.ltO hap18
          have hd15_18 := Dj.app (Dj.symm hd13_15) hb15.ltO hap18
          have hd16_18 := Dj.app (Dj.symm hd13_16) hb16.ltO hap18
          have hd17_18 := Dj.app (Dj.symm hd13_17) ho17.ltO hap18
          have hk0_18 := OkN.app hU0 hk0_13 hap18
          have hg0_18 := OgR.app hg0_13 hU0.size hap18
          have hk1_18 := OkN.app hU1 hk1_13 hap18
          have hg1_18 := OgR.app hg1_13 hU1.size hap18
          have hB := hB.updL hXw24 hl13
          have hb1 := hb1.updD hXw24 hd1_13
          have hb3 := hb3.updD hXw24 hd3_13
          have hb6 := hb6.updD hXw24 hd6_13
          have hb15 := hb15.updD hXw24 (Dj.symm hd13_15)
          have hb16 := hb16.updD hXw24 (Dj.symm hd13_16)
          have ho17 := ho17.updD hXw24 (Dj.symm hd13_17)
          have hU0 := hU0.step hXw24 hk0_13
          have hU1 := hU1.step hXw24 hk1_13
          refine WL.asg rfl rfl ?_
          refine WL.nil ?_
          refine NQ.block ?_
          refine NQ.then ?_
          refine CW.reg ?_
          refine WL.pure rfl rfl rfl (PV.add rfl rfl (by constructor <;> omega)) ?_
          refine WL.mv rfl rfl ?_
          refine WL.nil ?_
          refine NQ.next (ρ := [(7, _), (56, _)]) ⟨rfl, rfl, rfl, rfl, rfl, rfl, rfl, rfl, rfl, rfl, trivial⟩ ?_
          exact ⟨_, ⟨v18, og18, k + 1, xs ++ [nxtP p (xa2.getD k z4)], rfl, rfl, hU1, osnE ho18 (by rfl), (by first | exact hg1_18 | exact OgR.weak hg1_18), mpE hb3 (by first | rfl | (rw [List.map_append]; rfl)), (by first | omega | assumption | (simp_all; done) | (simp_all; omega)), (by first | exact hBA.put (by omega) (nxt_y (by assumption) (by assumption) (by assumption)) (by assumption) | exact hBA.old (by assumption) | exact hBA.no (by first | exact nxt_n1 (by assumption) | exact nxt_n2 (by assumption) | exact nxt_n3 (by assumption)))⟩, by omega⟩
        try simp only [nq] at hc13
        refine CW.skip ?_
        refine NQ.block ?_
        refine NQ.then ?_
        refine CW.reg ?_
        refine WL.pure rfl rfl rfl (PV.add rfl rfl (by constructor <;> omega)) ?_
        refine WL.mv rfl rfl ?_
        refine WL.nil ?_
        refine NQ.next (ρ := [(7, _), (56, _)]) ⟨rfl, rfl, rfl, rfl, rfl, rfl, rfl, rfl, rfl, rfl, trivial⟩ ?_
        exact ⟨_, ⟨v13, og13, k + 1, _, rfl, rfl, hU1, osnE ho13 (by rfl), (by first | exact hg1_13 | exact OgR.weak hg1_13), mpE hb3 (by first | rfl | (rw [List.map_append]; rfl)), (by first | omega | assumption | (simp_all; done) | (simp_all; omega)), (by first | exact hBA.put (by omega) (nxt_y (by assumption) (by assumption) (by assumption)) (by assumption) | exact hBA.old (by assumption) | exact hBA.no (by first | exact nxt_n1 (by assumption) | exact nxt_n2 (by assumption) | exact nxt_n3 (by assumption)))⟩, by omega⟩
      try simp only [nq] at hc9
      refine CW.exit ?_
      refine XQ.then ?_
      refine XQ.then ?_
      refine XQ.here ?_
      refine NQ.block ?_
      refine NQ.then ?_
      refine CW.reg ?_
      refine WL.mv rfl rfl ?_
      refine WL.pure rfl rfl rfl (PV.add rfl rfl (by constructor <;> omega)) ?_
      refine WL.asg rfl rfl ?_
      refine WL.nil ?_
      refine NQ.next (ρ := [(7, _), (9, _)]) ⟨rfl, rfl, rfl, rfl, rfl, rfl, trivial⟩ ?_
      exact ⟨_, ⟨v13, og13, at_ + 1, _, rfl, rfl, hU0, osnE ho13 (by rfl), (by first | exact hg0_13 | exact OgR.weak hg0_13), mpE hb3 (by rfl), (by exact hBA.done (by omega))⟩, by (have := hBA.lt; omega)⟩
    try simp only [nq] at hc8
    refine WL.pureG rfl rfl rfl rfl rfl (PV.fieldAddr T.fl88_3 rfl hb1.cells) ?_
    refine WL.pureG rfl rfl rfl rfl rfl (PV.load1 T.na62 rfl hb1.cells (Ext.refl _) rfl) ?_
    refine WL.pureG rfl rfl rfl rfl rfl (PV.fieldAddr T.fl237_2 rfl hb6.cells) ?_
    refine WL.pureG rfl rfl rfl rfl rfl (PV.load1 T.na2 rfl hb6.cells (Ext.refl _) rfl) ?_
    first
      | refine WL.at (x := .tmp 47) (y := .tmp 49) (E := EB) (false) rfl rfl (by first | assumption | exact Inn.rd (by assumption) (by omega)) (by first | omega | (simp only [List.length_set]; omega) | (simp only [List.length_append, List.length_take, List.length_replicate, List.length_drop]; omega)) (fun p4 csp4 hpp4 hcp4 hq => ?_)
      | refine WL.atZ (x := .tmp 47) (y := .tmp 49) (E := EB) (false) rfl rfl (by first | assumption | exact Inn.rd (by assumption) (by omega)) (by first | omega | (simp only [List.length_set]; omega) | (simp only [List.length_append, List.length_take, List.length_replicate, List.length_drop]; omega)) (fun p4 csp4 hpp4 hzp4 hcp4 hq => ?_)
    cases hq
    refine WL.pureG rfl rfl rfl rfl rfl ((by first | exact PV.indexAddr hpp4 rfl rfl T.sl62 | exact PV.indexAddr hpp4 rfl (by rw [← hzp4]; rfl) T.sl62)) ?_
    refine WL.pureG rfl rfl rfl rfl rfl ((by first | exact PV.load0 T.na4 rfl (by first | exact Cells.up (by assumption) hB | exact Bx.cells (by assumption) | assumption) (Ext.refl _) rfl | exact PV.load1 T.na4 rfl (by first | exact Cells.up (by assumption) hB | exact Bx.cells (by assumption) | assumption) (Ext.refl _) rfl)) ?_
    refine WL.pure rfl rfl rfl (PV.pickT rfl rfl) ?_
    refine WL.nilS ?_
    refine CW.cond rfl (fun hc14 => ?_) (fun hc14 => ?_)
    · skip
      try simp only [nq] at hc14
      refine CW.seq ?_
      refine CW.reg ?_
      refine WL.asg rfl rfl ?_
      refine WL.nilS ?_
      refine CW.ret ?_
      refine RQ.then ?_
      refine RQ.block ?_
      refine RQ.then ?_
      refine RQ.then ?_
      refine RQ.block ?_
      refine RQ.then ?_
      refine RQ.r1 rfl ?_
      refine ⟨?_, hB⟩
      first | exact bE (hBI.found (by omega) (by rw [hp]; exact (fin_y (by assumption) (by assumption) (by assumption)))) | exact bE (hBI.fail (by omega))
    try simp only [nq] at hc14
    refine CW.skipS ?_
    refine CW.seq ?_
    refine CW.reg ?_
    refine WL.pure rfl rfl rfl (PV.fieldAddr T.fl88_2 rfl hb1.cells) ?_
    refine WL.pure rfl rfl rfl (PV.load1 T.na86 rfl hb1.cells (Ext.refl _) rfl) ?_
    refine WL.pure rfl rfl rfl ((by first | exact PV.len rfl (by assumption) T.sl86 | exact PV.lenOs rfl (by assumption) T.sl86 | exact PV.len rfl (NL.rd (by assumption)) T.sl86 | exact PV.len rfl (Inn.rd (by assumption) (by omega)) T.sl86)) ?_
    refine WL.mv rfl rfl ?_
    refine WL.nilS ?_
    refine CW.block ?_
    have hlt1 := hb1.ltO
    have hlt3 := hb3.ltO
    have hlt4 := ho4.ltO
    have hlt6 := hb6.ltO
    refine CW.loop (σk := [(1, _), (2, _), (3, _), (8, _), (9, _), (10, _), (54, _), (55, _)]) (fun ρ wz m => ∃ (v19 : Value) (og19 : Option Nat) (k : Nat) (xs : List P3), ρ = [(7, v19), (56, .int .i64 (k : Nat))] ∧ m = xa2.length - k ∧ UpdL [og4, (some b3.block)] w6 wz ∧ Osn 3 g3 wz og19 v19 (xs) ∧ OgR w6 og4 og19 ∧ Mp wz b3 VP3 (fun b : Bool => Value.bool b) (xs.map fun x => (x, true)) ∧ (k ≤ xa2.length) ∧ (BA xa2 ins outs xa3 at_ p k xs)) (ρ₀ := [(7, _), (56, _)]) (m₀ := _) ⟨rfl, rfl, rfl, rfl, rfl, rfl, rfl, rfl, rfl, rfl, trivial⟩ ⟨v4, og4, 0, _, rfl, rfl, (UpdL.refl _ _), osnE ho4 (by rfl), OgR.refl _ _, mpE hb3 (by rfl), (by first | omega | rfl | (simp; done) | assumption | (simp_all; done)), (by exact hBI.arc (by omega) hp (by first | exact fin_n1 (by assumption) | exact fin_n2 (by assumption) | exact fin_n3 (by assumption)))⟩ ?_
    rintro _ wl4 _ ⟨v19, og19, k, xs, rfl, rfl, hU1, ho19, ha19, hb3, hk, hBA⟩
    have hU0 := hU0.trans hU1 ⟨hk0_4, hk0_3, trivial⟩
    have hb1 := hb1.loop hU1 ⟨hd1_4, hd1_3, trivial⟩
    have hb6 := hb6.loop hU1 ⟨(Dj.symm hd4_6), (Dj.symm hd3_6), trivial⟩
    have hl19 := Lo.ogr hl4 hB ha19
    have hg1_19 := ha19
    have hk1_19 : OkB [og4, (some b3.block)] w6 og19 := OkB.ogr (OkB.mem (by simp)) (Nat.le_refl _) ha19
    have hk0_19 := OkB.ogr hk0_4 (by first | assumption | exact UpdL.size (by assumption)) ha19
    have hg0_19 := OgR.trans hg0_4 (by first | assumption | exact UpdL.size (by assumption)) ha19
    have hd1_19 := Dj.ogr hd1_4 hlt1 ha19
    have hd3_19 := Dj.ogr hd3_4 hlt3 ha19
    have hd6_19 := Dj.ogr (Dj.symm hd4_6) hlt6 ha19
    have hk1_3 : OkB [og4, (some b3.block)] w6 (some b3.block) := OkB.mem (by simp)
    have hB := hB.loop hU1 ⟨hl4, hl3, trivial⟩
    have hsm := hBA.bi.small hv hi12 ho12
    refine CW.seq ?_
    refine CW.reg ?_
    refine WL.pure rfl rfl rfl (PV.lss rfl rfl) ?_
    refine WL.nilS ?_
    refine CW.seq ?_
    refine CW.cond rfl (fun hc15 => ?_) (fun hc15 => ?_)
    · skip
      try simp only [nq] at hc15
      refine CW.skipS ?_
      refine CW.seq ?_
      refine CW.block ?_
      refine CW.seq ?_
      refine CW.reg ?_
      first
        | refine WL.at (x := .tmp 54) (y := .tmp 56) (E := ER) ((0, 0, 0, 0)) rfl rfl (by first | assumption | exact Inn.rd (by assumption) (by omega)) (by first | omega | (simp only [List.length_set]; omega) | (simp only [List.length_append, List.length_take, List.length_replicate, List.length_drop]; omega)) (fun p5 csp5 hpp5 hcp5 hq => ?_)
        | refine WL.atZ (x := .tmp 54) (y := .tmp 56) (E := ER) ((0, 0, 0, 0)) rfl rfl (by first | assumption | exact Inn.rd (by assumption) (by omega)) (by first | omega | (simp only [List.length_set]; omega) | (simp only [List.length_append, List.length_take, List.length_replicate, List.length_drop]; omega)) (fun p5 csp5 hpp5 hzp5 hcp5 hq => ?_)
      cases hq
      refine WL.pure rfl rfl rfl ((by first | exact PV.indexAddr hpp5 rfl rfl T.sl86 | exact PV.indexAddr hpp5 rfl (by rw [← hzp5]; rfl) T.sl86)) ?_
      refine WL.pure rfl rfl rfl ((by first | exact PV.loadA T.ag178 rfl (by first | exact Cells.up (by assumption) hB | exact Bx.cells (by assumption) | assumption) (Ext.refl _) rfl | exact PV.loadP (ds := [_, _, _, _]) T.ag178 rfl (by first | exact Cells.up (by assumption) hB | exact Bx.cells (by assumption) | assumption) (Ext.refl _) rfl rfl)) ?_
      refine WL.op rfl (OpK.alloc rfl T.zv178 rfl (fun b21 w25 hXw25 hb21 hge21 => ?_))
      have hl21 := Lo.new hB hge21
      have hd1_21 := Dj.new hb1.ltO hge21
      have hd3_21 := Dj.new hb3.ltO hge21
      have hd6_21 := Dj.new hb6.ltO hge21
      have hd19_21 := Dj.new ho19.ltO hge21
      have hk0_21 := OkN.new hU0 hge21
      have hg0_21 := OgR.new hU0.size hge21
      have hk1_21 := OkN.new hU1 hge21
      have hg1_21 := OgR.new hU1.size hge21
      have hB := hB.trans hXw25
      have hb1 := hb1.up hXw25
      have hb3 := hb3.up hXw25
      have hb6 := hb6.up hXw25
      have ho19 := ho19.up hXw25
      have hU0 := hU0.ext hXw25
      have hU1 := hU1.ext hXw25
      refine WL.op rfl (OpK.storeA T.sz178 rfl rfl rfl rfl (by simp [Value.oneCell'] <;> first | done | (repeat' apply And.intro) <;> first | rfl | exact Inn.one1 (by assumption) (by omega) | exact Osl.oneCell (by assumption) | exact Osn.oneCell (by assumption) | exact Rd.oneCell (by assumption) | exact Rd.oneCell (NL.rd (by assumption)) | assumption) hb21 (fun w26 hXw26 hb21 => ?_))
      have hB := hB.updL hXw26 hl21
      have hb1 := hb1.updD hXw26 hd1_21
      have hb3 := hb3.updD hXw26 hd3_21
      have hb6 := hb6.updD hXw26 hd6_21
      have ho19 := ho19.updD hXw26 hd19_21
      have hU0 := hU0.step hXw26 hk0_21
      have hU1 := hU1.step hXw26 hk1_21
      refine WL.nilS ?_
      refine CW.seq ?_
      refine CW.reg ?_
      refine WL.mv rfl rfl ?_
      refine WL.pure rfl rfl rfl (PV.fieldAddr T.fl237_0 rfl hb6.cells) ?_
      refine WL.pure rfl rfl rfl (PV.load1 T.na3 rfl hb6.cells (Ext.refl _) rfl) ?_
      refine WL.pure rfl rfl rfl (PV.fieldAddr T.fl178_2 rfl hb21.cells) ?_
      refine WL.pure rfl rfl rfl (PV.load1 T.na2 rfl hb21.cells (Ext.refl _) rfl) ?_
      refine WL.op rfl (OpK.callR rfl T.cf207 rfl (c_impl_pass (by first | assumption | exact Rd.up (by assumption) hB | exact Osl.rd (by assumption) | exact Osn.rdR (by assumption) | exact NL.rd (by assumption) | exact rdII (by assumption) (by assumption) | exact Inn.rd (by assumption) (by omega)) (by first | assumption | omega | (simp only [marks_len, marksB_len, marksR_len, sumL_marksS]; omega))) (fun w27 hXw27 => ?_))
      have hB := hB.trans hXw27
      have hb1 := hb1.up hXw27
      have hb3 := hb3.up hXw27
      have hb6 := hb6.up hXw27
      have ho19 := ho19.up hXw27
      have hb21 := hb21.up hXw27
      have hU0 := hU0.ext hXw27
      have hU1 := hU1.ext hXw27
      refine WL.mv rfl rfl ?_
      refine WL.pure rfl rfl rfl (PV.extract rfl rfl) ?_
      refine WL.pure rfl rfl rfl (PV.extract rfl rfl) ?_
      refine WL.asg rfl rfl ?_
      refine WL.asg rfl rfl ?_
      refine WL.nilS ?_
      refine CW.seq ?_
      refine CW.reg ?_
      refine WL.mv rfl rfl ?_
      refine WL.pure rfl rfl rfl (PV.fieldAddr T.fl237_1 rfl hb6.cells) ?_
      refine WL.pure rfl rfl rfl (PV.load1 T.na3 rfl hb6.cells (Ext.refl _) rfl) ?_
      refine WL.pure rfl rfl rfl (PV.fieldAddr T.fl178_3 rfl hb21.cells) ?_
      refine WL.pure rfl rfl rfl (PV.load1 T.na2 rfl hb21.cells (Ext.refl _) rfl) ?_
      refine WL.op rfl (OpK.callR rfl T.cf207 rfl (c_impl_pass (by first | assumption | exact Rd.up (by assumption) hB | exact Osl.rd (by assumption) | exact Osn.rdR (by assumption) | exact NL.rd (by assumption) | exact rdII (by assumption) (by assumption) | exact Inn.rd (by assumption) (by omega)) (by first | assumption | omega | (simp only [marks_len, marksB_len, marksR_len, sumL_marksS]; omega))) (fun w28 hXw28 => ?_))
      have hB := hB.trans hXw28
      have hb1 := hb1.up hXw28
      have hb3 := hb3.up hXw28
      have hb6 := hb6.up hXw28
      have ho19 := ho19.up hXw28
      have hb21 := hb21.up hXw28
      have hU0 := hU0.ext hXw28
      have hU1 := hU1.ext hXw28
      refine WL.mv rfl rfl ?_
      refine WL.pure rfl rfl rfl (PV.extract rfl rfl) ?_
      refine WL.pure rfl rfl rfl (PV.extract rfl rfl) ?_
      refine WL.asg rfl rfl ?_
      refine WL.asg rfl rfl ?_
      refine WL.nilS ?_
      refine CW.seq ?_
      refine CW.reg ?_
      refine WL.mv rfl rfl ?_
      refine WL.mv rfl rfl ?_
      refine WL.pure rfl rfl rfl (PV.fieldAddr T.fl178_1 rfl hb21.cells) ?_
      refine WL.pure rfl rfl rfl (PV.load1 T.na2 rfl hb21.cells (Ext.refl _) rfl) ?_
      refine WL.pure rfl rfl rfl (PV.build (ks := [0, 1, 2]) (os := [.tmp 78, .tmp 79, .tmp 81]) (css := [[_], [_], [_]]) (ds := [_, _, _]) T.bu237 rfl rfl ⟨rfl, rfl, rfl, trivial⟩ rfl) ?_
      refine WL.op rfl (OpK.alloc rfl T.zv237 rfl (fun b22 w29 hXw29 hb22 hge22 => ?_))
      have hl22 := Lo.new hB hge22
      have hd1_22 := Dj.new hb1.ltO hge22
      have hd3_22 := Dj.new hb3.ltO hge22
      have hd6_22 := Dj.new hb6.ltO hge22
      have hd19_22 := Dj.new ho19.ltO hge22
      have hd21_22 := Dj.new hb21.ltO hge22
      have hk0_22 := OkN.new hU0 hge22
      have hg0_22 := OgR.new hU0.size hge22
      have hk1_22 := OkN.new hU1 hge22
      have hg1_22 := OgR.new hU1.size hge22
      have hB := hB.trans hXw29
      have hb1 := hb1.up hXw29
      have hb3 := hb3.up hXw29
      have hb6 := hb6.up hXw29
      have ho19 := ho19.up hXw29
      have hb21 := hb21.up hXw29
      have hU0 := hU0.ext hXw29
      have hU1 := hU1.ext hXw29
      refine WL.op rfl (OpK.storeA T.sz237 rfl rfl rfl rfl (by simp [Value.oneCell'] <;> first | done | (repeat' apply And.intro) <;> first | rfl | exact Inn.one1 (by assumption) (by omega) | exact Osl.oneCell (by assumption) | exact Osn.oneCell (by assumption) | exact Rd.oneCell (by assumption) | exact Rd.oneCell (NL.rd (by assumption)) | assumption) hb22 (fun w30 hXw30 hb22 => ?_))
      have hB := hB.updL hXw30 hl22
      have hb1 := hb1.updD hXw30 hd1_22
      have hb3 := hb3.updD hXw30 hd3_22
      have hb6 := hb6.updD hXw30 hd6_22
      have ho19 := ho19.updD hXw30 hd19_22
      have hb21 := hb21.updD hXw30 hd21_22
      have hU0 := hU0.step hXw30 hk0_22
      have hU1 := hU1.step hXw30 hk1_22
      refine WL.nilS ?_
      refine CW.seq ?_
      refine CW.reg ?_
      refine WL.pure rfl rfl rfl (PV.fieldAddr T.fl178_0 rfl hb21.cells) ?_
      refine WL.pure rfl rfl rfl (PV.load1 T.na2 rfl hb21.cells (Ext.refl _) rfl) ?_
      refine WL.pure rfl rfl rfl (PV.fieldAddr T.fl237_2 rfl hb6.cells) ?_
      refine WL.pure rfl rfl rfl (PV.load1 T.na2 rfl hb6.cells (Ext.refl _) rfl) ?_
      refine WL.pure rfl rfl rfl (PV.eql rfl rfl) ?_
      refine WL.mv rfl rfl ?_
      refine WL.split (t := 88) rfl (fun hc16 => ?_) (fun hc16 => ?_)
      rotate_left
      · skip
        try simp only [nq] at hc16
        refine WL.skip rfl rfl rfl rfl rfl ?_
        refine WL.pure rfl rfl rfl (PV.pickF rfl rfl) ?_
        refine WL.mv rfl rfl ?_
        refine WL.skip rfl rfl rfl rfl rfl ?_
        refine WL.pure rfl rfl rfl (PV.pickF rfl rfl) ?_
        refine WL.mv rfl rfl ?_
        refine WL.skip rfl rfl rfl rfl rfl ?_
        refine WL.skip rfl rfl rfl rfl rfl ?_
        refine WL.skip rfl rfl rfl rfl rfl ?_
        refine WL.skip rfl rfl rfl rfl rfl ?_
        refine WL.pure rfl rfl rfl (PV.pickF rfl rfl) ?_
        refine WL.nilS ?_
        refine CW.condF rfl ?_
        refine CW.skip ?_
        refine NQ.block ?_
        refine NQ.then ?_
        refine CW.reg ?_
        refine WL.pure rfl rfl rfl (PV.add rfl rfl (by constructor <;> omega)) ?_
        refine WL.mv rfl rfl ?_
        refine WL.nil ?_
        refine NQ.next (ρ := [(7, _), (56, _)]) ⟨rfl, rfl, rfl, rfl, rfl, rfl, rfl, rfl, rfl, rfl, trivial⟩ ?_
        exact ⟨_, ⟨v19, og19, k + 1, _, rfl, rfl, hU1, osnE ho19 (by rfl), (by first | exact hg1_19 | exact OgR.weak hg1_19), mpE hb3 (by first | rfl | (rw [List.map_append]; rfl)), (by first | omega | assumption | (simp_all; done) | (simp_all; omega)), (by first | exact hBA.put (by omega) (nxt_y (by assumption) (by assumption) (by assumption)) (by assumption) | exact hBA.old (by assumption) | exact hBA.no (by first | exact nxt_n1 (by assumption) | exact nxt_n2 (by assumption) | exact nxt_n3 (by assumption)))⟩, by omega⟩
      try simp only [nq] at hc16
      refine WL.pureG rfl rfl rfl rfl rfl (PV.move rfl) ?_
      refine WL.pure rfl rfl rfl (PV.pickT rfl rfl) ?_
      refine WL.mv rfl rfl ?_
      refine WL.split (t := 91) rfl (fun hc17 => ?_) (fun hc17 => ?_)
      rotate_left
      · skip
        try simp only [nq] at hc17
        refine WL.skip rfl rfl rfl rfl rfl ?_
        refine WL.pure rfl rfl rfl (PV.pickF rfl rfl) ?_
        refine WL.mv rfl rfl ?_
        refine WL.skip rfl rfl rfl rfl rfl ?_
        refine WL.skip rfl rfl rfl rfl rfl ?_
        refine WL.skip rfl rfl rfl rfl rfl ?_
        refine WL.skip rfl rfl rfl rfl rfl ?_
        refine WL.pure rfl rfl rfl (PV.pickF rfl rfl) ?_
        refine WL.nilS ?_
        refine CW.condF rfl ?_
        refine CW.skip ?_
        refine NQ.block ?_
        refine NQ.then ?_
        refine CW.reg ?_
        refine WL.pure rfl rfl rfl (PV.add rfl rfl (by constructor <;> omega)) ?_
        refine WL.mv rfl rfl ?_
        refine WL.nil ?_
        refine NQ.next (ρ := [(7, _), (56, _)]) ⟨rfl, rfl, rfl, rfl, rfl, rfl, rfl, rfl, rfl, rfl, trivial⟩ ?_
        exact ⟨_, ⟨v19, og19, k + 1, _, rfl, rfl, hU1, osnE ho19 (by rfl), (by first | exact hg1_19 | exact OgR.weak hg1_19), mpE hb3 (by first | rfl | (rw [List.map_append]; rfl)), (by first | omega | assumption | (simp_all; done) | (simp_all; omega)), (by first | exact hBA.put (by omega) (nxt_y (by assumption) (by assumption) (by assumption)) (by assumption) | exact hBA.old (by assumption) | exact hBA.no (by first | exact nxt_n1 (by assumption) | exact nxt_n2 (by assumption) | exact nxt_n3 (by assumption)))⟩, by omega⟩
      try simp only [nq] at hc17
      refine WL.pureG rfl rfl rfl rfl rfl (PV.move rfl) ?_
      refine WL.pure rfl rfl rfl (PV.pickT rfl rfl) ?_
      refine WL.mv rfl rfl ?_
      refine WL.split (t := 94) rfl (fun hc18 => ?_) (fun hc18 => ?_)
      rotate_left
      · skip
        try simp only [nq] at hc18
        refine WL.skip rfl rfl rfl rfl rfl ?_
        refine WL.skip rfl rfl rfl rfl rfl ?_
        refine WL.skip rfl rfl rfl rfl rfl ?_
        refine WL.skip rfl rfl rfl rfl rfl ?_
        refine WL.pure rfl rfl rfl (PV.pickF rfl rfl) ?_
        refine WL.nilS ?_
        refine CW.condF rfl ?_
        refine CW.skip ?_
        refine NQ.block ?_
        refine NQ.then ?_
        refine CW.reg ?_
        refine WL.pure rfl rfl rfl (PV.add rfl rfl (by constructor <;> omega)) ?_
        refine WL.mv rfl rfl ?_
        refine WL.nil ?_
        refine NQ.next (ρ := [(7, _), (56, _)]) ⟨rfl, rfl, rfl, rfl, rfl, rfl, rfl, rfl, rfl, rfl, trivial⟩ ?_
        exact ⟨_, ⟨v19, og19, k + 1, _, rfl, rfl, hU1, osnE ho19 (by rfl), (by first | exact hg1_19 | exact OgR.weak hg1_19), mpE hb3 (by first | rfl | (rw [List.map_append]; rfl)), (by first | omega | assumption | (simp_all; done) | (simp_all; omega)), (by first | exact hBA.put (by omega) (nxt_y (by assumption) (by assumption) (by assumption)) (by assumption) | exact hBA.old (by assumption) | exact hBA.no (by first | exact nxt_n1 (by assumption) | exact nxt_n2 (by assumption) | exact nxt_n3 (by assumption)))⟩, by omega⟩
      try simp only [nq] at hc18
      refine WL.pureG rfl rfl rfl rfl rfl (PV.move rfl) ?_
      refine WL.pureG rfl rfl rfl rfl rfl (PV.loadA T.ag237 rfl hb22.cells (Ext.refl _) rfl) ?_
      refine WL.pureG rfl rfl rfl rfl rfl (PV.lookSet (a := (_, _, _)) (key3 T.s3237) Try.underlying239 T.zv4 rfl rfl hb3) ?_
      refine WL.pureG rfl rfl rfl rfl rfl (PV.not rfl) ?_
      refine WL.pure rfl rfl rfl (PV.pickT rfl rfl) ?_
      refine WL.nilS ?_
      refine CW.cond rfl (fun hc19 => ?_) (fun hc19 => ?_)
      · skip
        try simp only [nq] at hc19
        refine CW.seq ?_
        refine CW.reg ?_
        refine WL.mv rfl rfl ?_
        refine WL.pure rfl rfl rfl (PV.loadA T.ag237 rfl hb22.cells (Ext.refl _) rfl) ?_
        refine WL.op rfl (OpK.put (a := (_, _, _)) (c := true) (key3 T.s3237) Try.underlying239 rfl rfl rfl hb3 (by rw [mpGet_set, if_neg (by assumption)]) (fun w31 hXw31 hb3 => ?_))
        have hB := hB.updL hXw31 hl3
        have hb1 := hb1.updD hXw31 hd1_3
        have hb6 := hb6.updD hXw31 (Dj.symm hd3_6)
        have ho19 := ho19.updD hXw31 (Dj.symm hd3_19)
        have hb21 := hb21.updD hXw31 (Dj.symm hd3_21)
        have hb22 := hb22.updD hXw31 (Dj.symm hd3_22)
        have hU0 := hU0.step hXw31 hk0_3
        have hU1 := hU1.step hXw31 hk1_3
        refine WL.nilS ?_
        refine CW.reg ?_
        refine WL.mv rfl rfl ?_
        refine WL.pure rfl rfl rfl (PV.loadA T.ag237 rfl hb22.cells (Ext.refl _) rfl) ?_
        refine WL.op rfl (OpK.buildN (g := g3) (os := [.tmp 103]) [(_, _, _)] g3_ok rfl T.sl238 rfl rfl T.zv237 rfl rfl (fun v23 g23 w32 hXw32 ho23 hge23 => ?_))
        have hl23 := Lo.new hB hge23
        have hd1_23 := Dj.new hb1.ltO hge23
        have hd3_23 := Dj.new hb3.ltO hge23
        have hd6_23 := Dj.new hb6.ltO hge23
        have hd19_23 := Dj.new ho19.ltO hge23
        have hd21_23 := Dj.new hb21.ltO hge23
        have hd22_23 := Dj.new hb22.ltO hge23
        have hk0_23 := OkN.new hU0 hge23
        have hg0_23 := OgR.new hU0.size hge23
        have hk1_23 := OkN.new hU1 hge23
        have hg1_23 := OgR.new hU1.size hge23
        have hB := hB.trans hXw32
        have hb1 := hb1.up hXw32
        have hb3 := hb3.up hXw32
        have hb6 := hb6.up hXw32
        have ho19 := ho19.up hXw32
        have hb21 := hb21.up hXw32
        have hb22 := hb22.up hXw32
        have hU0 := hU0.ext hXw32
        have hU1 := hU1.ext hXw32
        refine WL.op rfl (OpK.appendN (g := g3) rfl T.sl238 T.zv237 rfl rfl ho19 rfl (Osn.src ho23) (by first | (simp only [List.length_cons, List.length_nil]; omega) | (omega)) (fun v24 og24 w33 hXw33 ho24 hap24 => ?_))
        have hl24 := Lo.app hl19 hB hap24
        have hd1_24 := Dj.app hd1_19 hb1.ltO hap24
        have hd3_24 := Dj.app hd3_19 hb3.ltO hap24
        have hd6_24 := Dj.app hd6_19 hb6.ltO hap24
        have hd21_24 := Dj.app (Dj.symm hd19_21) hb21.ltO hap24
        have hd22_24 := Dj.app (Dj.symm hd19_22) hb22.ltO hap24
        have hd23_24 := Dj.app (Dj.symm hd19_23) ho23.ltO hap24
        have hk0_24 := OkN.app hU0 hk0_19 hap24
        have hg0_24 := OgR.app hg0_19 hU0.size hap24
        have hk1_24 := OkN.app hU1 hk1_19 hap24
        have hg1_24 := OgR.app hg1_19 hU1.size hap24
        have hB := hB.updL hXw33 hl19
        have hb1 := hb1.updD hXw33 hd1_19
        have hb3 := hb3.updD hXw33 hd3_19
        have hb6 := hb6.updD hXw33 hd6_19
        have hb21 := hb21.updD hXw33 (Dj.symm hd19_21)
        have hb22 := hb22.updD hXw33 (Dj.symm hd19_22)
        have ho23 := ho23.updD hXw33 (Dj.symm hd19_23)
        have hU0 := hU0.step hXw33 hk0_19
        have hU1 := hU1.step hXw33 hk1_19
        refine WL.asg rfl rfl ?_
        refine WL.nil ?_
        refine NQ.block ?_
        refine NQ.then ?_
        refine CW.reg ?_
        refine WL.pure rfl rfl rfl (PV.add rfl rfl (by constructor <;> omega)) ?_
        refine WL.mv rfl rfl ?_
        refine WL.nil ?_
        refine NQ.next (ρ := [(7, _), (56, _)]) ⟨rfl, rfl, rfl, rfl, rfl, rfl, rfl, rfl, rfl, rfl, trivial⟩ ?_
        exact ⟨_, ⟨v24, og24, k + 1, xs ++ [nxtP p (xa2.getD k z4)], rfl, rfl, hU1, osnE ho24 (by rfl), (by first | exact hg1_24 | exact OgR.weak hg1_24), mpE hb3 (by first | rfl | (rw [List.map_append]; rfl)), (by first | omega | assumption | (simp_all; done) | (simp_all; omega)), (by first | exact hBA.put (by omega) (nxt_y (by assumption) (by assumption) (by assumption)) (by assumption) | exact hBA.old (by assumption) | exact hBA.no (by first | exact nxt_n1 (by assumption) | exact nxt_n2 (by assumption) | exact nxt_n3 (by assumption)))⟩, by omega⟩
      try simp only [nq] at hc19
      refine CW.skip ?_
      refine NQ.block ?_
      refine NQ.then ?_
      refine CW.reg ?_
      refine WL.pure rfl rfl rfl (PV.add rfl rfl (by constructor <;> omega)) ?_
      refine WL.mv rfl rfl ?_
      refine WL.nil ?_
      refine NQ.next (ρ := [(7, _), (56, _)]) ⟨rfl, rfl, rfl, rfl, rfl, rfl, rfl, rfl, rfl, rfl, trivial⟩ ?_
      exact ⟨_, ⟨v19, og19, k + 1, _, rfl, rfl, hU1, osnE ho19 (by rfl), (by first | exact hg1_19 | exact OgR.weak hg1_19), mpE hb3 (by first | rfl | (rw [List.map_append]; rfl)), (by first | omega | assumption | (simp_all; done) | (simp_all; omega)), (by first | exact hBA.put (by omega) (nxt_y (by assumption) (by assumption) (by assumption)) (by assumption) | exact hBA.old (by assumption) | exact hBA.no (by first | exact nxt_n1 (by assumption) | exact nxt_n2 (by assumption) | exact nxt_n3 (by assumption)))⟩, by omega⟩
    try simp only [nq] at hc15
    refine CW.exit ?_
    refine XQ.then ?_
    refine XQ.then ?_
    refine XQ.here ?_
    refine NQ.block ?_
    refine NQ.then ?_
    refine CW.reg ?_
    refine WL.mv rfl rfl ?_
    refine WL.pure rfl rfl rfl (PV.add rfl rfl (by constructor <;> omega)) ?_
    refine WL.asg rfl rfl ?_
    refine WL.nil ?_
    refine NQ.next (ρ := [(7, _), (9, _)]) ⟨rfl, rfl, rfl, rfl, rfl, rfl, trivial⟩ ?_
    exact ⟨_, ⟨v19, og19, at_ + 1, _, rfl, rfl, hU0, osnE ho19 (by rfl), (by first | exact hg0_19 | exact OgR.weak hg0_19), mpE hb3 (by rfl), (by exact hBA.done (by omega))⟩, by (have := hBA.lt; omega)⟩
  try simp only [nq] at hc1
  refine CW.exit ?_
  refine XQ.then ?_
  refine XQ.then ?_
  refine XQ.here ?_
  refine NQ.then ?_
  refine CW.seq ?_
  refine CW.reg ?_
  refine WL.asg rfl rfl ?_
  refine WL.nilS ?_
  refine CW.ret ?_
  refine RQ.r1 rfl ?_
  refine ⟨?_, hB⟩
  first | exact bE (hBI.found (by omega) (by rw [hp]; exact (fin_y (by assumption) (by assumption) (by assumption)))) | exact bE (hBI.fail (by omega))
theorem c_impl_OutputsOf {w : World} {a0 : Int} {a1 : Int} {va2 : Value} {xa2 : List R4} {va3 : Value} {xa3 : List Bool} {vi : Value} {ins : List Int} {mo : Int} (ha2 : Rd ER w va2 xa2) (ha3 : Rd EB w va3 xa3) (hi : Rd EI w vi ins) : Calls Try.prog 69 #[.agg #[.int .i64 a0, .int .i64 a1, va2, va3], vi, .int .i64 mo] w (Ret1 (fun v w' => Ext w w' ∧ ∃ u og_u vs_u os_u, v = .tuple #[u, .bool (outB a0 a1 xa2 xa3 ins mo)] ∧ Osl VV w' og_u u vs_u ∧ Lo w og_u ∧ Inn w' os_u vs_u (onT (outB a0 a1 xa2 xa3 ins mo) (outL xa2 xa3 ins a1 mo)) ∧ LoI w os_u ∧ DI os_u og_u)) := by
  have hB : Ext w w := Ext.refl w
  have hla2 := ha2.leI; have hla3 := ha3.leI; have hli := hi.leI
  refine callsOf (vs := [_, _, _]) Try.func69 rfl Try.ntmps69 rfl rfl ?_
  refine CW.seq ?_
  refine CW.reg ?_
  refine WL.op rfl (OpK.box rfl rfl (by first | exact Rd.cells1 (by assumption) | exact Osl.cells1 (by assumption) | exact Osn.cells1 (by assumption) | exact Rd.cells1 (NL.rd (by assumption)) | exact Inn.cell1 (by assumption) (by omega) | assumption | rfl) (fun b1 w1 hXw1 hb1 hge1 => ?_))
  have hl1 := Lo.new hB hge1
  have hB := hB.trans hXw1
  refine WL.asg rfl rfl ?_
  refine WL.asg rfl rfl ?_
  refine WL.nilS ?_
  refine CW.seq ?_
  refine CW.seq ?_
  refine CW.reg ?_
  refine WL.pure rfl rfl rfl (PV.loadA T.ag88 rfl hb1.cells (Ext.refl _) rfl) ?_
  refine WL.op rfl (OpK.callR rfl T.cf71 rfl (c_impl_ValidSided (by first | assumption | exact Rd.up (by assumption) hB | exact Osl.rd (by assumption) | exact Osn.rdR (by assumption) | exact NL.rd (by assumption) | exact rdII (by assumption) (by assumption) | exact Inn.rd (by assumption) (by omega)) (by first | assumption | exact Rd.up (by assumption) hB | exact Osl.rd (by assumption) | exact Osn.rdR (by assumption) | exact NL.rd (by assumption) | exact rdII (by assumption) (by assumption) | exact Inn.rd (by assumption) (by omega))) (fun w2 hXw2 => ?_))
  have hB := hB.trans hXw2
  have hb1 := hb1.up hXw2
  refine WL.pure rfl rfl rfl (PV.not rfl) ?_
  refine WL.mv rfl rfl ?_
  refine WL.split (t := 14) rfl (fun hc1 => ?_) (fun hc1 => ?_)
  · skip
    try simp only [nq] at hc1
    refine WL.skip rfl rfl rfl rfl rfl ?_
    refine WL.skip rfl rfl rfl rfl rfl ?_
    refine WL.skip rfl rfl rfl rfl rfl ?_
    refine WL.skip rfl rfl rfl rfl rfl ?_
    refine WL.skip rfl rfl rfl rfl rfl ?_
    refine WL.pure rfl rfl rfl (PV.pickT rfl rfl) ?_
    refine WL.mv rfl rfl ?_
    refine WL.skip rfl rfl rfl rfl rfl ?_
    refine WL.skip rfl rfl rfl rfl rfl ?_
    refine WL.skip rfl rfl rfl rfl rfl ?_
    refine WL.pure rfl rfl rfl (PV.pickT rfl rfl) ?_
    refine WL.nilS ?_
    refine CW.condT rfl ?_
    refine CW.seq ?_
    refine CW.reg ?_
    refine WL.asg rfl rfl ?_
    refine WL.asg rfl rfl ?_
    refine WL.nilS ?_
    refine CW.ret ?_
    refine RQ.then ?_
    refine RQ.r2 rfl rfl ?_
    first | (have hS : outB a0 a1 xa2 xa3 ins mo = false := (by first | exact out_n1 (by assumption) | exact out_n2 (by assumption) | exact out_n2' (by assumption) (by assumption) | exact out_n3 (by omega)); exact ⟨hB, .slice none 0 0, none, [], [], tE2 rfl (bE hS.symm), Osl.nil _ _, Lo.nl _, innE (Inn.zero _) (onT_no (by rw [hS]; decide)).symm, LoI.nl _, DI.nl _⟩) | (obtain rfl : k = (wordsP a1 (mo.toNat + 1)).length := (by omega); exact ⟨hB, _, _, _, _, tE2 rfl (bE hS.symm), ho5, hl5, innE (Inn.sel hn4 _ (Nat.le_refl _)) (onT_yes hS).symm, LoI.sel hl4 (by rw [hn4.lo]; exact Nat.le_refl _), DI.sel hd4_5 (by rw [hn4.lo]; exact Nat.le_refl _)⟩)
  try simp only [nq] at hc1
  refine WL.pureG rfl rfl rfl rfl rfl (PV.move rfl) ?_
  refine WL.pureG rfl rfl rfl rfl rfl (PV.fieldAddr T.fl88_1 rfl hb1.cells) ?_
  refine WL.pureG rfl rfl rfl rfl rfl (PV.load1 T.na2 rfl hb1.cells (Ext.refl _) rfl) ?_
  refine WL.opG rfl rfl rfl (OpK.callR rfl T.cf124 rfl (c_impl_IsWord (by first | assumption | exact Rd.up (by assumption) hB | exact Osl.rd (by assumption) | exact Osn.rdR (by assumption) | exact NL.rd (by assumption) | exact rdII (by assumption) (by assumption) | exact Inn.rd (by assumption) (by omega))) (fun w3 hXw3 => ?_))
  have hB := hB.trans hXw3
  have hb1 := hb1.up hXw3
  refine WL.pureG rfl rfl rfl rfl rfl (PV.not rfl) ?_
  refine WL.pure rfl rfl rfl (PV.pickF rfl rfl) ?_
  refine WL.mv rfl rfl ?_
  refine WL.split (t := 21) rfl (fun hc2 => ?_) (fun hc2 => ?_)
  · skip
    try simp only [nq] at hc2
    refine WL.skip rfl rfl rfl rfl rfl ?_
    refine WL.skip rfl rfl rfl rfl rfl ?_
    refine WL.skip rfl rfl rfl rfl rfl ?_
    refine WL.pure rfl rfl rfl (PV.pickT rfl rfl) ?_
    refine WL.nilS ?_
    refine CW.condT rfl ?_
    refine CW.seq ?_
    refine CW.reg ?_
    refine WL.asg rfl rfl ?_
    refine WL.asg rfl rfl ?_
    refine WL.nilS ?_
    refine CW.ret ?_
    refine RQ.then ?_
    refine RQ.r2 rfl rfl ?_
    first | (have hS : outB a0 a1 xa2 xa3 ins mo = false := (by first | exact out_n1 (by assumption) | exact out_n2 (by assumption) | exact out_n2' (by assumption) (by assumption) | exact out_n3 (by omega)); exact ⟨hB, .slice none 0 0, none, [], [], tE2 rfl (bE hS.symm), Osl.nil _ _, Lo.nl _, innE (Inn.zero _) (onT_no (by rw [hS]; decide)).symm, LoI.nl _, DI.nl _⟩) | (obtain rfl : k = (wordsP a1 (mo.toNat + 1)).length := (by omega); exact ⟨hB, _, _, _, _, tE2 rfl (bE hS.symm), ho5, hl5, innE (Inn.sel hn4 _ (Nat.le_refl _)) (onT_yes hS).symm, LoI.sel hl4 (by rw [hn4.lo]; exact Nat.le_refl _), DI.sel hd4_5 (by rw [hn4.lo]; exact Nat.le_refl _)⟩)
  try simp only [nq] at hc2
  refine WL.pureG rfl rfl rfl rfl rfl (PV.move rfl) ?_
  refine WL.opG rfl rfl rfl (OpK.callR rfl T.cf104 rfl (c_impl_within) (fun w4 hXw4 => ?_))
  have hB := hB.trans hXw4
  have hb1 := hb1.up hXw4
  refine WL.pureG rfl rfl rfl rfl rfl (PV.not rfl) ?_
  refine WL.pure rfl rfl rfl (PV.pickF rfl rfl) ?_
  refine WL.nilS ?_
  refine CW.cond rfl (fun hc3 => ?_) (fun hc3 => ?_)
  · skip
    try simp only [nq] at hc3
    refine CW.seq ?_
    refine CW.reg ?_
    refine WL.asg rfl rfl ?_
    refine WL.asg rfl rfl ?_
    refine WL.nilS ?_
    refine CW.ret ?_
    refine RQ.then ?_
    refine RQ.r2 rfl rfl ?_
    first | (have hS : outB a0 a1 xa2 xa3 ins mo = false := (by first | exact out_n1 (by assumption) | exact out_n2 (by assumption) | exact out_n2' (by assumption) (by assumption) | exact out_n3 (by omega)); exact ⟨hB, .slice none 0 0, none, [], [], tE2 rfl (bE hS.symm), Osl.nil _ _, Lo.nl _, innE (Inn.zero _) (onT_no (by rw [hS]; decide)).symm, LoI.nl _, DI.nl _⟩) | (obtain rfl : k = (wordsP a1 (mo.toNat + 1)).length := (by omega); exact ⟨hB, _, _, _, _, tE2 rfl (bE hS.symm), ho5, hl5, innE (Inn.sel hn4 _ (Nat.le_refl _)) (onT_yes hS).symm, LoI.sel hl4 (by rw [hn4.lo]; exact Nat.le_refl _), DI.sel hd4_5 (by rw [hn4.lo]; exact Nat.le_refl _)⟩)
  try simp only [nq] at hc3
  refine CW.skipS ?_
  refine CW.seq ?_
  refine CW.reg ?_
  have hv := (by assumption : sidedV a0 a1 xa2 xa3); have hw9 := (by assumption : isWordB ins a1 = true); have hi12 := isW_12 hw9; have hL := hv.2.1; have hm4 : 0 ≤ mo ∧ mo ≤ 4 := (by first | assumption | omega); have hS := out_y hv hw9 hm4
  refine WL.op rfl (OpK.buildS VV (os := []) [] rfl T.sl25 rfl rfl T.zv28 rfl (by intro z hz; cases hz) rfl (fun v2 g2 w5 hXw5 ho2 hge2 => ?_))
  have hl2 := Lo.new hB hge2
  have hd1_2 := Dj.new hb1.ltO hge2
  have hB := hB.trans hXw5
  have hb1 := hb1.up hXw5
  refine WL.asg rfl rfl ?_
  refine WL.nilS ?_
  refine CW.seq ?_
  refine CW.seq ?_
  refine CW.reg ?_
  refine WL.pure rfl rfl rfl (PV.fieldAddr T.fl88_1 rfl hb1.cells) ?_
  refine WL.pure rfl rfl rfl (PV.load1 T.na2 rfl hb1.cells (Ext.refl _) rfl) ?_
  refine WL.mv rfl rfl ?_
  refine WL.op rfl (OpK.call rfl T.cf156 rfl (c_impl_wordsUpTo (by first | assumption | omega | (simp only [marks_len, marksB_len, marksR_len, sumL_marksS]; omega)) (by first | assumption | omega | (simp only [marks_len, marksB_len, marksR_len, sumL_marksS]; omega))) (fun rv1 w6 hR => ?_))
  obtain ⟨hXw6, v3, og3, vs4, os4, rfl, ho3, hq3, hn4, hq4, hd3_4⟩ := hR
  have hl3 := Lo.up hq3 hB
  have hd1_3 := Dj.lo hb1.ltO hq3
  have hd2_3 := Dj.lo ho2.ltO hq3
  have hl4 := LoI.up hq4 hB
  have hlv4 := hn4.lv
  have hd1_4 := DI.lo hb1.ltO hq4
  have hd2_4 := DI.lo ho2.ltO hq4
  have hB := hB.trans hXw6
  have hb1 := hb1.up hXw6
  have ho2 := ho2.up hXw6
  refine WL.pure rfl rfl rfl ((PV.lenOs rfl ho3 T.sl25)) ?_
  refine WL.mv rfl rfl ?_
  refine WL.nilS ?_
  refine CW.block ?_
  have hlt1 := hb1.ltO
  have hlt2 := ho2.ltO
  have hlt3 := ho3.ltO
  have hlt4 := hn4.ltO
  refine CW.loop (σk := [(1, _), (3, _), (30, _), (31, _)]) (fun ρ wz m => ∃ (v5 : Value) (og5 : Option Nat) (k : Nat), ρ = [(8, v5), (32, .int .i64 (k : Nat))] ∧ m = (wordsP a1 (mo.toNat + 1)).length - k ∧ UpdL [(some g2)] w6 wz ∧ Osl VV wz og5 v5 (sel (fun k => rdB xa2 ins ((wordsP a1 (mo.toNat + 1)).getD k []) xa3) (.slice none 0 0) vs4 k) ∧ OgR w6 (some g2) og5 ∧ (k ≤ (wordsP a1 (mo.toNat + 1)).length)) (ρ₀ := [(8, _), (32, _)]) (m₀ := _) ⟨rfl, rfl, rfl, rfl, rfl, rfl, trivial⟩ ⟨v2, (some g2), 0, rfl, rfl, (UpdL.refl _ _), osE ho2 (by exact sel_zero _ _ _), OgR.refl _ _, (by first | omega | rfl | (simp; done) | assumption | (simp_all; done))⟩ ?_
  rintro _ wl1 _ ⟨v5, og5, k, rfl, rfl, hU0, ho5, ha5, hk⟩
  have hb1 := hb1.loop hU0 ⟨hd1_2, trivial⟩
  have ho3 := ho3.loop hU0 ⟨(Dj.symm hd2_3), trivial⟩
  have hn4 := hn4.loop hU0 ⟨hd2_4, trivial⟩
  have hl5 := Lo.ogr hl2 hB ha5
  have hg0_5 := ha5
  have hk0_5 : OkB [(some g2)] w6 og5 := OkB.ogr (OkB.mem (by simp)) (Nat.le_refl _) ha5
  have hd1_5 := Dj.ogr hd1_2 hlt1 ha5
  have hd3_5 := Dj.ogr (Dj.symm hd2_3) hlt3 ha5
  have hd4_5 := DI.ogr hd2_4 hlt4 ha5
  have hB := hB.loop hU0 ⟨hl2, trivial⟩
  have hpl := wordsP_len (L := a1) (by omega) (mo.toNat + 1) (by omega); have hsl := sel_len (fun k => rdB xa2 ins ((wordsP a1 (mo.toNat + 1)).getD k []) xa3) (.slice none 0 0) vs4 k
  refine CW.seq ?_
  refine CW.reg ?_
  refine WL.pure rfl rfl rfl (PV.lss rfl rfl) ?_
  refine WL.nilS ?_
  refine CW.seq ?_
  refine CW.cond rfl (fun hc4 => ?_) (fun hc4 => ?_)
  · skip
    try simp only [nq] at hc4
    refine CW.skipS ?_
    refine CW.seq ?_
    refine CW.block ?_
    refine CW.seq ?_
    refine CW.reg ?_
    have hw5 := wordsP_get (L := a1) (m := mo.toNat) (k := k) (by omega)
    first
      | refine WL.atO (x := .tmp 30) (y := .tmp 32) (f := VV) (.slice none 0 0) rfl rfl ho3 (by first | omega | (simp only [List.length_set]; omega) | (simp only [List.length_append, List.length_take, List.length_replicate, List.length_drop]; omega)) (fun p1 hpp1 hcp1 => ?_)
      | refine WL.atOZ (x := .tmp 30) (y := .tmp 32) (f := VV) (.slice none 0 0) rfl rfl ho3 (by first | omega | (simp only [List.length_set]; omega) | (simp only [List.length_append, List.length_take, List.length_replicate, List.length_drop]; omega)) (fun p1 hpp1 hzp1 hcp1 => ?_)
    refine WL.pure rfl rfl rfl ((by first | exact PV.indexAddr hpp1 rfl rfl T.sl25 | exact PV.indexAddr hpp1 rfl (by rw [← hzp1]; rfl) T.sl25)) ?_
    refine WL.pure rfl rfl rfl ((by first | exact PV.load0 T.na28 rfl (by first | exact Cells.up (by assumption) hB | exact Bx.cells (by assumption) | assumption) (Ext.refl _) rfl | exact PV.load1 T.na28 rfl (by first | exact Cells.up (by assumption) hB | exact Bx.cells (by assumption) | assumption) (Ext.refl _) rfl)) ?_
    refine WL.asg rfl rfl ?_
    refine WL.nilS ?_
    refine CW.seq ?_
    refine CW.reg ?_
    refine WL.pure rfl rfl rfl (PV.loadA T.ag88 rfl hb1.cells (Ext.refl _) rfl) ?_
    refine WL.mv rfl rfl ?_
    refine WL.mv rfl rfl ?_
    refine WL.op rfl (OpK.callR rfl T.cf157 rfl (c_impl_Sided_readsPair (by first | assumption | exact Rd.up (by assumption) hB | exact Osl.rd (by assumption) | exact Osn.rdR (by assumption) | exact NL.rd (by assumption) | exact rdII (by assumption) (by assumption) | exact Inn.rd (by assumption) (by omega)) (by first | assumption | exact Rd.up (by assumption) hB | exact Osl.rd (by assumption) | exact Osn.rdR (by assumption) | exact NL.rd (by assumption) | exact rdII (by assumption) (by assumption) | exact Inn.rd (by assumption) (by omega)) (by first | assumption | exact Rd.up (by assumption) hB | exact Osl.rd (by assumption) | exact Osn.rdR (by assumption) | exact NL.rd (by assumption) | exact rdII (by assumption) (by assumption) | exact Inn.rd (by assumption) (by omega)) (by first | assumption | exact Rd.up (by assumption) hB | exact Osl.rd (by assumption) | exact Osn.rdR (by assumption) | exact NL.rd (by assumption) | exact rdII (by assumption) (by assumption) | exact Inn.rd (by assumption) (by omega)) (by first | assumption | omega | (simp only [marks_len, marksB_len, marksR_len, sumL_marksS]; omega)) (by first | assumption | omega | (simp only [marks_len, marksB_len, marksR_len, sumL_marksS]; omega)) (by first | assumption | omega | (simp only [marks_len, marksB_len, marksR_len, sumL_marksS]; omega))) (fun w7 hXw7 => ?_))
    have hB := hB.trans hXw7
    have hb1 := hb1.up hXw7
    have ho3 := ho3.up hXw7
    have hn4 := hn4.up hXw7
    have ho5 := ho5.up hXw7
    have hU0 := hU0.ext hXw7
    refine WL.nilS ?_
    refine CW.cond rfl (fun hc5 => ?_) (fun hc5 => ?_)
    · skip
      try simp only [nq] at hc5
      refine CW.reg ?_
      refine WL.mv rfl rfl ?_
      refine WL.mv rfl rfl ?_
      refine WL.op rfl (OpK.buildS VV (os := [.tmp 41]) [_] rfl T.sl25 rfl rfl T.zv28 rfl (by intro z hz; first | rfl | (simp only [List.mem_cons, List.not_mem_nil, or_false] at hz; subst hz; exact (by first | exact Rd.cells1 (by assumption) | exact Osl.cells1 (by assumption) | exact Osn.cells1 (by assumption) | exact Rd.cells1 (NL.rd (by assumption)) | exact Inn.cell1 (by assumption) (by omega) | assumption | rfl))) rfl (fun v6 g6 w8 hXw8 ho6 hge6 => ?_))
      have hl6 := Lo.new hB hge6
      have hd1_6 := Dj.new hb1.ltO hge6
      have hd3_6 := Dj.new ho3.ltO hge6
      have hd4_6 := DI.new hn4 hge6
      have hd5_6 := Dj.new ho5.ltO hge6
      have hk0_6 := OkN.new hU0 hge6
      have hg0_6 := OgR.new hU0.size hge6
      have hB := hB.trans hXw8
      have hb1 := hb1.up hXw8
      have ho3 := ho3.up hXw8
      have hn4 := hn4.up hXw8
      have ho5 := ho5.up hXw8
      have hU0 := hU0.ext hXw8
      refine WL.op rfl (OpK.appendS (f := VV) rfl T.sl25 T.zv28 rfl rfl ho5 rfl (Osl.srcM ho6 (one_mem (Inn.one1 hn4 (by omega)))) (by first | (simp only [List.length_cons, List.length_nil]; omega) | (simp_all; omega)) (fun v7 og7 w9 hXw9 ho7 hap7 => ?_))
      have hl7 := Lo.app hl5 hB hap7
      have hd1_7 := Dj.app hd1_5 hb1.ltO hap7
      have hd3_7 := Dj.app hd3_5 ho3.ltO hap7
      have hd4_7 := DI.app hd4_5 hn4 hap7
      have hd6_7 := Dj.app (Dj.symm hd5_6) ho6.ltO hap7
      have hk0_7 := OkN.app hU0 hk0_5 hap7
      have hg0_7 := OgR.app hg0_5 hU0.size hap7
      have hB := hB.updL hXw9 hl5
      have hb1 := hb1.updD hXw9 hd1_5
      have ho3 := ho3.updD hXw9 hd3_5
      have hn4 := hn4.updD hXw9 hd4_5
      have ho6 := ho6.updD hXw9 (Dj.symm hd5_6)
      have hU0 := hU0.step hXw9 hk0_5
      refine WL.asg rfl rfl ?_
      refine WL.nil ?_
      refine NQ.block ?_
      refine NQ.then ?_
      refine CW.reg ?_
      refine WL.pure rfl rfl rfl (PV.add rfl rfl (by constructor <;> omega)) ?_
      refine WL.mv rfl rfl ?_
      refine WL.nil ?_
      refine NQ.next (ρ := [(8, _), (32, _)]) ⟨rfl, rfl, rfl, rfl, rfl, rfl, trivial⟩ ?_
      exact ⟨_, ⟨v7, og7, k + 1, rfl, rfl, hU0, osE ho7 (by first | exact sel_put (by assumption) | exact sel_no (by assumption)), (by first | exact hg0_7 | exact OgR.weak hg0_7), (by first | omega | assumption | (simp_all; done) | (simp_all; omega))⟩, by omega⟩
    try simp only [nq] at hc5
    refine CW.skip ?_
    refine NQ.block ?_
    refine NQ.then ?_
    refine CW.reg ?_
    refine WL.pure rfl rfl rfl (PV.add rfl rfl (by constructor <;> omega)) ?_
    refine WL.mv rfl rfl ?_
    refine WL.nil ?_
    refine NQ.next (ρ := [(8, _), (32, _)]) ⟨rfl, rfl, rfl, rfl, rfl, rfl, trivial⟩ ?_
    exact ⟨_, ⟨v5, og5, k + 1, rfl, rfl, hU0, osE ho5 (by first | exact sel_put (by assumption) | exact sel_no (by assumption)), (by first | exact hg0_5 | exact OgR.weak hg0_5), (by first | omega | assumption | (simp_all; done) | (simp_all; omega))⟩, by omega⟩
  try simp only [nq] at hc4
  refine CW.exit ?_
  refine XQ.then ?_
  refine XQ.then ?_
  refine XQ.here ?_
  refine NQ.then ?_
  refine CW.seq ?_
  refine CW.reg ?_
  refine WL.mv rfl rfl ?_
  refine WL.asg rfl rfl ?_
  refine WL.asg rfl rfl ?_
  refine WL.nilS ?_
  refine CW.ret ?_
  refine RQ.r2 rfl rfl ?_
  first | (have hS : outB a0 a1 xa2 xa3 ins mo = false := (by first | exact out_n1 (by assumption) | exact out_n2 (by assumption) | exact out_n2' (by assumption) (by assumption) | exact out_n3 (by omega)); exact ⟨hB, .slice none 0 0, none, [], [], tE2 rfl (bE hS.symm), Osl.nil _ _, Lo.nl _, innE (Inn.zero _) (onT_no (by rw [hS]; decide)).symm, LoI.nl _, DI.nl _⟩) | (obtain rfl : k = (wordsP a1 (mo.toNat + 1)).length := (by omega); exact ⟨hB, _, _, _, _, tE2 rfl (bE hS.symm), ho5, hl5, innE (Inn.sel hn4 _ (Nat.le_refl _)) (onT_yes hS).symm, LoI.sel hl4 (by rw [hn4.lo]; exact Nat.le_refl _), DI.sel hd4_5 (by rw [hn4.lo]; exact Nat.le_refl _)⟩)
theorem c_spec_l02Word {w : World} {va : Value} {xs : List Int} {L : Int} (ha : Rd EI w va xs) (hL : 1 ≤ L ∧ L ≤ 4) : Calls Try.prog 159 #[va, .int .i64 L] w (Ret1 (RQt (.bool (wordB xs L)) w)) := by
  have hB : Ext w w := Ext.refl w
  have hla := ha.leI
  refine callsOf (vs := [_, _]) Try.func159 rfl Try.ntmps159 rfl rfl ?_
  refine CW.seq ?_
  refine CW.reg ?_
  refine WL.asg rfl rfl ?_
  refine WL.nilS ?_
  refine CW.seq ?_
  refine CW.seq ?_
  refine CW.reg ?_
  refine WL.asg rfl rfl ?_
  refine WL.nilS ?_
  refine CW.block ?_
  refine CW.loop (σk := [(0, _), (1, _)]) (fun ρ wz m => ∃ (k : Nat), ρ = [(5, .int .i64 (k : Nat))] ∧ m = xs.length - k ∧ UpdL [] w wz ∧ (k ≤ xs.length) ∧ (allIn (xs.take k) 0 (L - 1) = true)) (ρ₀ := [(5, _)]) (m₀ := _) ⟨rfl, rfl, rfl, trivial⟩ ⟨0, rfl, rfl, (UpdL.refl _ _), (by first | omega | rfl | (simp; done) | assumption | (simp_all; done)), (by exact allIn_zero _ _ _)⟩ ?_
  rintro _ wl1 _ ⟨k, rfl, rfl, hU0, hk, he⟩
  have hB := hB.loop hU0 trivial
  refine CW.seq ?_
  refine CW.seq ?_
  refine CW.reg ?_
  refine WL.mv rfl rfl ?_
  refine WL.mv rfl rfl ?_
  refine WL.pure rfl rfl rfl ((by first | exact PV.len rfl (by assumption) T.sl28 | exact PV.lenOs rfl (by assumption) T.sl28 | exact PV.len rfl (NL.rd (by assumption)) T.sl28 | exact PV.len rfl (Inn.rd (by assumption) (by omega)) T.sl28)) ?_
  refine WL.pure rfl rfl rfl (PV.lss rfl rfl) ?_
  refine WL.nilS ?_
  refine CW.cond rfl (fun hc1 => ?_) (fun hc1 => ?_)
  · skip
    try simp only [nq] at hc1
    refine CW.skipS ?_
    refine CW.seq ?_
    refine CW.block ?_
    refine CW.seq ?_
    refine CW.reg ?_
    refine WL.mv rfl rfl ?_
    refine WL.mv rfl rfl ?_
    first
      | refine WL.at (x := .tmp 12) (y := .tmp 13) (E := EI) (0) rfl rfl (by first | assumption | exact Inn.rd (by assumption) (by omega)) (by first | omega | (simp only [List.length_set]; omega) | (simp only [List.length_append, List.length_take, List.length_replicate, List.length_drop]; omega)) (fun p1 csp1 hpp1 hcp1 hq => ?_)
      | refine WL.atZ (x := .tmp 12) (y := .tmp 13) (E := EI) (0) rfl rfl (by first | assumption | exact Inn.rd (by assumption) (by omega)) (by first | omega | (simp only [List.length_set]; omega) | (simp only [List.length_append, List.length_take, List.length_replicate, List.length_drop]; omega)) (fun p1 csp1 hpp1 hzp1 hcp1 hq => ?_)
    cases hq
    refine WL.pure rfl rfl rfl ((by first | exact PV.indexAddr hpp1 rfl rfl T.sl28 | exact PV.indexAddr hpp1 rfl (by rw [← hzp1]; rfl) T.sl28)) ?_
    refine WL.pure rfl rfl rfl ((by first | exact PV.load0 T.na2 rfl (by first | exact Cells.up (by assumption) hB | exact Bx.cells (by assumption) | assumption) (Ext.refl _) rfl | exact PV.load1 T.na2 rfl (by first | exact Cells.up (by assumption) hB | exact Bx.cells (by assumption) | assumption) (Ext.refl _) rfl)) ?_
    refine WL.mv rfl rfl ?_
    refine WL.pure rfl rfl rfl (PV.sub rfl rfl (by constructor <;> omega)) ?_
    refine WL.op rfl (OpK.callR rfl T.cf98 rfl (c_spec_l00In) (fun w1 hXw1 => ?_))
    have hB := hB.trans hXw1
    have hU0 := hU0.ext hXw1
    refine WL.pure rfl rfl rfl (PV.not rfl) ?_
    refine WL.nilS ?_
    refine CW.cond rfl (fun hc2 => ?_) (fun hc2 => ?_)
    · skip
      try simp only [nq] at hc2
      refine CW.seq ?_
      refine CW.reg ?_
      refine WL.asg rfl rfl ?_
      refine WL.nilS ?_
      refine CW.ret ?_
      refine RQ.block ?_
      refine RQ.then ?_
      refine RQ.then ?_
      refine RQ.block ?_
      refine RQ.then ?_
      refine RQ.r1 rfl ?_
      refine ⟨?_, hB⟩
      exact bE (by simp only [wordB]; rw [allIn_bad (k := k) (by omega) (by assumption)]; simp)
    try simp only [nq] at hc2
    refine CW.skip ?_
    refine NQ.block ?_
    refine NQ.then ?_
    refine CW.reg ?_
    refine WL.mv rfl rfl ?_
    refine WL.pure rfl rfl rfl (PV.add rfl rfl (by constructor <;> omega)) ?_
    refine WL.asg rfl rfl ?_
    refine WL.nil ?_
    refine NQ.next (ρ := [(5, _)]) ⟨rfl, rfl, rfl, trivial⟩ ?_
    exact ⟨_, ⟨k + 1, rfl, rfl, hU0, (by first | omega | assumption | (simp_all; done) | (simp_all; omega)), (by exact allIn_step (by omega) he (by assumption))⟩, by omega⟩
  try simp only [nq] at hc1
  refine CW.exit ?_
  refine XQ.then ?_
  refine XQ.then ?_
  refine XQ.here ?_
  refine NQ.then ?_
  refine CW.seq ?_
  refine CW.reg ?_
  refine WL.mv rfl rfl ?_
  refine WL.pure rfl rfl rfl ((by first | exact PV.len rfl (by assumption) T.sl28 | exact PV.lenOs rfl (by assumption) T.sl28 | exact PV.len rfl (NL.rd (by assumption)) T.sl28 | exact PV.len rfl (Inn.rd (by assumption) (by omega)) T.sl28)) ?_
  refine WL.pure rfl rfl rfl (PV.leq rfl rfl) ?_
  refine WL.asg rfl rfl ?_
  refine WL.nilS ?_
  refine CW.ret ?_
  refine RQ.r1 rfl ?_
  refine ⟨?_, hB⟩
  exact bE (by simp only [wordB]; rw [allIn_all (k := k) (by omega) he]; simp)

end Go.Proofs.Ythemmoceomdccaa
