/- Walks of the functions that the law FnSides reaches: each says what its function computes. No condition. -/
import Derived.Test.YthemmoceomdccaaProg
import Derived.Test.YthemmoceomdccaaLibM
import Derived.Test.YthemmoceomdccaaPlA
import Derived.Test.YthemmoceomdccaaPlG
import Derived.Test.YthemmoceomdccaaPlS
import Derived.Test.YthemmoceomdccaaLibG2
import Derived.Test.YthemmoceomdccaaPlT
import Derived.Test.YthemmoceomdccaaLibMp
import Derived.Test.YthemmoceomdccaaPlRd
import Derived.Test.YthemmoceomdccaaLibV
import Derived.Test.YthemmoceomdccaaLibW
import Derived.Test.YthemmoceomdccaaPlI2
import Derived.Test.YthemmoceomdccaaPlDq
import Derived.Test.YthemmoceomdccaaPlSd
import Derived.Test.YthemmoceomdccaaPlSe
import Derived.Test.YthemmoceomdccaaWFnSidesb
namespace Go.Proofs.Ythemmoceomdccaa
open Go Go.WX Go.Proofs
set_option linter.unusedSimpArgs false
set_option linter.unusedVariables false

theorem c_spec_ChainSided {w : World} {a0 : Int} {a1 : Int} {va2 : Value} {xa2 : List R4} {va3 : Value} {xa3 : List Bool} {y0 : Int} {y1 : Int} {vy2 : Value} {xy2 : List R4} {vy3 : Value} {xy3 : List Bool}  (ha2 : Rd ER w va2 xa2) (ha3 : Rd EB w va3 xa3) (hy2 : Rd ER w vy2 xy2) (hy3 : Rd EB w vy3 xy3) : Calls Try.prog 66 #[.agg #[.int .i64 a0, .int .i64 a1, va2, va3], .agg #[.int .i64 y0, .int .i64 y1, vy2, vy3]] w (Ret1 (fun v w' => Ext w w' ∧ ∃ u2 og_u2 u3 og_u3, v = .tuple #[.agg #[.int .i64 (onI (chainB a0 a1 xa2 xa3 y0 y1 xy2 xy3) (wI (a0 * y0))), .int .i64 (onI (chainB a0 a1 xa2 xa3 y0 y1 xy2 xy3) a1), u2, u3], .bool (chainB a0 a1 xa2 xa3 y0 y1 xy2 xy3)] ∧ Osn 4 gR w' og_u2 u2 (onT (chainB a0 a1 xa2 xa3 y0 y1 xy2 xy3) (cC a0 y0 xa2 xy2)) ∧ Lo w og_u2 ∧ Osl VB w' og_u3 u3 (onT (chainB a0 a1 xa2 xa3 y0 y1 xy2 xy3) (cE xa3 xy3)) ∧ Lo w og_u3 ∧ Dj og_u2 og_u3)) := by
  have hB : Ext w w := Ext.refl w
  have hla2 := ha2.leI; have hla3 := ha3.leI; have hly2 := hy2.leI; have hly3 := hy3.leI
  refine callsOf (vs := [_, _]) Try.func66 rfl Try.ntmps66 rfl rfl ?_
  refine CW.seq ?_
  refine CW.reg ?_
  refine WL.op rfl (OpK.box rfl rfl (by first | exact Rd.cells1 (by assumption) | exact Osl.cells1 (by assumption) | exact Osn.cells1 (by assumption) | exact Rd.cells1 (NL.rd (by assumption)) | exact Inn.cell1 (by assumption) (by omega) | assumption | rfl) (fun b1 w1 hXw1 hb1 hge1 => ?_))
  have hl1 := Lo.new hB hge1
  have hB := hB.trans hXw1
  refine WL.op rfl (OpK.box rfl rfl (by first | exact Rd.cells1 (by assumption) | exact Osl.cells1 (by assumption) | exact Osn.cells1 (by assumption) | exact Rd.cells1 (NL.rd (by assumption)) | exact Inn.cell1 (by assumption) (by omega) | assumption | rfl) (fun b2 w2 hXw2 hb2 hge2 => ?_))
  have hl2 := Lo.new hB hge2
  have hd1_2 := Dj.new hb1.ltO hge2
  have hB := hB.trans hXw2
  have hb1 := hb1.up hXw2
  refine WL.op rfl (OpK.alloc rfl T.zv88 rfl (fun b3 w3 hXw3 hb3 hge3 => ?_))
  have hl3 := Lo.new hB hge3
  have hd1_3 := Dj.new hb1.ltO hge3
  have hd2_3 := Dj.new hb2.ltO hge3
  have hB := hB.trans hXw3
  have hb1 := hb1.up hXw3
  have hb2 := hb2.up hXw3
  refine WL.asg rfl rfl ?_
  refine WL.nilS ?_
  refine CW.seq ?_
  refine CW.seq ?_
  refine CW.reg ?_
  refine WL.op rfl (OpK.callR rfl T.cf150 rfl (c_spec_l05Two (by first | exact Bx.cells (by assumption) | exact Cells.up (by assumption) hB | assumption | exact Cells.add (Bx.cells (by assumption)) _ | exact Cells.add (Cells.up (by assumption) hB) _) (by first | exact Bx.cells (by assumption) | exact Cells.up (by assumption) hB | assumption | exact Cells.add (Bx.cells (by assumption)) _ | exact Cells.add (Cells.up (by assumption) hB) _) (by first | assumption | exact Rd.up (by assumption) hB | exact Osl.rd (by assumption) | exact Osn.rdR (by assumption) | exact NL.rd (by assumption) | exact rdII (by assumption) (by assumption) | exact Inn.rd (by assumption) (by omega)) (by first | assumption | exact Rd.up (by assumption) hB | exact Osl.rd (by assumption) | exact Osn.rdR (by assumption) | exact NL.rd (by assumption) | exact rdII (by assumption) (by assumption) | exact Inn.rd (by assumption) (by omega)) (by first | assumption | exact Rd.up (by assumption) hB | exact Osl.rd (by assumption) | exact Osn.rdR (by assumption) | exact NL.rd (by assumption) | exact rdII (by assumption) (by assumption) | exact Inn.rd (by assumption) (by omega)) (by first | assumption | exact Rd.up (by assumption) hB | exact Osl.rd (by assumption) | exact Osn.rdR (by assumption) | exact NL.rd (by assumption) | exact rdII (by assumption) (by assumption) | exact Inn.rd (by assumption) (by omega))) (fun w4 hXw4 => ?_))
  have hB := hB.trans hXw4
  have hb1 := hb1.up hXw4
  have hb2 := hb2.up hXw4
  have hb3 := hb3.up hXw4
  refine WL.pure rfl rfl rfl (PV.not rfl) ?_
  refine WL.nilS ?_
  refine CW.cond rfl (fun hc1 => ?_) (fun hc1 => ?_)
  · skip
    try simp only [nq] at hc1
    refine CW.seq ?_
    refine CW.reg ?_
    refine WL.pure rfl rfl rfl (PV.build (ks := []) (os := []) (css := []) (ds := [_, _, _, _]) T.bu88 rfl rfl trivial rfl) ?_
    refine WL.op rfl (OpK.storeA T.sz88 rfl rfl rfl rfl (by simp [Value.oneCell'] <;> first | done | (repeat' apply And.intro) <;> first | rfl | exact Inn.one1 (by assumption) (by omega) | exact Osl.oneCell (by assumption) | exact Osn.oneCell (by assumption) | exact Rd.oneCell (by assumption) | exact Rd.oneCell (NL.rd (by assumption)) | assumption) hb3 (fun w5 hXw5 hb3 => ?_))
    have hB := hB.updL hXw5 hl3
    have hb1 := hb1.updD hXw5 hd1_3
    have hb2 := hb2.updD hXw5 hd2_3
    refine WL.asg rfl rfl ?_
    refine WL.nilS ?_
    refine CW.ret ?_
    refine RQ.then ?_
    refine RQ.rc1 T.ag88 rfl (by first | exact Cells.up (by assumption) hB | exact Bx.cells (by assumption) | assumption) rfl rfl ?_
    refine ⟨hB, (.slice none 0 0), none, (.slice none 0 0), none, ?_, osnE (Osn.nil gR_ok _) ?_, Lo.nl _, osE (Osl.nil _ _) ?_, Lo.nl _, (Dj.nl _)⟩
    · skip
      first | (have hn : ¬ (chainB a0 a1 xa2 xa3 y0 y1 xy2 xy3) = true := (by first | exact chain_n1 (by assumption) | exact chain_n2 (by assumption) | exact chain_n3 (by omega) | exact chain_n6 (by assumption) | exact chain_n5 (by assumption) | exact chain_n4 (by assumption)); first | exact tE2 (by rw [onI_no hn, onI_no hn]) (bE (Bool.eq_false_iff.2 hn).symm) | exact tE2 (by rw [onI_no hn, onI_no hn]; rfl) (bE (Bool.eq_false_iff.2 hn).symm)) | (have hy : (chainB a0 a1 xa2 xa3 y0 y1 xy2 xy3) = true := (chain_yes (by assumption) (by assumption) (by omega) (by assumption)); first | exact tE2 (by rw [onI_yes hy, onI_yes hy]; rfl) (bE hy.symm) | exact tE2 (by rw [onI_yes hy, onI_yes hy]) (bE hy.symm))
    · skip
      first | (rw [onT_no (by first | exact chain_n1 (by assumption) | exact chain_n2 (by assumption) | exact chain_n3 (by omega) | exact chain_n6 (by assumption) | exact chain_n5 (by assumption) | exact chain_n4 (by assumption))]; done) | (rw [onT_yes (chain_yes (by assumption) (by assumption) (by omega) (by assumption))]; first | done | rfl)
    · skip
      first | (rw [onT_no (by first | exact chain_n1 (by assumption) | exact chain_n2 (by assumption) | exact chain_n3 (by omega) | exact chain_n6 (by assumption) | exact chain_n5 (by assumption) | exact chain_n4 (by assumption))]; done) | (rw [onT_yes (chain_yes (by assumption) (by assumption) (by omega) (by assumption))]; first | done | rfl)
  try simp only [nq] at hc1
  refine CW.skipS ?_
  refine CW.seq ?_
  refine CW.reg ?_
  have hand := (by assumption : sidedV a0 a1 xa2 xa3 ∧ sidedV y0 y1 xy2 xy3 ∧ a1 = y1); have hA0 := hand.1; have hY0 := hand.2.1; have hl0 := hand.2.2; have gA := (by assumption : sidedV a0 a1 xa2 xa3); have gY := (by assumption : sidedV y0 y1 xy2 xy3); have a8 := gA.1; have y8 := gY.1; have aL := gA.2.2.1; have yL := gY.2.2.1; have aE := gA.2.2.2.1; have yE := gY.2.2.2.1; have hcA := cA_le (n := y0) (xs := xa2) (ys := xy2) (by omega) (by omega); have hcB := cB_le (n := y0) (xs := xa2) (ys := xy2) (by omega) (by omega) (by omega)
  refine WL.pure rfl rfl rfl (PV.fieldAddr T.fl88_0 rfl hb1.cells) ?_
  refine WL.pure rfl rfl rfl (PV.load1 T.na2 rfl hb1.cells (Ext.refl _) rfl) ?_
  refine WL.pure rfl rfl rfl (PV.fieldAddr T.fl88_0 rfl hb2.cells) ?_
  refine WL.pure rfl rfl rfl (PV.load1 T.na2 rfl hb2.cells (Ext.refl _) rfl) ?_
  refine WL.pure rfl rfl rfl (PV.mulW rfl rfl) ?_
  refine WL.pure rfl rfl rfl (PV.fieldAddr T.fl88_1 rfl hb1.cells) ?_
  refine WL.pure rfl rfl rfl (PV.load1 T.na2 rfl hb1.cells (Ext.refl _) rfl) ?_
  refine WL.pure rfl rfl rfl (PV.build (ks := [0, 1]) (os := [.tmp 26, .tmp 28]) (css := [[_], [_]]) (ds := [_, _, _, _]) T.bu88 rfl rfl ⟨rfl, rfl, trivial⟩ rfl) ?_
  refine WL.op rfl (OpK.alloc rfl T.zv88 rfl (fun b4 w6 hXw6 hb4 hge4 => ?_))
  have hl4 := Lo.new hB hge4
  have hd1_4 := Dj.new hb1.ltO hge4
  have hd2_4 := Dj.new hb2.ltO hge4
  have hd3_4 := Dj.new hb3.ltO hge4
  have hB := hB.trans hXw6
  have hb1 := hb1.up hXw6
  have hb2 := hb2.up hXw6
  have hb3 := hb3.up hXw6
  refine WL.op rfl (OpK.storeA T.sz88 rfl rfl rfl rfl (by simp [Value.oneCell'] <;> first | done | (repeat' apply And.intro) <;> first | rfl | exact Inn.one1 (by assumption) (by omega) | exact Osl.oneCell (by assumption) | exact Osn.oneCell (by assumption) | exact Rd.oneCell (by assumption) | exact Rd.oneCell (NL.rd (by assumption)) | assumption) hb4 (fun w7 hXw7 hb4 => ?_))
  have hB := hB.updL hXw7 hl4
  have hb1 := hb1.updD hXw7 hd1_4
  have hb2 := hb2.updD hXw7 hd2_4
  have hb3 := hb3.updD hXw7 hd3_4
  refine WL.nilS ?_
  refine CW.seq ?_
  refine CW.seq ?_
  refine CW.reg ?_
  refine WL.pure rfl rfl rfl (PV.fieldAddr T.fl88_3 rfl hb1.cells) ?_
  refine WL.pure rfl rfl rfl (PV.load1 T.na62 rfl hb1.cells (Ext.refl _) rfl) ?_
  refine WL.pure rfl rfl rfl ((by first | exact PV.len rfl (by assumption) T.sl62 | exact PV.lenOs rfl (by assumption) T.sl62 | exact PV.len rfl (NL.rd (by assumption)) T.sl62 | exact PV.len rfl (Inn.rd (by assumption) (by omega)) T.sl62)) ?_
  refine WL.mv rfl rfl ?_
  refine WL.nilS ?_
  refine CW.block ?_
  have ho5 : Osl VB w7 none (.slice none 0 0) [] := (Osl.nil _ _)
  have hl5 : Lo w none := Lo.nl _
  have hd1_5 : Dj (some b1.block) none := Dj.nlR _
  have hd2_5 : Dj (some b2.block) none := Dj.nlR _
  have hd3_5 : Dj (some b3.block) none := Dj.nlR _
  have hd4_5 : Dj (some b4.block) none := Dj.nlR _
  have ho6 : Osn 4 gR w7 none (.slice none 0 0) [] := (Osn.nil gR_ok _)
  have hl6 : Lo w none := Lo.nl _
  have hd1_6 : Dj (some b1.block) none := Dj.nlR _
  have hd2_6 : Dj (some b2.block) none := Dj.nlR _
  have hd3_6 : Dj (some b3.block) none := Dj.nlR _
  have hd4_6 : Dj (some b4.block) none := Dj.nlR _
  have hd5_6 : Dj none none := Dj.nlR _
  have hlt1 := hb1.ltO
  have hlt2 := hb2.ltO
  have hlt3 := hb3.ltO
  have hlt4 := hb4.ltO
  have hlt5 := ho5.ltO
  have hlt6 := ho6.ltO
  refine CW.loop (σk := [(2, _), (3, _), (4, _), (6, _), (32, _)]) (fun ρ wz m => ∃ (v7 : Value) (og7 : Option Nat) (v8 : Value) (og8 : Option Nat) (i : Nat), ρ = [(33, .int .i64 (i : Nat))] ∧ m = xa3.length - i ∧ UpdL [none, none, (some b4.block)] w7 wz ∧ Osl VB wz og7 v7 ([] ++ dblF (chE xa3 xy3) xy3.length i) ∧ OgR w7 none og7 ∧ Osn 4 gR wz og8 v8 (([] : List R4)) ∧ OgR w7 none og8 ∧ Bx wz b4 [.int .i64 (wI (a0 * y0)), .int .i64 a1, v8, v7] ∧ Dj og7 og8 ∧ (i ≤ xa3.length)) (ρ₀ := [(33, _)]) (m₀ := _) ⟨rfl, rfl, rfl, rfl, rfl, rfl, trivial⟩ ⟨(.slice none 0 0), none, (.slice none 0 0), none, 0, rfl, rfl, (UpdL.refl _ _), osE ho5 (by exact dblF_zero _ _ _), OgR.refl _ _, osnE ho6 (by rfl), OgR.refl _ _, bxE hb4 (by first | rfl | (simp_all; done) | (simp_all; omega)), hd5_6, (by first | omega | rfl | (simp; done) | assumption | (simp_all; done))⟩ ?_
  rintro _ wl1 _ ⟨v7, og7, v8, og8, i, rfl, rfl, hU0, ho7, ha7, ho8, ha8, hb4, hd7_8, hi⟩
  have hb1 := hb1.loop hU0 ⟨hd1_5, hd1_6, hd1_4, trivial⟩
  have hb2 := hb2.loop hU0 ⟨hd2_5, hd2_6, hd2_4, trivial⟩
  have hb3 := hb3.loop hU0 ⟨hd3_5, hd3_6, hd3_4, trivial⟩
  have hl7 := Lo.ogr hl5 hB ha7
  have hg0_7 := ha7
  have hk0_7 : OkB [none, none, (some b4.block)] w7 og7 := OkB.ogr (OkB.mem (by simp)) (Nat.le_refl _) ha7
  have hd1_7 := Dj.ogr hd1_5 hlt1 ha7
  have hd2_7 := Dj.ogr hd2_5 hlt2 ha7
  have hd3_7 := Dj.ogr hd3_5 hlt3 ha7
  have hd4_7 := Dj.ogr hd4_5 hlt4 ha7
  have hl8 := Lo.ogr hl6 hB ha8
  have hg0_8 := ha8
  have hk0_8 : OkB [none, none, (some b4.block)] w7 og8 := OkB.ogr (OkB.mem (by simp)) (Nat.le_refl _) ha8
  have hd1_8 := Dj.ogr hd1_6 hlt1 ha8
  have hd2_8 := Dj.ogr hd2_6 hlt2 ha8
  have hd3_8 := Dj.ogr hd3_6 hlt3 ha8
  have hd4_8 := Dj.ogr hd4_6 hlt4 ha8
  have hk0_4 : OkB [none, none, (some b4.block)] w7 (some b4.block) := OkB.mem (by simp)
  have hB := hB.loop hU0 ⟨hl5, hl6, hl4, trivial⟩
  refine CW.seq ?_
  refine CW.reg ?_
  refine WL.pure rfl rfl rfl (PV.lss rfl rfl) ?_
  refine WL.nilS ?_
  refine CW.seq ?_
  refine CW.cond rfl (fun hc2 => ?_) (fun hc2 => ?_)
  · skip
    try simp only [nq] at hc2
    refine CW.skipS ?_
    refine CW.seq ?_
    refine CW.block ?_
    refine CW.seq ?_
    refine CW.reg ?_
    refine WL.mv rfl rfl ?_
    refine WL.asg rfl rfl ?_
    refine WL.nilS ?_
    refine CW.seq ?_
    refine CW.reg ?_
    refine WL.pure rfl rfl rfl (PV.fieldAddr T.fl88_3 rfl hb2.cells) ?_
    refine WL.pure rfl rfl rfl (PV.load1 T.na62 rfl hb2.cells (Ext.refl _) rfl) ?_
    refine WL.pure rfl rfl rfl ((by first | exact PV.len rfl (by assumption) T.sl62 | exact PV.lenOs rfl (by assumption) T.sl62 | exact PV.len rfl (NL.rd (by assumption)) T.sl62 | exact PV.len rfl (Inn.rd (by assumption) (by omega)) T.sl62)) ?_
    refine WL.mv rfl rfl ?_
    refine WL.nilS ?_
    refine CW.block ?_
    have hlt1 := hb1.ltO
    have hlt2 := hb2.ltO
    have hlt3 := hb3.ltO
    have hlt4 := hb4.ltO
    have hlt7 := ho7.ltO
    have hlt8 := ho8.ltO
    refine CW.loop (σk := [(2, _), (3, _), (4, _), (6, _), (7, _), (32, _), (33, _), (38, _)]) (fun ρ wz m => ∃ (v10 : Value) (og10 : Option Nat) (v11 : Value) (og11 : Option Nat) (k : Nat), ρ = [(39, .int .i64 (k : Nat))] ∧ m = xy3.length - k ∧ UpdL [og7, og8, (some b4.block)] wl1 wz ∧ Osl VB wz og10 v10 ([] ++ dblF (chE xa3 xy3) xy3.length i ++ rowF (chE xa3 xy3) i k) ∧ OgR wl1 og7 og10 ∧ Osn 4 gR wz og11 v11 (([] : List R4)) ∧ OgR wl1 og8 og11 ∧ Bx wz b4 [.int .i64 (wI (a0 * y0)), .int .i64 a1, v11, v10] ∧ Dj og10 og11 ∧ (k ≤ xy3.length)) (ρ₀ := [(39, _)]) (m₀ := _) ⟨rfl, rfl, rfl, rfl, rfl, rfl, rfl, rfl, rfl, trivial⟩ ⟨v7, og7, v8, og8, 0, rfl, rfl, (UpdL.refl _ _), osE ho7 (by exact rowF_zero _ _ _), OgR.refl _ _, osnE ho8 (by rfl), OgR.refl _ _, bxE hb4 (by first | rfl | (simp_all; done) | (simp_all; omega)), hd7_8, (by first | omega | rfl | (simp; done) | assumption | (simp_all; done))⟩ ?_
    rintro _ wl2 _ ⟨v10, og10, v11, og11, k, rfl, rfl, hU1, ho10, ha10, ho11, ha11, hb4, hd10_11, hk⟩
    have hU0 := hU0.trans hU1 ⟨hk0_7, hk0_8, hk0_4, trivial⟩
    have hb1 := hb1.loop hU1 ⟨hd1_7, hd1_8, hd1_4, trivial⟩
    have hb2 := hb2.loop hU1 ⟨hd2_7, hd2_8, hd2_4, trivial⟩
    have hb3 := hb3.loop hU1 ⟨hd3_7, hd3_8, hd3_4, trivial⟩
    have hl10 := Lo.ogr hl7 hB ha10
    have hg1_10 := ha10
    have hk1_10 : OkB [og7, og8, (some b4.block)] wl1 og10 := OkB.ogr (OkB.mem (by simp)) (Nat.le_refl _) ha10
    have hk0_10 := OkB.ogr hk0_7 (by first | assumption | exact UpdL.size (by assumption)) ha10
    have hg0_10 := OgR.trans hg0_7 (by first | assumption | exact UpdL.size (by assumption)) ha10
    have hd1_10 := Dj.ogr hd1_7 hlt1 ha10
    have hd2_10 := Dj.ogr hd2_7 hlt2 ha10
    have hd3_10 := Dj.ogr hd3_7 hlt3 ha10
    have hd4_10 := Dj.ogr hd4_7 hlt4 ha10
    have hl11 := Lo.ogr hl8 hB ha11
    have hg1_11 := ha11
    have hk1_11 : OkB [og7, og8, (some b4.block)] wl1 og11 := OkB.ogr (OkB.mem (by simp)) (Nat.le_refl _) ha11
    have hk0_11 := OkB.ogr hk0_8 (by first | assumption | exact UpdL.size (by assumption)) ha11
    have hg0_11 := OgR.trans hg0_8 (by first | assumption | exact UpdL.size (by assumption)) ha11
    have hd1_11 := Dj.ogr hd1_8 hlt1 ha11
    have hd2_11 := Dj.ogr hd2_8 hlt2 ha11
    have hd3_11 := Dj.ogr hd3_8 hlt3 ha11
    have hd4_11 := Dj.ogr hd4_8 hlt4 ha11
    have hk1_4 : OkB [og7, og8, (some b4.block)] wl1 (some b4.block) := OkB.mem (by simp)
    have hB := hB.loop hU1 ⟨hl7, hl8, hl4, trivial⟩
    have r1 := rowF_len (chE_len xa3 xy3) i k; have r2 := dblF_le (chE_len xa3 xy3) (m := xy3.length) (i := i) (M := 8) (I := 48) (by omega) (by omega); have hal : ([] ++ dblF (chE xa3 xy3) xy3.length i ++ rowF (chE xa3 xy3) i k).length ≤ 6000 := (by simp only [List.length_append, List.length_nil]; omega)
    refine CW.seq ?_
    refine CW.reg ?_
    refine WL.pure rfl rfl rfl (PV.lss rfl rfl) ?_
    refine WL.nilS ?_
    refine CW.seq ?_
    refine CW.cond rfl (fun hc3 => ?_) (fun hc3 => ?_)
    · skip
      try simp only [nq] at hc3
      refine CW.skipS ?_
      refine CW.seq ?_
      refine CW.block ?_
      refine CW.seq ?_
      refine CW.reg ?_
      refine WL.mv rfl rfl ?_
      refine WL.asg rfl rfl ?_
      refine WL.nilS ?_
      refine CW.draw T.mixed (by kernel_rfl) (fun _ _ _ _ _ h => h) (fun w8 w9 => Upd og10 w8 w9) 17 (.take 0 (.take 1 (.take 2 (.take 3 (.take 4 (.take 5 (.take 6 (.take 7 (.split (.take 8 (.take 9 (.take 10 (.take 11 (.take 12 (.take 13 (.must 14 (.must 15 (.take 16 (.must 17 .done)))))))))) (.take 8 (.take 9 (.take 10 (.take 11 (.take 12 (.take 13 (.must 14 (.must 15 (.take 16 (.must 17 .done))))))))))))))))))) (by kernel_rfl) (fun w8 hXd => ?_)
      have hB := hB.trans hXd
      have hb1 := hb1.up hXd
      have hb2 := hb2.up hXd
      have hb3 := hb3.up hXd
      have hb4 := hb4.up hXd
      have ho10 := ho10.up hXd
      have ho11 := ho11.up hXd
      have hU0 := hU0.ext hXd
      have hU1 := hU1.ext hXd
      have hBr := hB
      have hS : Upd og10 w8 w8 := Ext.toUpd (Ext.refl _)
      refine HP.take rfl rfl rfl rfl hS (fun wS hS1 => PV.fieldAddr T.fl88_3 rfl hb4.cells) ?_
      refine HP.take rfl rfl rfl rfl hS (fun wS hS1 => PV.load1 T.na62 rfl (Bx.cells (Bx.updD (by assumption) hS1 (by first | assumption | exact Dj.symm (by assumption)))) (Ext.refl _) rfl) ?_
      refine HP.take rfl rfl rfl rfl hS (fun wS hS1 => PV.fieldAddr T.fl88_3 rfl hb1.cells) ?_
      refine HP.take rfl rfl rfl rfl hS (fun wS hS1 => PV.load1 T.na62 rfl (Bx.cells (Bx.updD (by assumption) hS1 (by first | assumption | exact Dj.symm (by assumption)))) (Ext.refl _) rfl) ?_
      refine HP.take rfl rfl rfl rfl hS (fun wS hS1 => PV.move rfl) ?_
      first
        | refine HP.at (x := .tmp 45) (y := .tmp 46) (E := EB) (false) rfl rfl (by first | assumption | exact Inn.rd (by assumption) (by omega)) (by first | omega | (simp only [List.length_set]; omega) | (simp only [List.length_append, List.length_take, List.length_replicate, List.length_drop]; omega)) (fun p1 csp1 hpp1 hcp1 hq => ?_)
        | refine HP.atZ (x := .tmp 45) (y := .tmp 46) (E := EB) (false) rfl rfl (by first | assumption | exact Inn.rd (by assumption) (by omega)) (by first | omega | (simp only [List.length_set]; omega) | (simp only [List.length_append, List.length_take, List.length_replicate, List.length_drop]; omega)) (fun p1 csp1 hpp1 hzp1 hcp1 hq => ?_)
      cases hq
      refine HP.take rfl rfl rfl rfl hS (fun wS hS1 => (by first | exact PV.indexAddr hpp1 rfl rfl T.sl62 | exact PV.indexAddr hpp1 rfl (by rw [← hzp1]; rfl) T.sl62)) ?_
      refine HP.take rfl rfl rfl rfl hS (fun wS hS1 => (by first | exact PV.load0 T.na4 rfl (by first | exact Cells.up (by assumption) (hBr.updL hS1 hl10) | exact Bx.cells (Bx.updD (by assumption) hS1 (by first | assumption | exact Dj.symm (by assumption))) | exact Cells.upd (by assumption) hS1 (by simp)) (Ext.refl _) rfl | exact PV.load1 T.na4 rfl (by first | exact Cells.up (by assumption) (hBr.updL hS1 hl10) | exact Bx.cells (Bx.updD (by assumption) hS1 (by first | assumption | exact Dj.symm (by assumption))) | exact Cells.upd (by assumption) hS1 (by simp)) (Ext.refl _) rfl)) ?_
      refine HP.take rfl rfl rfl rfl hS (fun wS hS1 => PV.move rfl) ?_
      refine HP.split (t := 49) rfl (fun hc4 => ?_) (fun hc4 => ?_)
      rotate_left
      · skip
        try simp only [nq] at hc4
        refine HP.skip rfl rfl rfl rfl rfl rfl hS ?_
        refine HP.skip rfl rfl rfl rfl rfl rfl hS ?_
        refine HP.skip rfl rfl rfl rfl rfl rfl hS ?_
        refine HP.skip rfl rfl rfl rfl rfl rfl hS ?_
        refine HP.skip rfl rfl rfl rfl rfl rfl hS ?_
        refine HP.take rfl rfl rfl rfl hS (fun wS hS1 => PV.pickF rfl rfl) ?_
        refine HP.must rfl rfl (OpK.buildS VB (os := [.tmp 55]) [_] rfl T.sl62 rfl rfl T.zv4 rfl (by intro z hz; first | rfl | (simp only [List.mem_cons, List.not_mem_nil, or_false] at hz; subst hz; exact (by first | exact Rd.cells1 (by assumption) | exact Osl.cells1 (by assumption) | exact Osn.cells1 (by assumption) | exact Rd.cells1 (NL.rd (by assumption)) | exact Inn.cell1 (by assumption) (by omega) | assumption | rfl))) rfl (fun v13 g13 w9 hXw9 ho13 hge13 => ?_))
        have hl13 := Lo.new hB hge13
        have hd1_13 := Dj.new hb1.ltO hge13
        have hd2_13 := Dj.new hb2.ltO hge13
        have hd3_13 := Dj.new hb3.ltO hge13
        have hd4_13 := Dj.new hb4.ltO hge13
        have hd10_13 := Dj.new ho10.ltO hge13
        have hd11_13 := Dj.new ho11.ltO hge13
        have hk0_13 := OkN.new hU0 hge13
        have hg0_13 := OgR.new hU0.size hge13
        have hk1_13 := OkN.new hU1 hge13
        have hg1_13 := OgR.new hU1.size hge13
        refine ⟨Upd.trans hS (Ext.toUpd hXw9), ?_⟩
        have hS := Upd.trans hS (Ext.toUpd hXw9)
        have hB := hB.trans hXw9
        have hb1 := hb1.up hXw9
        have hb2 := hb2.up hXw9
        have hb3 := hb3.up hXw9
        have hb4 := hb4.up hXw9
        have ho10 := ho10.up hXw9
        have ho11 := ho11.up hXw9
        have hU0 := hU0.ext hXw9
        have hU1 := hU1.ext hXw9
        refine HP.must rfl rfl (OpK.appendS (f := VB) rfl T.sl62 T.zv4 rfl rfl ho10 rfl (Osl.src ho13 (fun _ => rfl)) (by first | (simp only [List.length_cons, List.length_nil]; omega) | (simp_all; omega)) (fun v14 og14 w10 hXw10 ho14 hap14 => ?_))
        have hl14 := Lo.app hl10 hB hap14
        have hd1_14 := Dj.app hd1_10 hb1.ltO hap14
        have hd2_14 := Dj.app hd2_10 hb2.ltO hap14
        have hd3_14 := Dj.app hd3_10 hb3.ltO hap14
        have hd4_14 := Dj.app hd4_10 hb4.ltO hap14
        have hd11_14 := Dj.app (Dj.symm hd10_11) ho11.ltO hap14
        have hd13_14 := Dj.app (Dj.symm hd10_13) ho13.ltO hap14
        have hk0_14 := OkN.app hU0 hk0_10 hap14
        have hg0_14 := OgR.app hg0_10 hU0.size hap14
        have hk1_14 := OkN.app hU1 hk1_10 hap14
        have hg1_14 := OgR.app hg1_10 hU1.size hap14
        refine ⟨Upd.trans hS hXw10, ?_⟩
        have hS := Upd.trans hS hXw10
        have hB := hB.updL hXw10 hl10
        have hb1 := hb1.updD hXw10 hd1_10
        have hb2 := hb2.updD hXw10 hd2_10
        have hb3 := hb3.updD hXw10 hd3_10
        have hb4 := hb4.updD hXw10 hd4_10
        have ho11 := ho11.updD hXw10 (Dj.symm hd10_11)
        have ho13 := ho13.updD hXw10 (Dj.symm hd10_13)
        have hU0 := hU0.step hXw10 hk0_10
        have hU1 := hU1.step hXw10 hk1_10
        refine HP.take rfl rfl rfl rfl hS (fun wS hS1 => PV.fieldAddr T.fl88_3 rfl hb4.cells) ?_
        refine HP.last rfl rfl (OpK.storeB T.sz62 rfl rfl (by first | rfl | exact Inn.one1 (by assumption) (by omega) | exact Osl.oneCell (by assumption) | exact Osn.oneCell (by assumption) | exact Rd.oneCell (by assumption) | exact Rd.oneCell (NL.rd (by assumption)) | assumption) hb4 rfl (fun w11 hXw11 hb4 => ?_))
        have hB := hB.updL hXw11 hl4
        have hb1 := hb1.updD hXw11 hd1_4
        have hb2 := hb2.updD hXw11 hd2_4
        have hb3 := hb3.updD hXw11 hd3_4
        have ho11 := ho11.updD hXw11 (Dj.symm hd4_11)
        have ho13 := ho13.updD hXw11 (Dj.symm hd4_13)
        have ho14 := ho14.updD hXw11 (Dj.symm hd4_14)
        have hU0 := hU0.step hXw11 hk0_4
        have hU1 := hU1.step hXw11 hk1_4
        refine HP.done ?_
        refine NQ.block ?_
        refine NQ.then ?_
        refine CW.reg ?_
        refine WL.pure rfl rfl rfl (PV.add rfl rfl (by constructor <;> omega)) ?_
        refine WL.mv rfl rfl ?_
        refine WL.nil ?_
        refine NQ.next (ρ := [(39, _)]) ⟨rfl, rfl, rfl, rfl, rfl, rfl, rfl, rfl, rfl, trivial⟩ ?_
        exact ⟨_, ⟨v14, og14, v11, og11, k + 1, rfl, rfl, hU1, osE ho14 (by first | exact rowF_put (chE_t (by assumption)) | exact rowF_put (chE_f (by assumption))), (by first | exact hg1_14 | exact OgR.weak hg1_14), osnE ho11 (by first | rfl | (simp_all; done) | (simp_all; omega)), (by first | exact hg1_11 | exact OgR.weak hg1_11), bxE hb4 (by first | rfl | (simp_all; done) | (simp_all; omega)), (Dj.symm hd11_14), (by first | omega | assumption | (simp_all; done) | (simp_all; omega))⟩, by omega⟩
      try simp only [nq] at hc4
      refine HP.takeG rfl rfl rfl rfl rfl rfl hS (fun wS hS1 => PV.fieldAddr T.fl88_3 rfl hb2.cells) ?_
      refine HP.takeG rfl rfl rfl rfl rfl rfl hS (fun wS hS1 => PV.load1 T.na62 rfl (Bx.cells (Bx.updD (by assumption) hS1 (by first | assumption | exact Dj.symm (by assumption)))) (Ext.refl _) rfl) ?_
      refine HP.takeG rfl rfl rfl rfl rfl rfl hS (fun wS hS1 => PV.move rfl) ?_
      first
        | refine HP.at (x := .tmp 51) (y := .tmp 52) (E := EB) (false) rfl rfl (by first | assumption | exact Inn.rd (by assumption) (by omega)) (by first | omega | (simp only [List.length_set]; omega) | (simp only [List.length_append, List.length_take, List.length_replicate, List.length_drop]; omega)) (fun p2 csp2 hpp2 hcp2 hq => ?_)
        | refine HP.atZ (x := .tmp 51) (y := .tmp 52) (E := EB) (false) rfl rfl (by first | assumption | exact Inn.rd (by assumption) (by omega)) (by first | omega | (simp only [List.length_set]; omega) | (simp only [List.length_append, List.length_take, List.length_replicate, List.length_drop]; omega)) (fun p2 csp2 hpp2 hzp2 hcp2 hq => ?_)
      cases hq
      refine HP.takeG rfl rfl rfl rfl rfl rfl hS (fun wS hS1 => (by first | exact PV.indexAddr hpp2 rfl rfl T.sl62 | exact PV.indexAddr hpp2 rfl (by rw [← hzp2]; rfl) T.sl62)) ?_
      refine HP.takeG rfl rfl rfl rfl rfl rfl hS (fun wS hS1 => (by first | exact PV.load0 T.na4 rfl (by first | exact Cells.up (by assumption) (hBr.updL hS1 hl10) | exact Bx.cells (Bx.updD (by assumption) hS1 (by first | assumption | exact Dj.symm (by assumption))) | exact Cells.upd (by assumption) hS1 (by simp)) (Ext.refl _) rfl | exact PV.load1 T.na4 rfl (by first | exact Cells.up (by assumption) (hBr.updL hS1 hl10) | exact Bx.cells (Bx.updD (by assumption) hS1 (by first | assumption | exact Dj.symm (by assumption))) | exact Cells.upd (by assumption) hS1 (by simp)) (Ext.refl _) rfl)) ?_
      refine HP.take rfl rfl rfl rfl hS (fun wS hS1 => PV.pickT rfl rfl) ?_
      refine HP.must rfl rfl (OpK.buildS VB (os := [.tmp 55]) [_] rfl T.sl62 rfl rfl T.zv4 rfl (by intro z hz; first | rfl | (simp only [List.mem_cons, List.not_mem_nil, or_false] at hz; subst hz; exact (by first | exact Rd.cells1 (by assumption) | exact Osl.cells1 (by assumption) | exact Osn.cells1 (by assumption) | exact Rd.cells1 (NL.rd (by assumption)) | exact Inn.cell1 (by assumption) (by omega) | assumption | rfl))) rfl (fun v15 g15 w12 hXw12 ho15 hge15 => ?_))
      have hl15 := Lo.new hB hge15
      have hd1_15 := Dj.new hb1.ltO hge15
      have hd2_15 := Dj.new hb2.ltO hge15
      have hd3_15 := Dj.new hb3.ltO hge15
      have hd4_15 := Dj.new hb4.ltO hge15
      have hd10_15 := Dj.new ho10.ltO hge15
      have hd11_15 := Dj.new ho11.ltO hge15
      have hk0_15 := OkN.new hU0 hge15
      have hg0_15 := OgR.new hU0.size hge15
      have hk1_15 := OkN.new hU1 hge15
      have hg1_15 := OgR.new hU1.size hge15
      refine ⟨Upd.trans hS (Ext.toUpd hXw12), ?_⟩
      have hS := Upd.trans hS (Ext.toUpd hXw12)
      have hB := hB.trans hXw12
      have hb1 := hb1.up hXw12
      have hb2 := hb2.up hXw12
      have hb3 := hb3.up hXw12
      have hb4 := hb4.up hXw12
      have ho10 := ho10.up hXw12
      have ho11 := ho11.up hXw12
      have hU0 := hU0.ext hXw12
      have hU1 := hU1.ext hXw12
      refine HP.must rfl rfl (OpK.appendS (f := VB) rfl T.sl62 T.zv4 rfl rfl ho10 rfl (Osl.src ho15 (fun _ => rfl)) (by first | (simp only [List.length_cons, List.length_nil]; omega) | (simp_all; omega)) (fun v16 og16 w13 hXw13 ho16 hap16 => ?_))
      have hl16 := Lo.app hl10 hB hap16
      have hd1_16 := Dj.app hd1_10 hb1.ltO hap16
      have hd2_16 := Dj.app hd2_10 hb2.ltO hap16
      have hd3_16 := Dj.app hd3_10 hb3.ltO hap16
      have hd4_16 := Dj.app hd4_10 hb4.ltO hap16
      have hd11_16 := Dj.app (Dj.symm hd10_11) ho11.ltO hap16
      have hd15_16 := Dj.app (Dj.symm hd10_15) ho15.ltO hap16
      have hk0_16 := OkN.app hU0 hk0_10 hap16
      have hg0_16 := OgR.app hg0_10 hU0.size hap16
      have hk1_16 := OkN.app hU1 hk1_10 hap16
      have hg1_16 := OgR.app hg1_10 hU1.size hap16
      refine ⟨Upd.trans hS hXw13, ?_⟩
      have hS := Upd.trans hS hXw13
      have hB := hB.updL hXw13 hl10
      have hb1 := hb1.updD hXw13 hd1_10
      have hb2 := hb2.updD hXw13 hd2_10
      have hb3 := hb3.updD hXw13 hd3_10
      have hb4 := hb4.updD hXw13 hd4_10
      have ho11 := ho11.updD hXw13 (Dj.symm hd10_11)
      have ho15 := ho15.updD hXw13 (Dj.symm hd10_15)
      have hU0 := hU0.step hXw13 hk0_10
      have hU1 := hU1.step hXw13 hk1_10
      refine HP.take rfl rfl rfl rfl hS (fun wS hS1 => PV.fieldAddr T.fl88_3 rfl hb4.cells) ?_
      refine HP.last rfl rfl (OpK.storeB T.sz62 rfl rfl (by first | rfl | exact Inn.one1 (by assumption) (by omega) | exact Osl.oneCell (by assumption) | exact Osn.oneCell (by assumption) | exact Rd.oneCell (by assumption) | exact Rd.oneCell (NL.rd (by assumption)) | assumption) hb4 rfl (fun w14 hXw14 hb4 => ?_))
      have hB := hB.updL hXw14 hl4
      have hb1 := hb1.updD hXw14 hd1_4
      have hb2 := hb2.updD hXw14 hd2_4
      have hb3 := hb3.updD hXw14 hd3_4
      have ho11 := ho11.updD hXw14 (Dj.symm hd4_11)
      have ho15 := ho15.updD hXw14 (Dj.symm hd4_15)
      have ho16 := ho16.updD hXw14 (Dj.symm hd4_16)
      have hU0 := hU0.step hXw14 hk0_4
      have hU1 := hU1.step hXw14 hk1_4
      refine HP.done ?_
      refine NQ.block ?_
      refine NQ.then ?_
      refine CW.reg ?_
      refine WL.pure rfl rfl rfl (PV.add rfl rfl (by constructor <;> omega)) ?_
      refine WL.mv rfl rfl ?_
      refine WL.nil ?_
      refine NQ.next (ρ := [(39, _)]) ⟨rfl, rfl, rfl, rfl, rfl, rfl, rfl, rfl, rfl, trivial⟩ ?_
      exact ⟨_, ⟨v16, og16, v11, og11, k + 1, rfl, rfl, hU1, osE ho16 (by first | exact rowF_put (chE_t (by assumption)) | exact rowF_put (chE_f (by assumption))), (by first | exact hg1_16 | exact OgR.weak hg1_16), osnE ho11 (by first | rfl | (simp_all; done) | (simp_all; omega)), (by first | exact hg1_11 | exact OgR.weak hg1_11), bxE hb4 (by first | rfl | (simp_all; done) | (simp_all; omega)), (Dj.symm hd11_16), (by first | omega | assumption | (simp_all; done) | (simp_all; omega))⟩, by omega⟩
    try simp only [nq] at hc3
    refine CW.exit ?_
    refine XQ.then ?_
    refine XQ.then ?_
    refine XQ.here ?_
    refine NQ.block ?_
    refine NQ.then ?_
    refine CW.reg ?_
    refine WL.pure rfl rfl rfl (PV.add rfl rfl (by constructor <;> omega)) ?_
    refine WL.mv rfl rfl ?_
    refine WL.nil ?_
    refine NQ.next (ρ := [(33, _)]) ⟨rfl, rfl, rfl, rfl, rfl, rfl, trivial⟩ ?_
    exact ⟨_, ⟨v10, og10, v11, og11, i + 1, rfl, rfl, hU0, osE ho10 (by exact dblF_succ (by omega)), (by first | exact hg0_10 | exact OgR.weak hg0_10), osnE ho11 (by first | rfl | (simp_all; done) | (simp_all; omega)), (by first | exact hg0_11 | exact OgR.weak hg0_11), bxE hb4 (by first | rfl | (simp_all; done) | (simp_all; omega)), hd10_11, (by first | omega | assumption | (simp_all; done) | (simp_all; omega))⟩, by omega⟩
  try simp only [nq] at hc2
  refine CW.exit ?_
  refine XQ.then ?_
  refine XQ.then ?_
  refine XQ.here ?_
  refine NQ.then ?_
  refine CW.seq ?_
  refine CW.seq ?_
  refine CW.reg ?_
  refine WL.pure rfl rfl rfl (PV.fieldAddr T.fl88_2 rfl hb1.cells) ?_
  refine WL.pure rfl rfl rfl (PV.load1 T.na86 rfl hb1.cells (Ext.refl _) rfl) ?_
  refine WL.pure rfl rfl rfl ((by first | exact PV.len rfl (by assumption) T.sl86 | exact PV.lenOs rfl (by assumption) T.sl86 | exact PV.len rfl (NL.rd (by assumption)) T.sl86 | exact PV.len rfl (Inn.rd (by assumption) (by omega)) T.sl86)) ?_
  refine WL.mv rfl rfl ?_
  refine WL.nilS ?_
  refine CW.block ?_
  have hlt1 := hb1.ltO
  have hlt2 := hb2.ltO
  have hlt3 := hb3.ltO
  have hlt4 := hb4.ltO
  have hlt7 := ho7.ltO
  have hlt8 := ho8.ltO
  refine CW.loop (σk := [(2, _), (3, _), (4, _), (6, _), (63, _)]) (fun ρ wz m => ∃ (v17 : Value) (og17 : Option Nat) (v18 : Value) (og18 : Option Nat) (i : Nat), ρ = [(64, .int .i64 (i : Nat))] ∧ m = xa2.length - i ∧ UpdL [og8, og7, (some b4.block)] wl1 wz ∧ Osn 4 gR wz og17 v17 ([] ++ dblF (ch1 y0 xa2 xy2) xy2.length i) ∧ OgR wl1 og8 og17 ∧ Osl VB wz og18 v18 ((cE xa3 xy3)) ∧ OgR wl1 og7 og18 ∧ Bx wz b4 [.int .i64 (wI (a0 * y0)), .int .i64 a1, v17, v18] ∧ Dj og17 og18 ∧ (i ≤ xa2.length)) (ρ₀ := [(64, _)]) (m₀ := _) ⟨rfl, rfl, rfl, rfl, rfl, rfl, trivial⟩ ⟨v8, og8, v7, og7, 0, rfl, rfl, (UpdL.refl _ _), osnE ho8 (by exact dblF_zero _ _ _), OgR.refl _ _, osE ho7 (by rw [show i = xa3.length from (by omega)]; rfl), OgR.refl _ _, bxE hb4 (by first | rfl | (simp_all; done) | (simp_all; omega)), (Dj.symm hd7_8), (by first | omega | rfl | (simp; done) | assumption | (simp_all; done))⟩ ?_
  rintro _ wl3 _ ⟨v17, og17, v18, og18, i, rfl, rfl, hU2, ho17, ha17, ho18, ha18, hb4, hd17_18, hi⟩
  have hb1 := hb1.loop hU2 ⟨hd1_8, hd1_7, hd1_4, trivial⟩
  have hb2 := hb2.loop hU2 ⟨hd2_8, hd2_7, hd2_4, trivial⟩
  have hb3 := hb3.loop hU2 ⟨hd3_8, hd3_7, hd3_4, trivial⟩
  have hl17 := Lo.ogr hl8 hB ha17
  have hg2_17 := ha17
  have hk2_17 : OkB [og8, og7, (some b4.block)] wl1 og17 := OkB.ogr (OkB.mem (by simp)) (Nat.le_refl _) ha17
  have hd1_17 := Dj.ogr hd1_8 hlt1 ha17
  have hd2_17 := Dj.ogr hd2_8 hlt2 ha17
  have hd3_17 := Dj.ogr hd3_8 hlt3 ha17
  have hd4_17 := Dj.ogr hd4_8 hlt4 ha17
  have hl18 := Lo.ogr hl7 hB ha18
  have hg2_18 := ha18
  have hk2_18 : OkB [og8, og7, (some b4.block)] wl1 og18 := OkB.ogr (OkB.mem (by simp)) (Nat.le_refl _) ha18
  have hd1_18 := Dj.ogr hd1_7 hlt1 ha18
  have hd2_18 := Dj.ogr hd2_7 hlt2 ha18
  have hd3_18 := Dj.ogr hd3_7 hlt3 ha18
  have hd4_18 := Dj.ogr hd4_7 hlt4 ha18
  have hk2_4 : OkB [og8, og7, (some b4.block)] wl1 (some b4.block) := OkB.mem (by simp)
  have hB := hB.loop hU2 ⟨hl8, hl7, hl4, trivial⟩
  refine CW.seq ?_
  refine CW.reg ?_
  refine WL.pure rfl rfl rfl (PV.lss rfl rfl) ?_
  refine WL.nilS ?_
  refine CW.seq ?_
  refine CW.cond rfl (fun hc5 => ?_) (fun hc5 => ?_)
  · skip
    try simp only [nq] at hc5
    refine CW.skipS ?_
    refine CW.seq ?_
    refine CW.block ?_
    refine CW.seq ?_
    refine CW.reg ?_
    refine WL.mv rfl rfl ?_
    refine WL.asg rfl rfl ?_
    refine WL.nilS ?_
    refine CW.seq ?_
    refine CW.reg ?_
    refine WL.pure rfl rfl rfl (PV.fieldAddr T.fl88_2 rfl hb1.cells) ?_
    refine WL.pure rfl rfl rfl (PV.load1 T.na86 rfl hb1.cells (Ext.refl _) rfl) ?_
    refine WL.mv rfl rfl ?_
    first
      | refine WL.at (x := .tmp 68) (y := .tmp 69) (E := ER) ((0, 0, 0, 0)) rfl rfl (by first | assumption | exact Inn.rd (by assumption) (by omega)) (by first | omega | (simp only [List.length_set]; omega) | (simp only [List.length_append, List.length_take, List.length_replicate, List.length_drop]; omega)) (fun p3 csp3 hpp3 hcp3 hq => ?_)
      | refine WL.atZ (x := .tmp 68) (y := .tmp 69) (E := ER) ((0, 0, 0, 0)) rfl rfl (by first | assumption | exact Inn.rd (by assumption) (by omega)) (by first | omega | (simp only [List.length_set]; omega) | (simp only [List.length_append, List.length_take, List.length_replicate, List.length_drop]; omega)) (fun p3 csp3 hpp3 hzp3 hcp3 hq => ?_)
    cases hq
    refine WL.pure rfl rfl rfl ((by first | exact PV.indexAddr hpp3 rfl rfl T.sl86 | exact PV.indexAddr hpp3 rfl (by rw [← hzp3]; rfl) T.sl86)) ?_
    refine WL.pure rfl rfl rfl ((by first | exact PV.loadA T.ag178 rfl (by first | exact Cells.up (by assumption) hB | exact Bx.cells (by assumption) | assumption) (Ext.refl _) rfl | exact PV.loadP (ds := [_, _, _, _]) T.ag178 rfl (by first | exact Cells.up (by assumption) hB | exact Bx.cells (by assumption) | assumption) (Ext.refl _) rfl rfl)) ?_
    refine WL.op rfl (OpK.alloc rfl T.zv178 rfl (fun b20 w15 hXw15 hb20 hge20 => ?_))
    have hl20 := Lo.new hB hge20
    have hd1_20 := Dj.new hb1.ltO hge20
    have hd2_20 := Dj.new hb2.ltO hge20
    have hd3_20 := Dj.new hb3.ltO hge20
    have hd4_20 := Dj.new hb4.ltO hge20
    have hd17_20 := Dj.new ho17.ltO hge20
    have hd18_20 := Dj.new ho18.ltO hge20
    have hk2_20 := OkN.new hU2 hge20
    have hg2_20 := OgR.new hU2.size hge20
    have hB := hB.trans hXw15
    have hb1 := hb1.up hXw15
    have hb2 := hb2.up hXw15
    have hb3 := hb3.up hXw15
    have hb4 := hb4.up hXw15
    have ho17 := ho17.up hXw15
    have ho18 := ho18.up hXw15
    have hU2 := hU2.ext hXw15
    refine WL.op rfl (OpK.storeA T.sz178 rfl rfl rfl rfl (by simp [Value.oneCell'] <;> first | done | (repeat' apply And.intro) <;> first | rfl | exact Inn.one1 (by assumption) (by omega) | exact Osl.oneCell (by assumption) | exact Osn.oneCell (by assumption) | exact Rd.oneCell (by assumption) | exact Rd.oneCell (NL.rd (by assumption)) | assumption) hb20 (fun w16 hXw16 hb20 => ?_))
    have hB := hB.updL hXw16 hl20
    have hb1 := hb1.updD hXw16 hd1_20
    have hb2 := hb2.updD hXw16 hd2_20
    have hb3 := hb3.updD hXw16 hd3_20
    have hb4 := hb4.updD hXw16 hd4_20
    have ho17 := ho17.updD hXw16 hd17_20
    have ho18 := ho18.updD hXw16 hd18_20
    have hU2 := hU2.step hXw16 hk2_20
    refine WL.nilS ?_
    refine CW.seq ?_
    refine CW.reg ?_
    refine WL.pure rfl rfl rfl (PV.fieldAddr T.fl88_2 rfl hb2.cells) ?_
    refine WL.pure rfl rfl rfl (PV.load1 T.na86 rfl hb2.cells (Ext.refl _) rfl) ?_
    refine WL.pure rfl rfl rfl ((by first | exact PV.len rfl (by assumption) T.sl86 | exact PV.lenOs rfl (by assumption) T.sl86 | exact PV.len rfl (NL.rd (by assumption)) T.sl86 | exact PV.len rfl (Inn.rd (by assumption) (by omega)) T.sl86)) ?_
    refine WL.mv rfl rfl ?_
    refine WL.nilS ?_
    refine CW.block ?_
    have hlt1 := hb1.ltO
    have hlt2 := hb2.ltO
    have hlt3 := hb3.ltO
    have hlt4 := hb4.ltO
    have hlt17 := ho17.ltO
    have hlt18 := ho18.ltO
    have hlt20 := hb20.ltO
    refine CW.loop (σk := [(2, _), (3, _), (4, _), (6, _), (10, _), (63, _), (64, _), (74, _)]) (fun ρ wz m => ∃ (v21 : Value) (og21 : Option Nat) (v22 : Value) (og22 : Option Nat) (k : Nat), ρ = [(75, .int .i64 (k : Nat))] ∧ m = xy2.length - k ∧ UpdL [og17, og18, (some b4.block)] w16 wz ∧ Osn 4 gR wz og21 v21 ([] ++ dblF (ch1 y0 xa2 xy2) xy2.length i ++ rowF (ch1 y0 xa2 xy2) i k) ∧ OgR w16 og17 og21 ∧ Osl VB wz og22 v22 ((cE xa3 xy3)) ∧ OgR w16 og18 og22 ∧ Bx wz b4 [.int .i64 (wI (a0 * y0)), .int .i64 a1, v21, v22] ∧ Dj og21 og22 ∧ (k ≤ xy2.length)) (ρ₀ := [(75, _)]) (m₀ := _) ⟨rfl, rfl, rfl, rfl, rfl, rfl, rfl, rfl, rfl, trivial⟩ ⟨v17, og17, v18, og18, 0, rfl, rfl, (UpdL.refl _ _), osnE ho17 (by exact rowF_zero _ _ _), OgR.refl _ _, osE ho18 (by rfl), OgR.refl _ _, bxE hb4 (by first | rfl | (simp_all; done) | (simp_all; omega)), hd17_18, (by first | omega | rfl | (simp; done) | assumption | (simp_all; done))⟩ ?_
    rintro _ wl4 _ ⟨v21, og21, v22, og22, k, rfl, rfl, hU3, ho21, ha21, ho22, ha22, hb4, hd21_22, hk⟩
    have hU2 := hU2.trans hU3 ⟨hk2_17, hk2_18, hk2_4, trivial⟩
    have hb1 := hb1.loop hU3 ⟨hd1_17, hd1_18, hd1_4, trivial⟩
    have hb2 := hb2.loop hU3 ⟨hd2_17, hd2_18, hd2_4, trivial⟩
    have hb3 := hb3.loop hU3 ⟨hd3_17, hd3_18, hd3_4, trivial⟩
    have hb20 := hb20.loop hU3 ⟨(Dj.symm hd17_20), (Dj.symm hd18_20), (Dj.symm hd4_20), trivial⟩
    have hl21 := Lo.ogr hl17 hB ha21
    have hg3_21 := ha21
    have hk3_21 : OkB [og17, og18, (some b4.block)] w16 og21 := OkB.ogr (OkB.mem (by simp)) (Nat.le_refl _) ha21
    have hk2_21 := OkB.ogr hk2_17 (by first | assumption | exact UpdL.size (by assumption)) ha21
    have hg2_21 := OgR.trans hg2_17 (by first | assumption | exact UpdL.size (by assumption)) ha21
    have hd1_21 := Dj.ogr hd1_17 hlt1 ha21
    have hd2_21 := Dj.ogr hd2_17 hlt2 ha21
    have hd3_21 := Dj.ogr hd3_17 hlt3 ha21
    have hd4_21 := Dj.ogr hd4_17 hlt4 ha21
    have hd20_21 := Dj.ogr (Dj.symm hd17_20) hlt20 ha21
    have hl22 := Lo.ogr hl18 hB ha22
    have hg3_22 := ha22
    have hk3_22 : OkB [og17, og18, (some b4.block)] w16 og22 := OkB.ogr (OkB.mem (by simp)) (Nat.le_refl _) ha22
    have hk2_22 := OkB.ogr hk2_18 (by first | assumption | exact UpdL.size (by assumption)) ha22
    have hg2_22 := OgR.trans hg2_18 (by first | assumption | exact UpdL.size (by assumption)) ha22
    have hd1_22 := Dj.ogr hd1_18 hlt1 ha22
    have hd2_22 := Dj.ogr hd2_18 hlt2 ha22
    have hd3_22 := Dj.ogr hd3_18 hlt3 ha22
    have hd4_22 := Dj.ogr hd4_18 hlt4 ha22
    have hd20_22 := Dj.ogr (Dj.symm hd18_20) hlt20 ha22
    have hk3_4 : OkB [og17, og18, (some b4.block)] w16 (some b4.block) := OkB.mem (by simp)
    have hB := hB.loop hU3 ⟨hl17, hl18, hl4, trivial⟩
    have r1 := rowF_len (ch1_len y0 xa2 xy2) i k; have r2 := dblF_le (ch1_len y0 xa2 xy2) (m := xy2.length) (i := i) (M := 48) (I := 48) (by omega) (by omega); have hal : ([] ++ dblF (ch1 y0 xa2 xy2) xy2.length i ++ rowF (ch1 y0 xa2 xy2) i k).length ≤ 6000 := (by simp only [List.length_append, List.length_nil]; omega)
    refine CW.seq ?_
    refine CW.reg ?_
    refine WL.pure rfl rfl rfl (PV.lss rfl rfl) ?_
    refine WL.nilS ?_
    refine CW.seq ?_
    refine CW.cond rfl (fun hc6 => ?_) (fun hc6 => ?_)
    · skip
      try simp only [nq] at hc6
      refine CW.skipS ?_
      refine CW.seq ?_
      refine CW.block ?_
      refine CW.seq ?_
      refine CW.reg ?_
      refine WL.mv rfl rfl ?_
      refine WL.asg rfl rfl ?_
      refine WL.nilS ?_
      refine CW.seq ?_
      refine CW.reg ?_
      refine WL.pure rfl rfl rfl (PV.fieldAddr T.fl88_2 rfl hb2.cells) ?_
      refine WL.pure rfl rfl rfl (PV.load1 T.na86 rfl hb2.cells (Ext.refl _) rfl) ?_
      refine WL.mv rfl rfl ?_
      first
        | refine WL.at (x := .tmp 79) (y := .tmp 80) (E := ER) ((0, 0, 0, 0)) rfl rfl (by first | assumption | exact Inn.rd (by assumption) (by omega)) (by first | omega | (simp only [List.length_set]; omega) | (simp only [List.length_append, List.length_take, List.length_replicate, List.length_drop]; omega)) (fun p4 csp4 hpp4 hcp4 hq => ?_)
        | refine WL.atZ (x := .tmp 79) (y := .tmp 80) (E := ER) ((0, 0, 0, 0)) rfl rfl (by first | assumption | exact Inn.rd (by assumption) (by omega)) (by first | omega | (simp only [List.length_set]; omega) | (simp only [List.length_append, List.length_take, List.length_replicate, List.length_drop]; omega)) (fun p4 csp4 hpp4 hzp4 hcp4 hq => ?_)
      cases hq
      refine WL.pure rfl rfl rfl ((by first | exact PV.indexAddr hpp4 rfl rfl T.sl86 | exact PV.indexAddr hpp4 rfl (by rw [← hzp4]; rfl) T.sl86)) ?_
      refine WL.pure rfl rfl rfl ((by first | exact PV.loadA T.ag178 rfl (by first | exact Cells.up (by assumption) hB | exact Bx.cells (by assumption) | assumption) (Ext.refl _) rfl | exact PV.loadP (ds := [_, _, _, _]) T.ag178 rfl (by first | exact Cells.up (by assumption) hB | exact Bx.cells (by assumption) | assumption) (Ext.refl _) rfl rfl)) ?_
      refine WL.op rfl (OpK.alloc rfl T.zv178 rfl (fun b24 w17 hXw17 hb24 hge24 => ?_))
      have hl24 := Lo.new hB hge24
      have hd1_24 := Dj.new hb1.ltO hge24
      have hd2_24 := Dj.new hb2.ltO hge24
      have hd3_24 := Dj.new hb3.ltO hge24
      have hd4_24 := Dj.new hb4.ltO hge24
      have hd20_24 := Dj.new hb20.ltO hge24
      have hd21_24 := Dj.new ho21.ltO hge24
      have hd22_24 := Dj.new ho22.ltO hge24
      have hk2_24 := OkN.new hU2 hge24
      have hg2_24 := OgR.new hU2.size hge24
      have hk3_24 := OkN.new hU3 hge24
      have hg3_24 := OgR.new hU3.size hge24
      have hB := hB.trans hXw17
      have hb1 := hb1.up hXw17
      have hb2 := hb2.up hXw17
      have hb3 := hb3.up hXw17
      have hb4 := hb4.up hXw17
      have hb20 := hb20.up hXw17
      have ho21 := ho21.up hXw17
      have ho22 := ho22.up hXw17
      have hU2 := hU2.ext hXw17
      have hU3 := hU3.ext hXw17
      refine WL.op rfl (OpK.storeA T.sz178 rfl rfl rfl rfl (by simp [Value.oneCell'] <;> first | done | (repeat' apply And.intro) <;> first | rfl | exact Inn.one1 (by assumption) (by omega) | exact Osl.oneCell (by assumption) | exact Osn.oneCell (by assumption) | exact Rd.oneCell (by assumption) | exact Rd.oneCell (NL.rd (by assumption)) | assumption) hb24 (fun w18 hXw18 hb24 => ?_))
      have hB := hB.updL hXw18 hl24
      have hb1 := hb1.updD hXw18 hd1_24
      have hb2 := hb2.updD hXw18 hd2_24
      have hb3 := hb3.updD hXw18 hd3_24
      have hb4 := hb4.updD hXw18 hd4_24
      have hb20 := hb20.updD hXw18 hd20_24
      have ho21 := ho21.updD hXw18 hd21_24
      have ho22 := ho22.updD hXw18 hd22_24
      have hU2 := hU2.step hXw18 hk2_24
      have hU3 := hU3.step hXw18 hk3_24
      refine WL.nilS ?_
      refine CW.seq ?_
      refine CW.reg ?_
      refine WL.pure rfl rfl rfl (PV.fieldAddr T.fl178_3 rfl hb20.cells) ?_
      refine WL.pure rfl rfl rfl (PV.load1 T.na2 rfl hb20.cells (Ext.refl _) rfl) ?_
      refine WL.pure rfl rfl rfl (PV.geq rfl rfl) ?_
      refine WL.mv rfl rfl ?_
      refine WL.split (t := 86) rfl (fun hc7 => ?_) (fun hc7 => ?_)
      rotate_left
      · skip
        try simp only [nq] at hc7
        refine WL.skip rfl rfl rfl rfl rfl ?_
        refine WL.skip rfl rfl rfl rfl rfl ?_
        refine WL.skip rfl rfl rfl rfl rfl ?_
        refine WL.skip rfl rfl rfl rfl rfl ?_
        refine WL.skip rfl rfl rfl rfl rfl ?_
        refine WL.pure rfl rfl rfl (PV.pickF rfl rfl) ?_
        refine WL.nilS ?_
        refine CW.condF rfl ?_
        refine CW.skip ?_
        refine NQ.block ?_
        refine NQ.then ?_
        refine CW.reg ?_
        refine WL.pure rfl rfl rfl (PV.add rfl rfl (by constructor <;> omega)) ?_
        refine WL.mv rfl rfl ?_
        refine WL.nil ?_
        refine NQ.next (ρ := [(75, _)]) ⟨rfl, rfl, rfl, rfl, rfl, rfl, rfl, rfl, rfl, trivial⟩ ?_
        exact ⟨_, ⟨v21, og21, v22, og22, k + 1, rfl, rfl, hU3, osnE ho21 (by first | exact rowF_put (onF_yes (by omega) rfl) | exact rowF_none (onF_no (by omega))), (by first | exact hg3_21 | exact OgR.weak hg3_21), osE ho22 (by first | rfl | (simp_all; done) | (simp_all; omega)), (by first | exact hg3_22 | exact OgR.weak hg3_22), bxE hb4 (by first | rfl | (simp_all; done) | (simp_all; omega)), hd21_22, (by first | omega | assumption | (simp_all; done) | (simp_all; omega))⟩, by omega⟩
      try simp only [nq] at hc7
      refine WL.pureG rfl rfl rfl rfl rfl (PV.fieldAddr T.fl178_3 rfl hb20.cells) ?_
      refine WL.pureG rfl rfl rfl rfl rfl (PV.load1 T.na2 rfl hb20.cells (Ext.refl _) rfl) ?_
      refine WL.pureG rfl rfl rfl rfl rfl (PV.fieldAddr T.fl178_2 rfl hb24.cells) ?_
      refine WL.pureG rfl rfl rfl rfl rfl (PV.load1 T.na2 rfl hb24.cells (Ext.refl _) rfl) ?_
      refine WL.pureG rfl rfl rfl rfl rfl (PV.eql rfl rfl) ?_
      refine WL.pure rfl rfl rfl (PV.pickT rfl rfl) ?_
      refine WL.nilS ?_
      refine CW.cond rfl (fun hc8 => ?_) (fun hc8 => ?_)
      · skip
        try simp only [nq] at hc8
        refine CW.reg ?_
        refine WL.pure rfl rfl rfl (PV.fieldAddr T.fl88_2 rfl hb4.cells) ?_
        refine WL.pure rfl rfl rfl (PV.load1 T.na86 rfl hb4.cells (Ext.refl _) rfl) ?_
        refine WL.pure rfl rfl rfl (PV.fieldAddr T.fl178_0 rfl hb20.cells) ?_
        refine WL.pure rfl rfl rfl (PV.load1 T.na2 rfl hb20.cells (Ext.refl _) rfl) ?_
        refine WL.pure rfl rfl rfl (PV.fieldAddr T.fl88_0 rfl hb2.cells) ?_
        refine WL.pure rfl rfl rfl (PV.load1 T.na2 rfl hb2.cells (Ext.refl _) rfl) ?_
        refine WL.pure rfl rfl rfl (PV.mulW rfl rfl) ?_
        refine WL.pure rfl rfl rfl (PV.fieldAddr T.fl178_0 rfl hb24.cells) ?_
        refine WL.pure rfl rfl rfl (PV.load1 T.na2 rfl hb24.cells (Ext.refl _) rfl) ?_
        refine WL.pure rfl rfl rfl (PV.addW rfl rfl) ?_
        refine WL.pure rfl rfl rfl (PV.fieldAddr T.fl178_1 rfl hb20.cells) ?_
        refine WL.pure rfl rfl rfl (PV.load1 T.na2 rfl hb20.cells (Ext.refl _) rfl) ?_
        refine WL.pure rfl rfl rfl (PV.fieldAddr T.fl88_0 rfl hb2.cells) ?_
        refine WL.pure rfl rfl rfl (PV.load1 T.na2 rfl hb2.cells (Ext.refl _) rfl) ?_
        refine WL.pure rfl rfl rfl (PV.mulW rfl rfl) ?_
        refine WL.pure rfl rfl rfl (PV.fieldAddr T.fl178_1 rfl hb24.cells) ?_
        refine WL.pure rfl rfl rfl (PV.load1 T.na2 rfl hb24.cells (Ext.refl _) rfl) ?_
        refine WL.pure rfl rfl rfl (PV.addW rfl rfl) ?_
        refine WL.pure rfl rfl rfl (PV.fieldAddr T.fl178_2 rfl hb20.cells) ?_
        refine WL.pure rfl rfl rfl (PV.load1 T.na2 rfl hb20.cells (Ext.refl _) rfl) ?_
        refine WL.pure rfl rfl rfl (PV.fieldAddr T.fl178_3 rfl hb24.cells) ?_
        refine WL.pure rfl rfl rfl (PV.load1 T.na2 rfl hb24.cells (Ext.refl _) rfl) ?_
        refine WL.pure rfl rfl rfl (PV.build (ks := [0, 1, 2, 3]) (os := [.tmp 102, .tmp 110, .tmp 112, .tmp 114]) (css := [[_], [_], [_], [_]]) (ds := [_, _, _, _]) T.bu178 rfl rfl ⟨rfl, rfl, rfl, rfl, trivial⟩ rfl) ?_
        refine WL.op rfl (OpK.build4 (os := [.tmp 115]) rfl T.sl86 rfl rfl T.zv178 rfl rfl (fun v25 g25 w19 hXw19 ho25 hge25 => ?_))
        have hl25 := Lo.new hB hge25
        have hd1_25 := Dj.new hb1.ltO hge25
        have hd2_25 := Dj.new hb2.ltO hge25
        have hd3_25 := Dj.new hb3.ltO hge25
        have hd4_25 := Dj.new hb4.ltO hge25
        have hd20_25 := Dj.new hb20.ltO hge25
        have hd21_25 := Dj.new ho21.ltO hge25
        have hd22_25 := Dj.new ho22.ltO hge25
        have hd24_25 := Dj.new hb24.ltO hge25
        have hk2_25 := OkN.new hU2 hge25
        have hg2_25 := OgR.new hU2.size hge25
        have hk3_25 := OkN.new hU3 hge25
        have hg3_25 := OgR.new hU3.size hge25
        have hB := hB.trans hXw19
        have hb1 := hb1.up hXw19
        have hb2 := hb2.up hXw19
        have hb3 := hb3.up hXw19
        have hb4 := hb4.up hXw19
        have hb20 := hb20.up hXw19
        have ho21 := ho21.up hXw19
        have ho22 := ho22.up hXw19
        have hb24 := hb24.up hXw19
        have hU2 := hU2.ext hXw19
        have hU3 := hU3.ext hXw19
        refine WL.op rfl (OpK.appendN (g := gR) rfl T.sl86 T.zv178 rfl rfl ho21 rfl (Osn.src ho25) (by first | (simp only [List.length_cons, List.length_nil]; omega) | (simp_all; omega)) (fun v26 og26 w20 hXw20 ho26 hap26 => ?_))
        have hl26 := Lo.app hl21 hB hap26
        have hd1_26 := Dj.app hd1_21 hb1.ltO hap26
        have hd2_26 := Dj.app hd2_21 hb2.ltO hap26
        have hd3_26 := Dj.app hd3_21 hb3.ltO hap26
        have hd4_26 := Dj.app hd4_21 hb4.ltO hap26
        have hd20_26 := Dj.app hd20_21 hb20.ltO hap26
        have hd22_26 := Dj.app (Dj.symm hd21_22) ho22.ltO hap26
        have hd24_26 := Dj.app (Dj.symm hd21_24) hb24.ltO hap26
        have hd25_26 := Dj.app (Dj.symm hd21_25) ho25.ltO hap26
        have hk2_26 := OkN.app hU2 hk2_21 hap26
        have hg2_26 := OgR.app hg2_21 hU2.size hap26
        have hk3_26 := OkN.app hU3 hk3_21 hap26
        have hg3_26 := OgR.app hg3_21 hU3.size hap26
        have hB := hB.updL hXw20 hl21
        have hb1 := hb1.updD hXw20 hd1_21
        have hb2 := hb2.updD hXw20 hd2_21
        have hb3 := hb3.updD hXw20 hd3_21
        have hb4 := hb4.updD hXw20 hd4_21
        have hb20 := hb20.updD hXw20 hd20_21
        have ho22 := ho22.updD hXw20 (Dj.symm hd21_22)
        have hb24 := hb24.updD hXw20 (Dj.symm hd21_24)
        have ho25 := ho25.updD hXw20 (Dj.symm hd21_25)
        have hU2 := hU2.step hXw20 hk2_21
        have hU3 := hU3.step hXw20 hk3_21
        refine WL.pure rfl rfl rfl (PV.fieldAddr T.fl88_2 rfl hb4.cells) ?_
        refine WL.op rfl (OpK.storeB T.sz86 rfl rfl (by first | rfl | exact Inn.one1 (by assumption) (by omega) | exact Osl.oneCell (by assumption) | exact Osn.oneCell (by assumption) | exact Rd.oneCell (by assumption) | exact Rd.oneCell (NL.rd (by assumption)) | assumption) hb4 rfl (fun w21 hXw21 hb4 => ?_))
        have hB := hB.updL hXw21 hl4
        have hb1 := hb1.updD hXw21 hd1_4
        have hb2 := hb2.updD hXw21 hd2_4
        have hb3 := hb3.updD hXw21 hd3_4
        have hb20 := hb20.updD hXw21 (Dj.symm hd4_20)
        have ho22 := ho22.updD hXw21 (Dj.symm hd4_22)
        have hb24 := hb24.updD hXw21 (Dj.symm hd4_24)
        have ho25 := ho25.updD hXw21 (Dj.symm hd4_25)
        have ho26 := ho26.updD hXw21 (Dj.symm hd4_26)
        have hU2 := hU2.step hXw21 hk2_4
        have hU3 := hU3.step hXw21 hk3_4
        refine WL.nil ?_
        refine NQ.block ?_
        refine NQ.then ?_
        refine CW.reg ?_
        refine WL.pure rfl rfl rfl (PV.add rfl rfl (by constructor <;> omega)) ?_
        refine WL.mv rfl rfl ?_
        refine WL.nil ?_
        refine NQ.next (ρ := [(75, _)]) ⟨rfl, rfl, rfl, rfl, rfl, rfl, rfl, rfl, rfl, trivial⟩ ?_
        exact ⟨_, ⟨v26, og26, v22, og22, k + 1, rfl, rfl, hU3, osnE ho26 (by first | exact rowF_put (onF_yes (by omega) rfl) | exact rowF_none (onF_no (by omega))), (by first | exact hg3_26 | exact OgR.weak hg3_26), osE ho22 (by first | rfl | (simp_all; done) | (simp_all; omega)), (by first | exact hg3_22 | exact OgR.weak hg3_22), bxE hb4 (by first | rfl | (simp_all; done) | (simp_all; omega)), (Dj.symm hd22_26), (by first | omega | assumption | (simp_all; done) | (simp_all; omega))⟩, by omega⟩
      try simp only [nq] at hc8
      refine CW.skip ?_
      refine NQ.block ?_
      refine NQ.then ?_
      refine CW.reg ?_
      refine WL.pure rfl rfl rfl (PV.add rfl rfl (by constructor <;> omega)) ?_
      refine WL.mv rfl rfl ?_
      refine WL.nil ?_
      refine NQ.next (ρ := [(75, _)]) ⟨rfl, rfl, rfl, rfl, rfl, rfl, rfl, rfl, rfl, trivial⟩ ?_
      exact ⟨_, ⟨v21, og21, v22, og22, k + 1, rfl, rfl, hU3, osnE ho21 (by first | exact rowF_put (onF_yes (by omega) rfl) | exact rowF_none (onF_no (by omega))), (by first | exact hg3_21 | exact OgR.weak hg3_21), osE ho22 (by first | rfl | (simp_all; done) | (simp_all; omega)), (by first | exact hg3_22 | exact OgR.weak hg3_22), bxE hb4 (by first | rfl | (simp_all; done) | (simp_all; omega)), hd21_22, (by first | omega | assumption | (simp_all; done) | (simp_all; omega))⟩, by omega⟩
    try simp only [nq] at hc6
    refine CW.exit ?_
    refine XQ.then ?_
    refine XQ.then ?_
    refine XQ.here ?_
    refine NQ.block ?_
    refine NQ.then ?_
    refine CW.reg ?_
    refine WL.pure rfl rfl rfl (PV.add rfl rfl (by constructor <;> omega)) ?_
    refine WL.mv rfl rfl ?_
    refine WL.nil ?_
    refine NQ.next (ρ := [(64, _)]) ⟨rfl, rfl, rfl, rfl, rfl, rfl, trivial⟩ ?_
    exact ⟨_, ⟨v21, og21, v22, og22, i + 1, rfl, rfl, hU2, osnE ho21 (by exact dblF_succ (by omega)), (by first | exact hg2_21 | exact OgR.weak hg2_21), osE ho22 (by first | rfl | (simp_all; done) | (simp_all; omega)), (by first | exact hg2_22 | exact OgR.weak hg2_22), bxE hb4 (by first | rfl | (simp_all; done) | (simp_all; omega)), hd21_22, (by first | omega | assumption | (simp_all; done) | (simp_all; omega))⟩, by omega⟩
  try simp only [nq] at hc5
  refine CW.exit ?_
  refine XQ.then ?_
  refine XQ.then ?_
  refine XQ.here ?_
  refine NQ.then ?_
  refine CW.seq ?_
  refine CW.seq ?_
  refine CW.reg ?_
  refine WL.pure rfl rfl rfl (PV.fieldAddr T.fl88_2 rfl hb1.cells) ?_
  refine WL.pure rfl rfl rfl (PV.load1 T.na86 rfl hb1.cells (Ext.refl _) rfl) ?_
  refine WL.pure rfl rfl rfl ((by first | exact PV.len rfl (by assumption) T.sl86 | exact PV.lenOs rfl (by assumption) T.sl86 | exact PV.len rfl (NL.rd (by assumption)) T.sl86 | exact PV.len rfl (Inn.rd (by assumption) (by omega)) T.sl86)) ?_
  refine WL.mv rfl rfl ?_
  refine WL.nilS ?_
  refine CW.block ?_
  have hlt1 := hb1.ltO
  have hlt2 := hb2.ltO
  have hlt3 := hb3.ltO
  have hlt4 := hb4.ltO
  have hlt17 := ho17.ltO
  have hlt18 := ho18.ltO
  refine CW.loop (σk := [(2, _), (3, _), (4, _), (6, _), (123, _)]) (fun ρ wz m => ∃ (v27 : Value) (og27 : Option Nat) (v28 : Value) (og28 : Option Nat) (i : Nat), ρ = [(124, .int .i64 (i : Nat))] ∧ m = xa2.length - i ∧ UpdL [og17, og18, (some b4.block)] wl3 wz ∧ Osn 4 gR wz og27 v27 ((cA y0 xa2 xy2) ++ dblF (ch2 y0 xa2) y0.toNat i) ∧ OgR wl3 og17 og27 ∧ Osl VB wz og28 v28 ((cE xa3 xy3)) ∧ OgR wl3 og18 og28 ∧ Bx wz b4 [.int .i64 (wI (a0 * y0)), .int .i64 a1, v27, v28] ∧ Dj og27 og28 ∧ (i ≤ xa2.length)) (ρ₀ := [(124, _)]) (m₀ := _) ⟨rfl, rfl, rfl, rfl, rfl, rfl, trivial⟩ ⟨v17, og17, v18, og18, 0, rfl, rfl, (UpdL.refl _ _), osnE ho17 (by rw [show i = xa2.length from (by omega)]; exact dblF_zero _ _ _), OgR.refl _ _, osE ho18 (by rfl), OgR.refl _ _, bxE hb4 (by first | rfl | (simp_all; done) | (simp_all; omega)), hd17_18, (by first | omega | rfl | (simp; done) | assumption | (simp_all; done))⟩ ?_
  rintro _ wl5 _ ⟨v27, og27, v28, og28, i, rfl, rfl, hU4, ho27, ha27, ho28, ha28, hb4, hd27_28, hi⟩
  have hb1 := hb1.loop hU4 ⟨hd1_17, hd1_18, hd1_4, trivial⟩
  have hb2 := hb2.loop hU4 ⟨hd2_17, hd2_18, hd2_4, trivial⟩
  have hb3 := hb3.loop hU4 ⟨hd3_17, hd3_18, hd3_4, trivial⟩
  have hl27 := Lo.ogr hl17 hB ha27
  have hg4_27 := ha27
  have hk4_27 : OkB [og17, og18, (some b4.block)] wl3 og27 := OkB.ogr (OkB.mem (by simp)) (Nat.le_refl _) ha27
  have hd1_27 := Dj.ogr hd1_17 hlt1 ha27
  have hd2_27 := Dj.ogr hd2_17 hlt2 ha27
  have hd3_27 := Dj.ogr hd3_17 hlt3 ha27
  have hd4_27 := Dj.ogr hd4_17 hlt4 ha27
  have hl28 := Lo.ogr hl18 hB ha28
  have hg4_28 := ha28
  have hk4_28 : OkB [og17, og18, (some b4.block)] wl3 og28 := OkB.ogr (OkB.mem (by simp)) (Nat.le_refl _) ha28
  have hd1_28 := Dj.ogr hd1_18 hlt1 ha28
  have hd2_28 := Dj.ogr hd2_18 hlt2 ha28
  have hd3_28 := Dj.ogr hd3_18 hlt3 ha28
  have hd4_28 := Dj.ogr hd4_18 hlt4 ha28
  have hk4_4 : OkB [og17, og18, (some b4.block)] wl3 (some b4.block) := OkB.mem (by simp)
  have hB := hB.loop hU4 ⟨hl17, hl18, hl4, trivial⟩
  refine CW.seq ?_
  refine CW.reg ?_
  refine WL.pure rfl rfl rfl (PV.lss rfl rfl) ?_
  refine WL.nilS ?_
  refine CW.seq ?_
  refine CW.cond rfl (fun hc9 => ?_) (fun hc9 => ?_)
  · skip
    try simp only [nq] at hc9
    refine CW.skipS ?_
    refine CW.seq ?_
    refine CW.block ?_
    refine CW.seq ?_
    refine CW.reg ?_
    refine WL.mv rfl rfl ?_
    refine WL.asg rfl rfl ?_
    refine WL.nilS ?_
    refine CW.seq ?_
    refine CW.reg ?_
    refine WL.pure rfl rfl rfl (PV.fieldAddr T.fl88_2 rfl hb1.cells) ?_
    refine WL.pure rfl rfl rfl (PV.load1 T.na86 rfl hb1.cells (Ext.refl _) rfl) ?_
    refine WL.mv rfl rfl ?_
    first
      | refine WL.at (x := .tmp 128) (y := .tmp 129) (E := ER) ((0, 0, 0, 0)) rfl rfl (by first | assumption | exact Inn.rd (by assumption) (by omega)) (by first | omega | (simp only [List.length_set]; omega) | (simp only [List.length_append, List.length_take, List.length_replicate, List.length_drop]; omega)) (fun p5 csp5 hpp5 hcp5 hq => ?_)
      | refine WL.atZ (x := .tmp 128) (y := .tmp 129) (E := ER) ((0, 0, 0, 0)) rfl rfl (by first | assumption | exact Inn.rd (by assumption) (by omega)) (by first | omega | (simp only [List.length_set]; omega) | (simp only [List.length_append, List.length_take, List.length_replicate, List.length_drop]; omega)) (fun p5 csp5 hpp5 hzp5 hcp5 hq => ?_)
    cases hq
    refine WL.pure rfl rfl rfl ((by first | exact PV.indexAddr hpp5 rfl rfl T.sl86 | exact PV.indexAddr hpp5 rfl (by rw [← hzp5]; rfl) T.sl86)) ?_
    refine WL.pure rfl rfl rfl ((by first | exact PV.loadA T.ag178 rfl (by first | exact Cells.up (by assumption) hB | exact Bx.cells (by assumption) | assumption) (Ext.refl _) rfl | exact PV.loadP (ds := [_, _, _, _]) T.ag178 rfl (by first | exact Cells.up (by assumption) hB | exact Bx.cells (by assumption) | assumption) (Ext.refl _) rfl rfl)) ?_
    refine WL.op rfl (OpK.alloc rfl T.zv178 rfl (fun b30 w22 hXw22 hb30 hge30 => ?_))
    have hl30 := Lo.new hB hge30
    have hd1_30 := Dj.new hb1.ltO hge30
    have hd2_30 := Dj.new hb2.ltO hge30
    have hd3_30 := Dj.new hb3.ltO hge30
    have hd4_30 := Dj.new hb4.ltO hge30
    have hd27_30 := Dj.new ho27.ltO hge30
    have hd28_30 := Dj.new ho28.ltO hge30
    have hk4_30 := OkN.new hU4 hge30
    have hg4_30 := OgR.new hU4.size hge30
    have hB := hB.trans hXw22
    have hb1 := hb1.up hXw22
    have hb2 := hb2.up hXw22
    have hb3 := hb3.up hXw22
    have hb4 := hb4.up hXw22
    have ho27 := ho27.up hXw22
    have ho28 := ho28.up hXw22
    have hU4 := hU4.ext hXw22
    refine WL.op rfl (OpK.storeA T.sz178 rfl rfl rfl rfl (by simp [Value.oneCell'] <;> first | done | (repeat' apply And.intro) <;> first | rfl | exact Inn.one1 (by assumption) (by omega) | exact Osl.oneCell (by assumption) | exact Osn.oneCell (by assumption) | exact Rd.oneCell (by assumption) | exact Rd.oneCell (NL.rd (by assumption)) | assumption) hb30 (fun w23 hXw23 hb30 => ?_))
    have hB := hB.updL hXw23 hl30
    have hb1 := hb1.updD hXw23 hd1_30
    have hb2 := hb2.updD hXw23 hd2_30
    have hb3 := hb3.updD hXw23 hd3_30
    have hb4 := hb4.updD hXw23 hd4_30
    have ho27 := ho27.updD hXw23 hd27_30
    have ho28 := ho28.updD hXw23 hd28_30
    have hU4 := hU4.step hXw23 hk4_30
    refine WL.nilS ?_
    refine CW.seq ?_
    refine CW.reg ?_
    refine WL.asg rfl rfl ?_
    refine WL.nilS ?_
    refine CW.block ?_
    have hlt1 := hb1.ltO
    have hlt2 := hb2.ltO
    have hlt3 := hb3.ltO
    have hlt4 := hb4.ltO
    have hlt27 := ho27.ltO
    have hlt28 := ho28.ltO
    have hlt30 := hb30.ltO
    refine CW.loop (σk := [(2, _), (3, _), (4, _), (6, _), (14, _), (123, _), (124, _)]) (fun ρ wz m => ∃ (v31 : Value) (og31 : Option Nat) (v32 : Value) (og32 : Option Nat) (k : Nat), ρ = [(15, .int .i64 (k : Nat))] ∧ m = y0.toNat - k ∧ UpdL [og27, og28, (some b4.block)] w23 wz ∧ Osn 4 gR wz og31 v31 ((cA y0 xa2 xy2) ++ dblF (ch2 y0 xa2) y0.toNat i ++ rowF (ch2 y0 xa2) i k) ∧ OgR w23 og27 og31 ∧ Osl VB wz og32 v32 ((cE xa3 xy3)) ∧ OgR w23 og28 og32 ∧ Bx wz b4 [.int .i64 (wI (a0 * y0)), .int .i64 a1, v31, v32] ∧ Dj og31 og32 ∧ (k ≤ y0.toNat) ∧ (0 ≤ (xa2.getD i (0, 0, 0, 0)).2.2.2 → k = 0)) (ρ₀ := [(15, _)]) (m₀ := _) ⟨rfl, rfl, rfl, rfl, rfl, rfl, rfl, rfl, trivial⟩ ⟨v27, og27, v28, og28, 0, rfl, rfl, (UpdL.refl _ _), osnE ho27 (by exact rowF_zero _ _ _), OgR.refl _ _, osE ho28 (by rfl), OgR.refl _ _, bxE hb4 (by first | rfl | (simp_all; done) | (simp_all; omega)), hd27_28, (by first | omega | rfl | (simp; done) | assumption | (simp_all; done)), (by first | omega | rfl | (simp; done) | assumption | (simp_all; done))⟩ ?_
    rintro _ wl6 _ ⟨v31, og31, v32, og32, k, rfl, rfl, hU5, ho31, ha31, ho32, ha32, hb4, hd31_32, hk, hz⟩
    have hU4 := hU4.trans hU5 ⟨hk4_27, hk4_28, hk4_4, trivial⟩
    have hb1 := hb1.loop hU5 ⟨hd1_27, hd1_28, hd1_4, trivial⟩
    have hb2 := hb2.loop hU5 ⟨hd2_27, hd2_28, hd2_4, trivial⟩
    have hb3 := hb3.loop hU5 ⟨hd3_27, hd3_28, hd3_4, trivial⟩
    have hb30 := hb30.loop hU5 ⟨(Dj.symm hd27_30), (Dj.symm hd28_30), (Dj.symm hd4_30), trivial⟩
    have hl31 := Lo.ogr hl27 hB ha31
    have hg5_31 := ha31
    have hk5_31 : OkB [og27, og28, (some b4.block)] w23 og31 := OkB.ogr (OkB.mem (by simp)) (Nat.le_refl _) ha31
    have hk4_31 := OkB.ogr hk4_27 (by first | assumption | exact UpdL.size (by assumption)) ha31
    have hg4_31 := OgR.trans hg4_27 (by first | assumption | exact UpdL.size (by assumption)) ha31
    have hd1_31 := Dj.ogr hd1_27 hlt1 ha31
    have hd2_31 := Dj.ogr hd2_27 hlt2 ha31
    have hd3_31 := Dj.ogr hd3_27 hlt3 ha31
    have hd4_31 := Dj.ogr hd4_27 hlt4 ha31
    have hd30_31 := Dj.ogr (Dj.symm hd27_30) hlt30 ha31
    have hl32 := Lo.ogr hl28 hB ha32
    have hg5_32 := ha32
    have hk5_32 : OkB [og27, og28, (some b4.block)] w23 og32 := OkB.ogr (OkB.mem (by simp)) (Nat.le_refl _) ha32
    have hk4_32 := OkB.ogr hk4_28 (by first | assumption | exact UpdL.size (by assumption)) ha32
    have hg4_32 := OgR.trans hg4_28 (by first | assumption | exact UpdL.size (by assumption)) ha32
    have hd1_32 := Dj.ogr hd1_28 hlt1 ha32
    have hd2_32 := Dj.ogr hd2_28 hlt2 ha32
    have hd3_32 := Dj.ogr hd3_28 hlt3 ha32
    have hd4_32 := Dj.ogr hd4_28 hlt4 ha32
    have hd30_32 := Dj.ogr (Dj.symm hd28_30) hlt30 ha32
    have hk5_4 : OkB [og27, og28, (some b4.block)] w23 (some b4.block) := OkB.mem (by simp)
    have hB := hB.loop hU5 ⟨hl27, hl28, hl4, trivial⟩
    have r1 := rowF_len (ch2_len y0 xa2) i k; have r2 := dblF_le (ch2_len y0 xa2) (m := y0.toNat) (i := i) (M := 8) (I := 48) (by omega) (by omega); have hal : ((cA y0 xa2 xy2) ++ dblF (ch2 y0 xa2) y0.toNat i ++ rowF (ch2 y0 xa2) i k).length ≤ 6000 := (by simp only [List.length_append, List.length_nil]; omega)
    refine CW.seq ?_
    refine CW.seq ?_
    refine CW.reg ?_
    refine WL.mv rfl rfl ?_
    refine WL.pure rfl rfl rfl (PV.fieldAddr T.fl88_0 rfl hb2.cells) ?_
    refine WL.pure rfl rfl rfl (PV.load1 T.na2 rfl hb2.cells (Ext.refl _) rfl) ?_
    refine WL.pure rfl rfl rfl (PV.lss rfl rfl) ?_
    refine WL.mv rfl rfl ?_
    refine WL.split (t := 136) rfl (fun hc10 => ?_) (fun hc10 => ?_)
    rotate_left
    · skip
      try simp only [nq] at hc10
      refine WL.skip rfl rfl rfl rfl rfl ?_
      refine WL.skip rfl rfl rfl rfl rfl ?_
      refine WL.skip rfl rfl rfl rfl rfl ?_
      refine WL.pure rfl rfl rfl (PV.pickF rfl rfl) ?_
      refine WL.nilS ?_
      refine CW.condF rfl ?_
      refine CW.exit ?_
      refine XQ.then ?_
      refine XQ.then ?_
      refine XQ.here ?_
      refine NQ.block ?_
      refine NQ.then ?_
      refine CW.reg ?_
      refine WL.pure rfl rfl rfl (PV.add rfl rfl (by constructor <;> omega)) ?_
      refine WL.mv rfl rfl ?_
      refine WL.nil ?_
      refine NQ.next (ρ := [(124, _)]) ⟨rfl, rfl, rfl, rfl, rfl, rfl, trivial⟩ ?_
      exact ⟨_, ⟨v31, og31, v32, og32, i + 1, rfl, rfl, hU4, osnE ho31 (by first | exact dblF_succ (by omega) | (obtain rfl : k = 0 := (by omega); rw [← rowF_zero]; exact dblF_skip (fun q => onF_no (by omega)))), (by first | exact hg4_31 | exact OgR.weak hg4_31), osE ho32 (by first | rfl | (simp_all; done) | (simp_all; omega)), (by first | exact hg4_32 | exact OgR.weak hg4_32), bxE hb4 (by first | rfl | (simp_all; done) | (simp_all; omega)), hd31_32, (by first | omega | assumption | (simp_all; done) | (simp_all; omega))⟩, by omega⟩
    try simp only [nq] at hc10
    refine WL.pureG rfl rfl rfl rfl rfl (PV.fieldAddr T.fl178_3 rfl hb30.cells) ?_
    refine WL.pureG rfl rfl rfl rfl rfl (PV.load1 T.na2 rfl hb30.cells (Ext.refl _) rfl) ?_
    refine WL.pureG rfl rfl rfl rfl rfl (PV.lss rfl rfl) ?_
    refine WL.pure rfl rfl rfl (PV.pickT rfl rfl) ?_
    refine WL.nilS ?_
    refine CW.cond rfl (fun hc11 => ?_) (fun hc11 => ?_)
    · skip
      try simp only [nq] at hc11
      refine CW.skipS ?_
      refine CW.seq ?_
      refine CW.block ?_
      refine CW.reg ?_
      refine WL.pure rfl rfl rfl (PV.fieldAddr T.fl88_2 rfl hb4.cells) ?_
      refine WL.pure rfl rfl rfl (PV.load1 T.na86 rfl hb4.cells (Ext.refl _) rfl) ?_
      refine WL.pure rfl rfl rfl (PV.fieldAddr T.fl178_0 rfl hb30.cells) ?_
      refine WL.pure rfl rfl rfl (PV.load1 T.na2 rfl hb30.cells (Ext.refl _) rfl) ?_
      refine WL.pure rfl rfl rfl (PV.fieldAddr T.fl88_0 rfl hb2.cells) ?_
      refine WL.pure rfl rfl rfl (PV.load1 T.na2 rfl hb2.cells (Ext.refl _) rfl) ?_
      refine WL.pure rfl rfl rfl (PV.mulW rfl rfl) ?_
      refine WL.mv rfl rfl ?_
      refine WL.pure rfl rfl rfl (PV.addW rfl rfl) ?_
      refine WL.pure rfl rfl rfl (PV.fieldAddr T.fl178_1 rfl hb30.cells) ?_
      refine WL.pure rfl rfl rfl (PV.load1 T.na2 rfl hb30.cells (Ext.refl _) rfl) ?_
      refine WL.pure rfl rfl rfl (PV.fieldAddr T.fl88_0 rfl hb2.cells) ?_
      refine WL.pure rfl rfl rfl (PV.load1 T.na2 rfl hb2.cells (Ext.refl _) rfl) ?_
      refine WL.pure rfl rfl rfl (PV.mulW rfl rfl) ?_
      refine WL.mv rfl rfl ?_
      refine WL.pure rfl rfl rfl (PV.addW rfl rfl) ?_
      refine WL.pure rfl rfl rfl (PV.fieldAddr T.fl178_2 rfl hb30.cells) ?_
      refine WL.pure rfl rfl rfl (PV.load1 T.na2 rfl hb30.cells (Ext.refl _) rfl) ?_
      refine WL.pure rfl rfl rfl (PV.build (ks := [0, 1, 2, 3]) (os := [.tmp 151, .tmp 158, .tmp 160, .const (.int .i64 (-1))]) (css := [[_], [_], [_], [_]]) (ds := [_, _, _, _]) T.bu178 rfl rfl ⟨rfl, rfl, rfl, rfl, trivial⟩ rfl) ?_
      refine WL.op rfl (OpK.build4 (os := [.tmp 161]) rfl T.sl86 rfl rfl T.zv178 rfl rfl (fun v34 g34 w24 hXw24 ho34 hge34 => ?_))
      have hl34 := Lo.new hB hge34
      have hd1_34 := Dj.new hb1.ltO hge34
      have hd2_34 := Dj.new hb2.ltO hge34
      have hd3_34 := Dj.new hb3.ltO hge34
      have hd4_34 := Dj.new hb4.ltO hge34
      have hd30_34 := Dj.new hb30.ltO hge34
      have hd31_34 := Dj.new ho31.ltO hge34
      have hd32_34 := Dj.new ho32.ltO hge34
      have hk4_34 := OkN.new hU4 hge34
      have hg4_34 := OgR.new hU4.size hge34
      have hk5_34 := OkN.new hU5 hge34
      have hg5_34 := OgR.new hU5.size hge34
      have hB := hB.trans hXw24
      have hb1 := hb1.up hXw24
      have hb2 := hb2.up hXw24
      have hb3 := hb3.up hXw24
      have hb4 := hb4.up hXw24
      have hb30 := hb30.up hXw24
      have ho31 := ho31.up hXw24
      have ho32 := ho32.up hXw24
      have hU4 := hU4.ext hXw24
      have hU5 := hU5.ext hXw24
      refine WL.op rfl (OpK.appendN (g := gR) rfl T.sl86 T.zv178 rfl rfl ho31 rfl (Osn.src ho34) (by first | (simp only [List.length_cons, List.length_nil]; omega) | (simp_all; omega)) (fun v35 og35 w25 hXw25 ho35 hap35 => ?_))
      have hl35 := Lo.app hl31 hB hap35
      have hd1_35 := Dj.app hd1_31 hb1.ltO hap35
      have hd2_35 := Dj.app hd2_31 hb2.ltO hap35
      have hd3_35 := Dj.app hd3_31 hb3.ltO hap35
      have hd4_35 := Dj.app hd4_31 hb4.ltO hap35
      have hd30_35 := Dj.app hd30_31 hb30.ltO hap35
      have hd32_35 := Dj.app (Dj.symm hd31_32) ho32.ltO hap35
      have hd34_35 := Dj.app (Dj.symm hd31_34) ho34.ltO hap35
      have hk4_35 := OkN.app hU4 hk4_31 hap35
      have hg4_35 := OgR.app hg4_31 hU4.size hap35
      have hk5_35 := OkN.app hU5 hk5_31 hap35
      have hg5_35 := OgR.app hg5_31 hU5.size hap35
      have hB := hB.updL hXw25 hl31
      have hb1 := hb1.updD hXw25 hd1_31
      have hb2 := hb2.updD hXw25 hd2_31
      have hb3 := hb3.updD hXw25 hd3_31
      have hb4 := hb4.updD hXw25 hd4_31
      have hb30 := hb30.updD hXw25 hd30_31
      have ho32 := ho32.updD hXw25 (Dj.symm hd31_32)
      have ho34 := ho34.updD hXw25 (Dj.symm hd31_34)
      have hU4 := hU4.step hXw25 hk4_31
      have hU5 := hU5.step hXw25 hk5_31
      refine WL.pure rfl rfl rfl (PV.fieldAddr T.fl88_2 rfl hb4.cells) ?_
      refine WL.op rfl (OpK.storeB T.sz86 rfl rfl (by first | rfl | exact Inn.one1 (by assumption) (by omega) | exact Osl.oneCell (by assumption) | exact Osn.oneCell (by assumption) | exact Rd.oneCell (by assumption) | exact Rd.oneCell (NL.rd (by assumption)) | assumption) hb4 rfl (fun w26 hXw26 hb4 => ?_))
      have hB := hB.updL hXw26 hl4
      have hb1 := hb1.updD hXw26 hd1_4
      have hb2 := hb2.updD hXw26 hd2_4
      have hb3 := hb3.updD hXw26 hd3_4
      have hb30 := hb30.updD hXw26 (Dj.symm hd4_30)
      have ho32 := ho32.updD hXw26 (Dj.symm hd4_32)
      have ho34 := ho34.updD hXw26 (Dj.symm hd4_34)
      have ho35 := ho35.updD hXw26 (Dj.symm hd4_35)
      have hU4 := hU4.step hXw26 hk4_4
      have hU5 := hU5.step hXw26 hk5_4
      refine WL.nil ?_
      refine NQ.block ?_
      refine NQ.then ?_
      refine CW.reg ?_
      refine WL.mv rfl rfl ?_
      refine WL.pure rfl rfl rfl (PV.add rfl rfl (by constructor <;> omega)) ?_
      refine WL.asg rfl rfl ?_
      refine WL.nil ?_
      refine NQ.next (ρ := [(15, _)]) ⟨rfl, rfl, rfl, rfl, rfl, rfl, rfl, rfl, trivial⟩ ?_
      exact ⟨_, ⟨v35, og35, v32, og32, k + 1, rfl, rfl, hU5, osnE ho35 (by first | exact rowF_put (onF_yes (by omega) rfl) | exact rowF_none (onF_no (by omega))), (by first | exact hg5_35 | exact OgR.weak hg5_35), osE ho32 (by first | rfl | (simp_all; done) | (simp_all; omega)), (by first | exact hg5_32 | exact OgR.weak hg5_32), bxE hb4 (by first | rfl | (simp_all; done) | (simp_all; omega)), (Dj.symm hd32_35), (by first | omega | assumption | (simp_all; done) | (simp_all; omega)), (by first | omega | assumption | (simp_all; done) | (simp_all; omega))⟩, by omega⟩
    try simp only [nq] at hc11
    refine CW.exit ?_
    refine XQ.then ?_
    refine XQ.then ?_
    refine XQ.here ?_
    refine NQ.block ?_
    refine NQ.then ?_
    refine CW.reg ?_
    refine WL.pure rfl rfl rfl (PV.add rfl rfl (by constructor <;> omega)) ?_
    refine WL.mv rfl rfl ?_
    refine WL.nil ?_
    refine NQ.next (ρ := [(124, _)]) ⟨rfl, rfl, rfl, rfl, rfl, rfl, trivial⟩ ?_
    exact ⟨_, ⟨v31, og31, v32, og32, i + 1, rfl, rfl, hU4, osnE ho31 (by first | exact dblF_succ (by omega) | (obtain rfl : k = 0 := (by omega); rw [← rowF_zero]; exact dblF_skip (fun q => onF_no (by omega)))), (by first | exact hg4_31 | exact OgR.weak hg4_31), osE ho32 (by first | rfl | (simp_all; done) | (simp_all; omega)), (by first | exact hg4_32 | exact OgR.weak hg4_32), bxE hb4 (by first | rfl | (simp_all; done) | (simp_all; omega)), hd31_32, (by first | omega | assumption | (simp_all; done) | (simp_all; omega))⟩, by omega⟩
  try simp only [nq] at hc9
  refine CW.exit ?_
  refine XQ.then ?_
  refine XQ.then ?_
  refine XQ.here ?_
  refine NQ.then ?_
  refine CW.seq ?_
  refine CW.seq ?_
  refine CW.reg ?_
  refine WL.asg rfl rfl ?_
  refine WL.nilS ?_
  refine CW.block ?_
  have hlt1 := hb1.ltO
  have hlt2 := hb2.ltO
  have hlt3 := hb3.ltO
  have hlt4 := hb4.ltO
  have hlt27 := ho27.ltO
  have hlt28 := ho28.ltO
  refine CW.loop (σk := [(2, _), (3, _), (4, _), (6, _)]) (fun ρ wz m => ∃ (v36 : Value) (og36 : Option Nat) (v37 : Value) (og37 : Option Nat) (i : Nat), ρ = [(16, .int .i64 (i : Nat))] ∧ m = a0.toNat - i ∧ UpdL [og27, og28, (some b4.block)] wl5 wz ∧ Osn 4 gR wz og36 v36 ((cB y0 xa2 xy2) ++ dblF (ch3 y0 xy2) xy2.length i) ∧ OgR wl5 og27 og36 ∧ Osl VB wz og37 v37 ((cE xa3 xy3)) ∧ OgR wl5 og28 og37 ∧ Bx wz b4 [.int .i64 (wI (a0 * y0)), .int .i64 a1, v36, v37] ∧ Dj og36 og37 ∧ (i ≤ a0.toNat)) (ρ₀ := [(16, _)]) (m₀ := _) ⟨rfl, rfl, rfl, rfl, rfl, trivial⟩ ⟨v27, og27, v28, og28, 0, rfl, rfl, (UpdL.refl _ _), osnE ho27 (by rw [show i = xa2.length from (by omega)]; exact dblF_zero _ _ _), OgR.refl _ _, osE ho28 (by rfl), OgR.refl _ _, bxE hb4 (by first | rfl | (simp_all; done) | (simp_all; omega)), hd27_28, (by first | omega | rfl | (simp; done) | assumption | (simp_all; done))⟩ ?_
  rintro _ wl7 _ ⟨v36, og36, v37, og37, i, rfl, rfl, hU6, ho36, ha36, ho37, ha37, hb4, hd36_37, hi⟩
  have hb1 := hb1.loop hU6 ⟨hd1_27, hd1_28, hd1_4, trivial⟩
  have hb2 := hb2.loop hU6 ⟨hd2_27, hd2_28, hd2_4, trivial⟩
  have hb3 := hb3.loop hU6 ⟨hd3_27, hd3_28, hd3_4, trivial⟩
  have hl36 := Lo.ogr hl27 hB ha36
  have hg6_36 := ha36
  have hk6_36 : OkB [og27, og28, (some b4.block)] wl5 og36 := OkB.ogr (OkB.mem (by simp)) (Nat.le_refl _) ha36
  have hd1_36 := Dj.ogr hd1_27 hlt1 ha36
  have hd2_36 := Dj.ogr hd2_27 hlt2 ha36
  have hd3_36 := Dj.ogr hd3_27 hlt3 ha36
  have hd4_36 := Dj.ogr hd4_27 hlt4 ha36
  have hl37 := Lo.ogr hl28 hB ha37
  have hg6_37 := ha37
  have hk6_37 : OkB [og27, og28, (some b4.block)] wl5 og37 := OkB.ogr (OkB.mem (by simp)) (Nat.le_refl _) ha37
  have hd1_37 := Dj.ogr hd1_28 hlt1 ha37
  have hd2_37 := Dj.ogr hd2_28 hlt2 ha37
  have hd3_37 := Dj.ogr hd3_28 hlt3 ha37
  have hd4_37 := Dj.ogr hd4_28 hlt4 ha37
  have hk6_4 : OkB [og27, og28, (some b4.block)] wl5 (some b4.block) := OkB.mem (by simp)
  have hB := hB.loop hU6 ⟨hl27, hl28, hl4, trivial⟩
  refine CW.seq ?_
  refine CW.seq ?_
  refine CW.reg ?_
  refine WL.mv rfl rfl ?_
  refine WL.pure rfl rfl rfl (PV.fieldAddr T.fl88_0 rfl hb1.cells) ?_
  refine WL.pure rfl rfl rfl (PV.load1 T.na2 rfl hb1.cells (Ext.refl _) rfl) ?_
  refine WL.pure rfl rfl rfl (PV.lss rfl rfl) ?_
  refine WL.nilS ?_
  refine CW.cond rfl (fun hc12 => ?_) (fun hc12 => ?_)
  · skip
    try simp only [nq] at hc12
    refine CW.skipS ?_
    refine CW.seq ?_
    refine CW.block ?_
    refine CW.seq ?_
    refine CW.reg ?_
    refine WL.pure rfl rfl rfl (PV.fieldAddr T.fl88_2 rfl hb2.cells) ?_
    refine WL.pure rfl rfl rfl (PV.load1 T.na86 rfl hb2.cells (Ext.refl _) rfl) ?_
    refine WL.pure rfl rfl rfl ((by first | exact PV.len rfl (by assumption) T.sl86 | exact PV.lenOs rfl (by assumption) T.sl86 | exact PV.len rfl (NL.rd (by assumption)) T.sl86 | exact PV.len rfl (Inn.rd (by assumption) (by omega)) T.sl86)) ?_
    refine WL.mv rfl rfl ?_
    refine WL.nilS ?_
    refine CW.block ?_
    have hlt1 := hb1.ltO
    have hlt2 := hb2.ltO
    have hlt3 := hb3.ltO
    have hlt4 := hb4.ltO
    have hlt36 := ho36.ltO
    have hlt37 := ho37.ltO
    refine CW.loop (σk := [(2, _), (3, _), (4, _), (6, _), (16, _), (174, _)]) (fun ρ wz m => ∃ (v39 : Value) (og39 : Option Nat) (v40 : Value) (og40 : Option Nat) (k : Nat), ρ = [(175, .int .i64 (k : Nat))] ∧ m = xy2.length - k ∧ UpdL [og36, og37, (some b4.block)] wl7 wz ∧ Osn 4 gR wz og39 v39 ((cB y0 xa2 xy2) ++ dblF (ch3 y0 xy2) xy2.length i ++ rowF (ch3 y0 xy2) i k) ∧ OgR wl7 og36 og39 ∧ Osl VB wz og40 v40 ((cE xa3 xy3)) ∧ OgR wl7 og37 og40 ∧ Bx wz b4 [.int .i64 (wI (a0 * y0)), .int .i64 a1, v39, v40] ∧ Dj og39 og40 ∧ (k ≤ xy2.length)) (ρ₀ := [(175, _)]) (m₀ := _) ⟨rfl, rfl, rfl, rfl, rfl, rfl, rfl, trivial⟩ ⟨v36, og36, v37, og37, 0, rfl, rfl, (UpdL.refl _ _), osnE ho36 (by exact rowF_zero _ _ _), OgR.refl _ _, osE ho37 (by rfl), OgR.refl _ _, bxE hb4 (by first | rfl | (simp_all; done) | (simp_all; omega)), hd36_37, (by first | omega | rfl | (simp; done) | assumption | (simp_all; done))⟩ ?_
    rintro _ wl8 _ ⟨v39, og39, v40, og40, k, rfl, rfl, hU7, ho39, ha39, ho40, ha40, hb4, hd39_40, hk⟩
    have hU6 := hU6.trans hU7 ⟨hk6_36, hk6_37, hk6_4, trivial⟩
    have hb1 := hb1.loop hU7 ⟨hd1_36, hd1_37, hd1_4, trivial⟩
    have hb2 := hb2.loop hU7 ⟨hd2_36, hd2_37, hd2_4, trivial⟩
    have hb3 := hb3.loop hU7 ⟨hd3_36, hd3_37, hd3_4, trivial⟩
    have hl39 := Lo.ogr hl36 hB ha39
    have hg7_39 := ha39
    have hk7_39 : OkB [og36, og37, (some b4.block)] wl7 og39 := OkB.ogr (OkB.mem (by simp)) (Nat.le_refl _) ha39
    have hk6_39 := OkB.ogr hk6_36 (by first | assumption | exact UpdL.size (by assumption)) ha39
    have hg6_39 := OgR.trans hg6_36 (by first | assumption | exact UpdL.size (by assumption)) ha39
    have hd1_39 := Dj.ogr hd1_36 hlt1 ha39
    have hd2_39 := Dj.ogr hd2_36 hlt2 ha39
    have hd3_39 := Dj.ogr hd3_36 hlt3 ha39
    have hd4_39 := Dj.ogr hd4_36 hlt4 ha39
    have hl40 := Lo.ogr hl37 hB ha40
    have hg7_40 := ha40
    have hk7_40 : OkB [og36, og37, (some b4.block)] wl7 og40 := OkB.ogr (OkB.mem (by simp)) (Nat.le_refl _) ha40
    have hk6_40 := OkB.ogr hk6_37 (by first | assumption | exact UpdL.size (by assumption)) ha40
    have hg6_40 := OgR.trans hg6_37 (by first | assumption | exact UpdL.size (by assumption)) ha40
    have hd1_40 := Dj.ogr hd1_37 hlt1 ha40
    have hd2_40 := Dj.ogr hd2_37 hlt2 ha40
    have hd3_40 := Dj.ogr hd3_37 hlt3 ha40
    have hd4_40 := Dj.ogr hd4_37 hlt4 ha40
    have hk7_4 : OkB [og36, og37, (some b4.block)] wl7 (some b4.block) := OkB.mem (by simp)
    have hB := hB.loop hU7 ⟨hl36, hl37, hl4, trivial⟩
    have r1 := rowF_len (ch3_len y0 xy2) i k; have r2 := dblF_le (ch3_len y0 xy2) (m := xy2.length) (i := i) (M := 48) (I := 48) (by omega) (by omega); have hal : ((cB y0 xa2 xy2) ++ dblF (ch3 y0 xy2) xy2.length i ++ rowF (ch3 y0 xy2) i k).length ≤ 6000 := (by simp only [List.length_append, List.length_nil]; omega)
    refine CW.seq ?_
    refine CW.reg ?_
    refine WL.pure rfl rfl rfl (PV.lss rfl rfl) ?_
    refine WL.nilS ?_
    refine CW.seq ?_
    refine CW.cond rfl (fun hc13 => ?_) (fun hc13 => ?_)
    · skip
      try simp only [nq] at hc13
      refine CW.skipS ?_
      refine CW.seq ?_
      refine CW.block ?_
      refine CW.seq ?_
      refine CW.reg ?_
      refine WL.mv rfl rfl ?_
      refine WL.asg rfl rfl ?_
      refine WL.nilS ?_
      refine CW.seq ?_
      refine CW.reg ?_
      refine WL.pure rfl rfl rfl (PV.fieldAddr T.fl88_2 rfl hb2.cells) ?_
      refine WL.pure rfl rfl rfl (PV.load1 T.na86 rfl hb2.cells (Ext.refl _) rfl) ?_
      refine WL.mv rfl rfl ?_
      first
        | refine WL.at (x := .tmp 179) (y := .tmp 180) (E := ER) ((0, 0, 0, 0)) rfl rfl (by first | assumption | exact Inn.rd (by assumption) (by omega)) (by first | omega | (simp only [List.length_set]; omega) | (simp only [List.length_append, List.length_take, List.length_replicate, List.length_drop]; omega)) (fun p6 csp6 hpp6 hcp6 hq => ?_)
        | refine WL.atZ (x := .tmp 179) (y := .tmp 180) (E := ER) ((0, 0, 0, 0)) rfl rfl (by first | assumption | exact Inn.rd (by assumption) (by omega)) (by first | omega | (simp only [List.length_set]; omega) | (simp only [List.length_append, List.length_take, List.length_replicate, List.length_drop]; omega)) (fun p6 csp6 hpp6 hzp6 hcp6 hq => ?_)
      cases hq
      refine WL.pure rfl rfl rfl ((by first | exact PV.indexAddr hpp6 rfl rfl T.sl86 | exact PV.indexAddr hpp6 rfl (by rw [← hzp6]; rfl) T.sl86)) ?_
      refine WL.pure rfl rfl rfl ((by first | exact PV.loadA T.ag178 rfl (by first | exact Cells.up (by assumption) hB | exact Bx.cells (by assumption) | assumption) (Ext.refl _) rfl | exact PV.loadP (ds := [_, _, _, _]) T.ag178 rfl (by first | exact Cells.up (by assumption) hB | exact Bx.cells (by assumption) | assumption) (Ext.refl _) rfl rfl)) ?_
      refine WL.op rfl (OpK.alloc rfl T.zv178 rfl (fun b42 w27 hXw27 hb42 hge42 => ?_))
      have hl42 := Lo.new hB hge42
      have hd1_42 := Dj.new hb1.ltO hge42
      have hd2_42 := Dj.new hb2.ltO hge42
      have hd3_42 := Dj.new hb3.ltO hge42
      have hd4_42 := Dj.new hb4.ltO hge42
      have hd39_42 := Dj.new ho39.ltO hge42
      have hd40_42 := Dj.new ho40.ltO hge42
      have hk6_42 := OkN.new hU6 hge42
      have hg6_42 := OgR.new hU6.size hge42
      have hk7_42 := OkN.new hU7 hge42
      have hg7_42 := OgR.new hU7.size hge42
      have hB := hB.trans hXw27
      have hb1 := hb1.up hXw27
      have hb2 := hb2.up hXw27
      have hb3 := hb3.up hXw27
      have hb4 := hb4.up hXw27
      have ho39 := ho39.up hXw27
      have ho40 := ho40.up hXw27
      have hU6 := hU6.ext hXw27
      have hU7 := hU7.ext hXw27
      refine WL.op rfl (OpK.storeA T.sz178 rfl rfl rfl rfl (by simp [Value.oneCell'] <;> first | done | (repeat' apply And.intro) <;> first | rfl | exact Inn.one1 (by assumption) (by omega) | exact Osl.oneCell (by assumption) | exact Osn.oneCell (by assumption) | exact Rd.oneCell (by assumption) | exact Rd.oneCell (NL.rd (by assumption)) | assumption) hb42 (fun w28 hXw28 hb42 => ?_))
      have hB := hB.updL hXw28 hl42
      have hb1 := hb1.updD hXw28 hd1_42
      have hb2 := hb2.updD hXw28 hd2_42
      have hb3 := hb3.updD hXw28 hd3_42
      have hb4 := hb4.updD hXw28 hd4_42
      have ho39 := ho39.updD hXw28 hd39_42
      have ho40 := ho40.updD hXw28 hd40_42
      have hU6 := hU6.step hXw28 hk6_42
      have hU7 := hU7.step hXw28 hk7_42
      refine WL.nilS ?_
      refine CW.seq ?_
      refine CW.reg ?_
      refine WL.pure rfl rfl rfl (PV.fieldAddr T.fl178_2 rfl hb42.cells) ?_
      refine WL.pure rfl rfl rfl (PV.load1 T.na2 rfl hb42.cells (Ext.refl _) rfl) ?_
      refine WL.pure rfl rfl rfl (PV.lss rfl rfl) ?_
      refine WL.nilS ?_
      refine CW.cond rfl (fun hc14 => ?_) (fun hc14 => ?_)
      · skip
        try simp only [nq] at hc14
        refine CW.reg ?_
        refine WL.pure rfl rfl rfl (PV.fieldAddr T.fl88_2 rfl hb4.cells) ?_
        refine WL.pure rfl rfl rfl (PV.load1 T.na86 rfl hb4.cells (Ext.refl _) rfl) ?_
        refine WL.mv rfl rfl ?_
        refine WL.pure rfl rfl rfl (PV.fieldAddr T.fl88_0 rfl hb2.cells) ?_
        refine WL.pure rfl rfl rfl (PV.load1 T.na2 rfl hb2.cells (Ext.refl _) rfl) ?_
        refine WL.pure rfl rfl rfl (PV.mulW rfl rfl) ?_
        refine WL.pure rfl rfl rfl (PV.fieldAddr T.fl178_0 rfl hb42.cells) ?_
        refine WL.pure rfl rfl rfl (PV.load1 T.na2 rfl hb42.cells (Ext.refl _) rfl) ?_
        refine WL.pure rfl rfl rfl (PV.addW rfl rfl) ?_
        refine WL.mv rfl rfl ?_
        refine WL.pure rfl rfl rfl (PV.fieldAddr T.fl88_0 rfl hb2.cells) ?_
        refine WL.pure rfl rfl rfl (PV.load1 T.na2 rfl hb2.cells (Ext.refl _) rfl) ?_
        refine WL.pure rfl rfl rfl (PV.mulW rfl rfl) ?_
        refine WL.pure rfl rfl rfl (PV.fieldAddr T.fl178_1 rfl hb42.cells) ?_
        refine WL.pure rfl rfl rfl (PV.load1 T.na2 rfl hb42.cells (Ext.refl _) rfl) ?_
        refine WL.pure rfl rfl rfl (PV.addW rfl rfl) ?_
        refine WL.pure rfl rfl rfl (PV.fieldAddr T.fl178_3 rfl hb42.cells) ?_
        refine WL.pure rfl rfl rfl (PV.load1 T.na2 rfl hb42.cells (Ext.refl _) rfl) ?_
        refine WL.pure rfl rfl rfl (PV.build (ks := [0, 1, 2, 3]) (os := [.tmp 194, .tmp 201, .const (.int .i64 (-1)), .tmp 203]) (css := [[_], [_], [_], [_]]) (ds := [_, _, _, _]) T.bu178 rfl rfl ⟨rfl, rfl, rfl, rfl, trivial⟩ rfl) ?_
        refine WL.op rfl (OpK.build4 (os := [.tmp 204]) rfl T.sl86 rfl rfl T.zv178 rfl rfl (fun v43 g43 w29 hXw29 ho43 hge43 => ?_))
        have hl43 := Lo.new hB hge43
        have hd1_43 := Dj.new hb1.ltO hge43
        have hd2_43 := Dj.new hb2.ltO hge43
        have hd3_43 := Dj.new hb3.ltO hge43
        have hd4_43 := Dj.new hb4.ltO hge43
        have hd39_43 := Dj.new ho39.ltO hge43
        have hd40_43 := Dj.new ho40.ltO hge43
        have hd42_43 := Dj.new hb42.ltO hge43
        have hk6_43 := OkN.new hU6 hge43
        have hg6_43 := OgR.new hU6.size hge43
        have hk7_43 := OkN.new hU7 hge43
        have hg7_43 := OgR.new hU7.size hge43
        have hB := hB.trans hXw29
        have hb1 := hb1.up hXw29
        have hb2 := hb2.up hXw29
        have hb3 := hb3.up hXw29
        have hb4 := hb4.up hXw29
        have ho39 := ho39.up hXw29
        have ho40 := ho40.up hXw29
        have hb42 := hb42.up hXw29
        have hU6 := hU6.ext hXw29
        have hU7 := hU7.ext hXw29
        refine WL.op rfl (OpK.appendN (g := gR) rfl T.sl86 T.zv178 rfl rfl ho39 rfl (Osn.src ho43) (by first | (simp only [List.length_cons, List.length_nil]; omega) | (simp_all; omega)) (fun v44 og44 w30 hXw30 ho44 hap44 => ?_))
        have hl44 := Lo.app hl39 hB hap44
        have hd1_44 := Dj.app hd1_39 hb1.ltO hap44
        have hd2_44 := Dj.app hd2_39 hb2.ltO hap44
        have hd3_44 := Dj.app hd3_39 hb3.ltO hap44
        have hd4_44 := Dj.app hd4_39 hb4.ltO hap44
        have hd40_44 := Dj.app (Dj.symm hd39_40) ho40.ltO hap44
        have hd42_44 := Dj.app (Dj.symm hd39_42) hb42.ltO hap44
        have hd43_44 := Dj.app (Dj.symm hd39_43) ho43.ltO hap44
        have hk6_44 := OkN.app hU6 hk6_39 hap44
        have hg6_44 := OgR.app hg6_39 hU6.size hap44
        have hk7_44 := OkN.app hU7 hk7_39 hap44
        have hg7_44 := OgR.app hg7_39 hU7.size hap44
        have hB := hB.updL hXw30 hl39
        have hb1 := hb1.updD hXw30 hd1_39
        have hb2 := hb2.updD hXw30 hd2_39
        have hb3 := hb3.updD hXw30 hd3_39
        have hb4 := hb4.updD hXw30 hd4_39
        have ho40 := ho40.updD hXw30 (Dj.symm hd39_40)
        have hb42 := hb42.updD hXw30 (Dj.symm hd39_42)
        have ho43 := ho43.updD hXw30 (Dj.symm hd39_43)
        have hU6 := hU6.step hXw30 hk6_39
        have hU7 := hU7.step hXw30 hk7_39
        refine WL.pure rfl rfl rfl (PV.fieldAddr T.fl88_2 rfl hb4.cells) ?_
        refine WL.op rfl (OpK.storeB T.sz86 rfl rfl (by first | rfl | exact Inn.one1 (by assumption) (by omega) | exact Osl.oneCell (by assumption) | exact Osn.oneCell (by assumption) | exact Rd.oneCell (by assumption) | exact Rd.oneCell (NL.rd (by assumption)) | assumption) hb4 rfl (fun w31 hXw31 hb4 => ?_))
        have hB := hB.updL hXw31 hl4
        have hb1 := hb1.updD hXw31 hd1_4
        have hb2 := hb2.updD hXw31 hd2_4
        have hb3 := hb3.updD hXw31 hd3_4
        have ho40 := ho40.updD hXw31 (Dj.symm hd4_40)
        have hb42 := hb42.updD hXw31 (Dj.symm hd4_42)
        have ho43 := ho43.updD hXw31 (Dj.symm hd4_43)
        have ho44 := ho44.updD hXw31 (Dj.symm hd4_44)
        have hU6 := hU6.step hXw31 hk6_4
        have hU7 := hU7.step hXw31 hk7_4
        refine WL.nil ?_
        refine NQ.block ?_
        refine NQ.then ?_
        refine CW.reg ?_
        refine WL.pure rfl rfl rfl (PV.add rfl rfl (by constructor <;> omega)) ?_
        refine WL.mv rfl rfl ?_
        refine WL.nil ?_
        refine NQ.next (ρ := [(175, _)]) ⟨rfl, rfl, rfl, rfl, rfl, rfl, rfl, trivial⟩ ?_
        exact ⟨_, ⟨v44, og44, v40, og40, k + 1, rfl, rfl, hU7, osnE ho44 (by first | exact rowF_put (onF_yes (by omega) rfl) | exact rowF_none (onF_no (by omega))), (by first | exact hg7_44 | exact OgR.weak hg7_44), osE ho40 (by first | rfl | (simp_all; done) | (simp_all; omega)), (by first | exact hg7_40 | exact OgR.weak hg7_40), bxE hb4 (by first | rfl | (simp_all; done) | (simp_all; omega)), (Dj.symm hd40_44), (by first | omega | assumption | (simp_all; done) | (simp_all; omega))⟩, by omega⟩
      try simp only [nq] at hc14
      refine CW.skip ?_
      refine NQ.block ?_
      refine NQ.then ?_
      refine CW.reg ?_
      refine WL.pure rfl rfl rfl (PV.add rfl rfl (by constructor <;> omega)) ?_
      refine WL.mv rfl rfl ?_
      refine WL.nil ?_
      refine NQ.next (ρ := [(175, _)]) ⟨rfl, rfl, rfl, rfl, rfl, rfl, rfl, trivial⟩ ?_
      exact ⟨_, ⟨v39, og39, v40, og40, k + 1, rfl, rfl, hU7, osnE ho39 (by first | exact rowF_put (onF_yes (by omega) rfl) | exact rowF_none (onF_no (by omega))), (by first | exact hg7_39 | exact OgR.weak hg7_39), osE ho40 (by first | rfl | (simp_all; done) | (simp_all; omega)), (by first | exact hg7_40 | exact OgR.weak hg7_40), bxE hb4 (by first | rfl | (simp_all; done) | (simp_all; omega)), hd39_40, (by first | omega | assumption | (simp_all; done) | (simp_all; omega))⟩, by omega⟩
    try simp only [nq] at hc13
    refine CW.exit ?_
    refine XQ.then ?_
    refine XQ.then ?_
    refine XQ.here ?_
    refine NQ.block ?_
    refine NQ.then ?_
    refine CW.reg ?_
    refine WL.mv rfl rfl ?_
    refine WL.pure rfl rfl rfl (PV.add rfl rfl (by constructor <;> omega)) ?_
    refine WL.asg rfl rfl ?_
    refine WL.nil ?_
    refine NQ.next (ρ := [(16, _)]) ⟨rfl, rfl, rfl, rfl, rfl, trivial⟩ ?_
    exact ⟨_, ⟨v39, og39, v40, og40, i + 1, rfl, rfl, hU6, osnE ho39 (by exact dblF_succ (by omega)), (by first | exact hg6_39 | exact OgR.weak hg6_39), osE ho40 (by first | rfl | (simp_all; done) | (simp_all; omega)), (by first | exact hg6_40 | exact OgR.weak hg6_40), bxE hb4 (by first | rfl | (simp_all; done) | (simp_all; omega)), hd39_40, (by first | omega | assumption | (simp_all; done) | (simp_all; omega))⟩, by omega⟩
  try simp only [nq] at hc12
  refine CW.exit ?_
  refine XQ.then ?_
  refine XQ.then ?_
  refine XQ.here ?_
  refine NQ.then ?_
  refine CW.seq ?_
  refine CW.reg ?_
  obtain rfl : i = a0.toNat := (by omega)
  refine WL.pure rfl rfl rfl (PV.loadA T.ag88 rfl hb4.cells (Ext.refl _) rfl) ?_
  refine WL.op rfl (OpK.call rfl T.cf151 rfl (c_spec_l05Give (Osn.rdR ho36) (Osl.rd ho37)) (fun rv1 w32 hR => ?_))
  rcases hR with ⟨hXw32, ⟨hal, rfl⟩ | ⟨hal, rfl⟩⟩
  · skip
    have hB := hB.trans hXw32
    have hb1 := hb1.up hXw32
    have hb2 := hb2.up hXw32
    have hb3 := hb3.up hXw32
    have hb4 := hb4.up hXw32
    have ho36 := ho36.up hXw32
    have ho37 := ho37.up hXw32
    refine WL.pure rfl rfl rfl (PV.extract rfl rfl) ?_
    refine WL.pure rfl rfl rfl (PV.extract rfl rfl) ?_
    refine WL.op rfl (OpK.storeA T.sz88 rfl rfl rfl rfl (by simp [Value.oneCell'] <;> first | done | (repeat' apply And.intro) <;> first | rfl | exact Inn.one1 (by assumption) (by omega) | exact Osl.oneCell (by assumption) | exact Osn.oneCell (by assumption) | exact Rd.oneCell (by assumption) | exact Rd.oneCell (NL.rd (by assumption)) | assumption) hb3 (fun w33 hXw33 hb3 => ?_))
    have hB := hB.updL hXw33 hl3
    have hb1 := hb1.updD hXw33 hd1_3
    have hb2 := hb2.updD hXw33 hd2_3
    have hb4 := hb4.updD hXw33 (Dj.symm hd3_4)
    have ho36 := ho36.updD hXw33 (Dj.symm hd3_36)
    have ho37 := ho37.updD hXw33 (Dj.symm hd3_37)
    refine WL.asg rfl rfl ?_
    refine WL.nilS ?_
    refine CW.ret ?_
    refine RQ.rc1 T.ag88 rfl (by first | exact Cells.up (by assumption) hB | exact Bx.cells (by assumption) | assumption) rfl rfl ?_
    refine ⟨hB, v36, og36, v37, og37, ?_, osnE ho36 ?_, hl36, osE ho37 ?_, hl37, hd36_37⟩
    · skip
      first | (have hn : ¬ (chainB a0 a1 xa2 xa3 y0 y1 xy2 xy3) = true := (by first | exact chain_n1 (by assumption) | exact chain_n2 (by assumption) | exact chain_n3 (by omega) | exact chain_n6 (by assumption) | exact chain_n5 (by assumption) | exact chain_n4 (by assumption)); first | exact tE2 (by rw [onI_no hn, onI_no hn]) (bE (Bool.eq_false_iff.2 hn).symm) | exact tE2 (by rw [onI_no hn, onI_no hn]; rfl) (bE (Bool.eq_false_iff.2 hn).symm)) | (have hy : (chainB a0 a1 xa2 xa3 y0 y1 xy2 xy3) = true := (chain_yes (by assumption) (by assumption) (by omega) (by assumption)); first | exact tE2 (by rw [onI_yes hy, onI_yes hy]; rfl) (bE hy.symm) | exact tE2 (by rw [onI_yes hy, onI_yes hy]) (bE hy.symm))
    · skip
      first | (rw [onT_no (by first | exact chain_n1 (by assumption) | exact chain_n2 (by assumption) | exact chain_n3 (by omega) | exact chain_n6 (by assumption) | exact chain_n5 (by assumption) | exact chain_n4 (by assumption))]; done) | (rw [onT_yes (chain_yes (by assumption) (by assumption) (by omega) (by assumption))]; first | done | rfl)
    · skip
      first | (rw [onT_no (by first | exact chain_n1 (by assumption) | exact chain_n2 (by assumption) | exact chain_n3 (by omega) | exact chain_n6 (by assumption) | exact chain_n5 (by assumption) | exact chain_n4 (by assumption))]; done) | (rw [onT_yes (chain_yes (by assumption) (by assumption) (by omega) (by assumption))]; first | done | rfl)
  · skip
    have hB := hB.trans hXw32
    have hb1 := hb1.up hXw32
    have hb2 := hb2.up hXw32
    have hb3 := hb3.up hXw32
    have hb4 := hb4.up hXw32
    have ho36 := ho36.up hXw32
    have ho37 := ho37.up hXw32
    refine WL.pure rfl rfl rfl (PV.extract rfl rfl) ?_
    refine WL.pure rfl rfl rfl (PV.extract rfl rfl) ?_
    refine WL.op rfl (OpK.storeA T.sz88 rfl rfl rfl rfl (by simp [Value.oneCell'] <;> first | done | (repeat' apply And.intro) <;> first | rfl | exact Inn.one1 (by assumption) (by omega) | exact Osl.oneCell (by assumption) | exact Osn.oneCell (by assumption) | exact Rd.oneCell (by assumption) | exact Rd.oneCell (NL.rd (by assumption)) | assumption) hb3 (fun w34 hXw34 hb3 => ?_))
    have hB := hB.updL hXw34 hl3
    have hb1 := hb1.updD hXw34 hd1_3
    have hb2 := hb2.updD hXw34 hd2_3
    have hb4 := hb4.updD hXw34 (Dj.symm hd3_4)
    have ho36 := ho36.updD hXw34 (Dj.symm hd3_36)
    have ho37 := ho37.updD hXw34 (Dj.symm hd3_37)
    refine WL.asg rfl rfl ?_
    refine WL.nilS ?_
    refine CW.ret ?_
    refine RQ.rc1 T.ag88 rfl (by first | exact Cells.up (by assumption) hB | exact Bx.cells (by assumption) | assumption) rfl rfl ?_
    refine ⟨hB, (.slice none 0 0), none, (.slice none 0 0), none, ?_, osnE (Osn.nil gR_ok _) ?_, Lo.nl _, osE (Osl.nil _ _) ?_, Lo.nl _, (Dj.nl _)⟩
    · skip
      first | (have hn : ¬ (chainB a0 a1 xa2 xa3 y0 y1 xy2 xy3) = true := (by first | exact chain_n1 (by assumption) | exact chain_n2 (by assumption) | exact chain_n3 (by omega) | exact chain_n6 (by assumption) | exact chain_n5 (by assumption) | exact chain_n4 (by assumption)); first | exact tE2 (by rw [onI_no hn, onI_no hn]) (bE (Bool.eq_false_iff.2 hn).symm) | exact tE2 (by rw [onI_no hn, onI_no hn]; rfl) (bE (Bool.eq_false_iff.2 hn).symm)) | (have hy : (chainB a0 a1 xa2 xa3 y0 y1 xy2 xy3) = true := (chain_yes (by assumption) (by assumption) (by omega) (by assumption)); first | exact tE2 (by rw [onI_yes hy, onI_yes hy]; rfl) (bE hy.symm) | exact tE2 (by rw [onI_yes hy, onI_yes hy]) (bE hy.symm))
    · skip
      first | (rw [onT_no (by first | exact chain_n1 (by assumption) | exact chain_n2 (by assumption) | exact chain_n3 (by omega) | exact chain_n6 (by assumption) | exact chain_n5 (by assumption) | exact chain_n4 (by assumption))]; done) | (rw [onT_yes (chain_yes (by assumption) (by assumption) (by omega) (by assumption))]; first | done | rfl)
    · skip
      first | (rw [onT_no (by first | exact chain_n1 (by assumption) | exact chain_n2 (by assumption) | exact chain_n3 (by omega) | exact chain_n6 (by assumption) | exact chain_n5 (by assumption) | exact chain_n4 (by assumption))]; done) | (rw [onT_yes (chain_yes (by assumption) (by assumption) (by omega) (by assumption))]; first | done | rfl)
theorem c_impl_moved {w : World} {va : Value} {xs : List R4} {q : Int} (ha : Rd ER w va xs) (hv : ∀ i : Nat, i < xs.length → (0 ≤ (xs.getD i (0, 0, 0, 0)).1 ∧ (xs.getD i (0, 0, 0, 0)).1 ≤ 7) ∧ (0 ≤ (xs.getD i (0, 0, 0, 0)).2.1 ∧ (xs.getD i (0, 0, 0, 0)).2.1 ≤ 7)) (hq : 0 ≤ q ∧ q ≤ 9) (hl : xs.length ≤ 48) : Calls Try.prog 152 #[va, .int .i64 q] w (Ret1 (fun v w' => Ext w w' ∧ ∃ u og_u, v = u ∧ Osn 4 gR w' og_u u (movL q xs) ∧ Lo w og_u)) := by
  have hB : Ext w w := Ext.refl w
  have hla := ha.leI
  refine callsOf (vs := [_, _]) Try.func152 rfl Try.ntmps152 rfl rfl ?_
  refine CW.seq ?_
  refine CW.reg ?_
  refine WL.asg rfl rfl ?_
  refine WL.nilS ?_
  refine CW.seq ?_
  refine CW.reg ?_
  refine WL.op rfl (OpK.buildN (g := gR) (os := []) [] gR_ok rfl T.sl86 rfl rfl T.zv178 rfl rfl (fun v1 g1 w1 hXw1 ho1 hge1 => ?_))
  have hl1 := Lo.new hB hge1
  have hB := hB.trans hXw1
  refine WL.asg rfl rfl ?_
  refine WL.nilS ?_
  refine CW.seq ?_
  refine CW.seq ?_
  refine CW.reg ?_
  refine WL.mv rfl rfl ?_
  refine WL.pure rfl rfl rfl ((by first | exact PV.len rfl (by assumption) T.sl86 | exact PV.lenOs rfl (by assumption) T.sl86 | exact PV.len rfl (NL.rd (by assumption)) T.sl86 | exact PV.len rfl (Inn.rd (by assumption) (by omega)) T.sl86)) ?_
  refine WL.mv rfl rfl ?_
  refine WL.nilS ?_
  refine CW.block ?_
  have hlt1 := ho1.ltO
  refine CW.loop (σk := [(1, _), (9, _), (10, _)]) (fun ρ wz m => ∃ (v2 : Value) (og2 : Option Nat) (k : Nat), ρ = [(5, v2), (11, .int .i64 (k : Nat))] ∧ m = xs.length - k ∧ UpdL [(some g1)] w1 wz ∧ Osn 4 gR wz og2 v2 (movL q (xs.take k)) ∧ OgR w1 (some g1) og2 ∧ (k ≤ xs.length)) (ρ₀ := [(5, _), (11, _)]) (m₀ := _) ⟨rfl, rfl, rfl, rfl, rfl, trivial⟩ ⟨v1, (some g1), 0, rfl, rfl, (UpdL.refl _ _), osnE ho1 (by rfl), OgR.refl _ _, (by first | omega | rfl | (simp; done) | assumption | (simp_all; done))⟩ ?_
  rintro _ wl1 _ ⟨v2, og2, k, rfl, rfl, hU0, ho2, ha2, hk⟩
  have hl2 := Lo.ogr hl1 hB ha2
  have hg0_2 := ha2
  have hk0_2 : OkB [(some g1)] w1 og2 := OkB.ogr (OkB.mem (by simp)) (Nat.le_refl _) ha2
  have hB := hB.loop hU0 ⟨hl1, trivial⟩
  have hml := movL_lenK q xs k
  refine CW.seq ?_
  refine CW.reg ?_
  refine WL.pure rfl rfl rfl (PV.lss rfl rfl) ?_
  refine WL.nilS ?_
  refine CW.seq ?_
  refine CW.cond rfl (fun hc1 => ?_) (fun hc1 => ?_)
  · skip
    try simp only [nq] at hc1
    refine CW.skipS ?_
    refine CW.seq ?_
    refine CW.block ?_
    refine CW.seq ?_
    refine CW.reg ?_
    first
      | refine WL.at (x := .tmp 9) (y := .tmp 11) (E := ER) ((0, 0, 0, 0)) rfl rfl (by first | assumption | exact Inn.rd (by assumption) (by omega)) (by first | omega | (simp only [List.length_set]; omega) | (simp only [List.length_append, List.length_take, List.length_replicate, List.length_drop]; omega)) (fun p1 csp1 hpp1 hcp1 hq => ?_)
      | refine WL.atZ (x := .tmp 9) (y := .tmp 11) (E := ER) ((0, 0, 0, 0)) rfl rfl (by first | assumption | exact Inn.rd (by assumption) (by omega)) (by first | omega | (simp only [List.length_set]; omega) | (simp only [List.length_append, List.length_take, List.length_replicate, List.length_drop]; omega)) (fun p1 csp1 hpp1 hzp1 hcp1 hq => ?_)
    cases hq
    refine WL.pure rfl rfl rfl ((by first | exact PV.indexAddr hpp1 rfl rfl T.sl86 | exact PV.indexAddr hpp1 rfl (by rw [← hzp1]; rfl) T.sl86)) ?_
    refine WL.pure rfl rfl rfl ((by first | exact PV.loadA T.ag178 rfl (by first | exact Cells.up (by assumption) hB | exact Bx.cells (by assumption) | assumption) (Ext.refl _) rfl | exact PV.loadP (ds := [_, _, _, _]) T.ag178 rfl (by first | exact Cells.up (by assumption) hB | exact Bx.cells (by assumption) | assumption) (Ext.refl _) rfl rfl)) ?_
    refine WL.op rfl (OpK.alloc rfl T.zv178 rfl (fun b3 w2 hXw2 hb3 hge3 => ?_))
    have hl3 := Lo.new hB hge3
    have hd2_3 := Dj.new ho2.ltO hge3
    have hk0_3 := OkN.new hU0 hge3
    have hg0_3 := OgR.new hU0.size hge3
    have hB := hB.trans hXw2
    have ho2 := ho2.up hXw2
    have hU0 := hU0.ext hXw2
    refine WL.op rfl (OpK.storeA T.sz178 rfl rfl rfl rfl (by simp [Value.oneCell'] <;> first | done | (repeat' apply And.intro) <;> first | rfl | exact Inn.one1 (by assumption) (by omega) | exact Osl.oneCell (by assumption) | exact Osn.oneCell (by assumption) | exact Rd.oneCell (by assumption) | exact Rd.oneCell (NL.rd (by assumption)) | assumption) hb3 (fun w3 hXw3 hb3 => ?_))
    have hB := hB.updL hXw3 hl3
    have ho2 := ho2.updD hXw3 hd2_3
    have hU0 := hU0.step hXw3 hk0_3
    refine WL.nilS ?_
    refine CW.reg ?_
    have hok := hv k (by omega)
    refine WL.mv rfl rfl ?_
    refine WL.pure rfl rfl rfl (PV.fieldAddr T.fl178_0 rfl hb3.cells) ?_
    refine WL.pure rfl rfl rfl (PV.load1 T.na2 rfl hb3.cells (Ext.refl _) rfl) ?_
    refine WL.mv rfl rfl ?_
    refine WL.pure rfl rfl rfl (PV.add rfl rfl (by constructor <;> omega)) ?_
    refine WL.pure rfl rfl rfl (PV.fieldAddr T.fl178_1 rfl hb3.cells) ?_
    refine WL.pure rfl rfl rfl (PV.load1 T.na2 rfl hb3.cells (Ext.refl _) rfl) ?_
    refine WL.mv rfl rfl ?_
    refine WL.pure rfl rfl rfl (PV.add rfl rfl (by constructor <;> omega)) ?_
    refine WL.pure rfl rfl rfl (PV.fieldAddr T.fl178_2 rfl hb3.cells) ?_
    refine WL.pure rfl rfl rfl (PV.load1 T.na2 rfl hb3.cells (Ext.refl _) rfl) ?_
    refine WL.pure rfl rfl rfl (PV.fieldAddr T.fl178_3 rfl hb3.cells) ?_
    refine WL.pure rfl rfl rfl (PV.load1 T.na2 rfl hb3.cells (Ext.refl _) rfl) ?_
    refine WL.pure rfl rfl rfl (PV.build (ks := [0, 1, 2, 3]) (os := [.tmp 19, .tmp 23, .tmp 25, .tmp 27]) (css := [[_], [_], [_], [_]]) (ds := [_, _, _, _]) T.bu178 rfl rfl ⟨rfl, rfl, rfl, rfl, trivial⟩ rfl) ?_
    refine WL.op rfl (OpK.build4 (os := [.tmp 28]) rfl T.sl86 rfl rfl T.zv178 rfl rfl (fun v4 g4 w4 hXw4 ho4 hge4 => ?_))
    have hl4 := Lo.new hB hge4
    have hd2_4 := Dj.new ho2.ltO hge4
    have hd3_4 := Dj.new hb3.ltO hge4
    have hk0_4 := OkN.new hU0 hge4
    have hg0_4 := OgR.new hU0.size hge4
    have hB := hB.trans hXw4
    have ho2 := ho2.up hXw4
    have hb3 := hb3.up hXw4
    have hU0 := hU0.ext hXw4
    refine WL.op rfl (OpK.appendN (g := gR) rfl T.sl86 T.zv178 rfl rfl ho2 rfl (Osn.src ho4) (by first | (simp only [List.length_cons, List.length_nil]; omega) | (simp_all; omega)) (fun v5 og5 w5 hXw5 ho5 hap5 => ?_))
    have hl5 := Lo.app hl2 hB hap5
    have hd3_5 := Dj.app (Dj.symm hd2_3) hb3.ltO hap5
    have hd4_5 := Dj.app (Dj.symm hd2_4) ho4.ltO hap5
    have hk0_5 := OkN.app hU0 hk0_2 hap5
    have hg0_5 := OgR.app hg0_2 hU0.size hap5
    have hB := hB.updL hXw5 hl2
    have hb3 := hb3.updD hXw5 (Dj.symm hd2_3)
    have ho4 := ho4.updD hXw5 (Dj.symm hd2_4)
    have hU0 := hU0.step hXw5 hk0_2
    refine WL.asg rfl rfl ?_
    refine WL.nil ?_
    refine NQ.block ?_
    refine NQ.then ?_
    refine CW.reg ?_
    refine WL.pure rfl rfl rfl (PV.add rfl rfl (by constructor <;> omega)) ?_
    refine WL.mv rfl rfl ?_
    refine WL.nil ?_
    refine NQ.next (ρ := [(5, _), (11, _)]) ⟨rfl, rfl, rfl, rfl, rfl, trivial⟩ ?_
    exact ⟨_, ⟨v5, og5, k + 1, rfl, rfl, hU0, osnE ho5 (by exact movL_put (by omega) rfl), (by first | exact hg0_5 | exact OgR.weak hg0_5), (by first | omega | assumption | (simp_all; done) | (simp_all; omega))⟩, by omega⟩
  try simp only [nq] at hc1
  refine CW.exit ?_
  refine XQ.then ?_
  refine XQ.then ?_
  refine XQ.here ?_
  refine NQ.then ?_
  refine CW.seq ?_
  refine CW.reg ?_
  refine WL.mv rfl rfl ?_
  refine WL.asg rfl rfl ?_
  refine WL.nilS ?_
  refine CW.ret ?_
  refine RQ.r1 rfl ?_
  refine ⟨hB, v2, og2, ?_, osnE ho2 ?_, hl2⟩
  · skip
    rfl
  · skip
    exact movL_all (by omega)
theorem c_slices_Grow_impl_PairArc_impl_PairArc {w : World} {N : Int} (hN : 0 ≤ N ∧ N ≤ 1048576) : Calls Try.prog 205 #[.slice none 0 0, .int .i64 N] w (Ret1 (fun v w' => Ext w w' ∧ ∃ u og_u, v = u ∧ Osn 4 gR w' og_u u (([] : List R4)) ∧ Lo w og_u)) := by
  have hB : Ext w w := Ext.refl w
  have hnil : Rd ER w (.slice none 0 0) [] := Rd.nil _ _
  refine callsOf (vs := [_, _]) Try.func205 rfl Try.ntmps205 rfl rfl ?_
  refine CW.seq ?_
  refine CW.reg ?_
  refine WL.asg rfl rfl ?_
  refine WL.nilS ?_
  refine CW.seq ?_
  refine CW.seq ?_
  refine CW.reg ?_
  refine WL.mv rfl rfl ?_
  refine WL.pure rfl rfl rfl (PV.lss rfl rfl) ?_
  refine WL.nilS ?_
  refine CW.cond rfl (fun hc1 => ?_) (fun hc1 => ?_)
  · skip
    try simp only [nq] at hc1
    exfalso; omega
  try simp only [nq] at hc1
  refine CW.skipS ?_
  refine CW.seq ?_
  refine CW.seq ?_
  refine CW.reg ?_
  refine WL.mv rfl rfl ?_
  refine WL.mv rfl rfl ?_
  refine WL.pure rfl rfl rfl (PV.capNil rfl T.sl86) ?_
  refine WL.mv rfl rfl ?_
  refine WL.pure rfl rfl rfl ((by first | exact PV.len rfl (by assumption) T.sl86 | exact PV.lenOs rfl (by assumption) T.sl86 | exact PV.len rfl (NL.rd (by assumption)) T.sl86 | exact PV.len rfl (Inn.rd (by assumption) (by omega)) T.sl86)) ?_
  simp only [List.length_nil]
  refine WL.pure rfl rfl rfl (PV.sub rfl rfl (by constructor <;> omega)) ?_
  refine WL.pure rfl rfl rfl (PV.sub rfl rfl (by constructor <;> omega)) ?_
  refine WL.asg rfl rfl ?_
  refine WL.nilS ?_
  refine CW.seq ?_
  refine CW.reg ?_
  refine WL.mv rfl rfl ?_
  refine WL.pure rfl rfl rfl (PV.gtr rfl rfl) ?_
  refine WL.nilS ?_
  refine CW.cond rfl (fun hc2 => ?_) (fun hc2 => ?_)
  · skip
    try simp only [nq] at hc2
    refine CW.reg ?_
    refine WL.mv rfl rfl ?_
    refine WL.mv rfl rfl ?_
    refine WL.pure rfl rfl rfl (PV.capNil rfl T.sl86) ?_
    refine WL.pure rfl rfl rfl (PV.sliceNil T.sl86 rfl rfl) ?_
    refine WL.mv rfl rfl ?_
    refine WL.op rfl (OpK.growA rfl T.sl86 T.ik3 T.zv178 rfl rfl rfl rfl (by omega) rfl (fun v1 g1 cs1 w1 hXw1 ho1 hge1 => ?_))
    have hl1 := Lo.new hB hge1
    have hB := hB.trans hXw1
    refine WL.mv rfl rfl ?_
    refine WL.pure rfl rfl rfl ((by first | exact PV.len rfl (by assumption) T.sl86 | exact PV.lenOs rfl (by assumption) T.sl86 | exact PV.len rfl (NL.rd (by assumption)) T.sl86 | exact PV.len rfl (Inn.rd (by assumption) (by omega)) T.sl86)) ?_
    refine WL.slG (x := .tmp 22) (hi := .tmp 24) T.sl86 rfl rfl rfl ho1 (fun u2 huu2 hou2 => ?_)
    refine WL.pure rfl rfl rfl ((huu2 _ _ _ _ _ _)) ?_
    refine WL.asg rfl rfl ?_
    have ho2 : Osn 4 gR w1 (some g1) u2 [] := ⟨gR_ok, hou2⟩
    have hl2 := hl1
    refine WL.nilS ?_
    refine CW.seq ?_
    refine CW.reg ?_
    refine WL.mv rfl rfl ?_
    refine WL.asg rfl rfl ?_
    refine WL.nilS ?_
    refine CW.ret ?_
    refine RQ.r1 rfl ?_
    refine ⟨hB, u2, (some g1), ?_, osnE ho2 ?_, hl2⟩
    · skip
      rfl
    · skip
      rfl
  try simp only [nq] at hc2
  refine CW.skipS ?_
  refine CW.seq ?_
  refine CW.reg ?_
  refine WL.mv rfl rfl ?_
  refine WL.asg rfl rfl ?_
  refine WL.nilS ?_
  refine CW.ret ?_
  refine RQ.r1 rfl ?_
  refine ⟨hB, (.slice none 0 0), none, ?_, osnE (Osn.nil gR_ok _) ?_, Lo.nl _⟩
  · skip
    rfl
  · skip
    rfl
theorem c_slices_Concat_impl_PairArc_impl_PairArc {w : World} {va : Value} {xs : List (List R4)} (ha : Rd (ESl ER) w va xs) (hT : xs.flatten.length ≤ 100000) : Calls Try.prog 153 #[va] w (Ret1 (fun v w' => Ext w w' ∧ ∃ u og_u, v = u ∧ Osn 4 gR w' og_u u (xs.flatten) ∧ Lo w og_u)) := by
  have hB : Ext w w := Ext.refl w
  have hla := ha.leI
  refine callsOf (vs := [_]) Try.func153 rfl Try.ntmps153 rfl rfl ?_
  refine CW.seq ?_
  refine CW.reg ?_
  refine WL.asg rfl rfl ?_
  refine WL.nilS ?_
  refine CW.seq ?_
  refine CW.reg ?_
  refine WL.asg rfl rfl ?_
  refine WL.nilS ?_
  refine CW.seq ?_
  refine CW.seq ?_
  refine CW.reg ?_
  refine WL.mv rfl rfl ?_
  refine WL.pure rfl rfl rfl ((by first | exact PV.len rfl (by assumption) T.sl232 | exact PV.lenOs rfl (by assumption) T.sl232 | exact PV.len rfl (NL.rd (by assumption)) T.sl232 | exact PV.len rfl (Inn.rd (by assumption) (by omega)) T.sl232)) ?_
  refine WL.mv rfl rfl ?_
  refine WL.nilS ?_
  refine CW.block ?_
  refine CW.loop (σk := [(0, _), (9, _), (10, _)]) (fun ρ wz m => ∃ (k : Nat), ρ = [(3, .int .i64 (((xs.take k).flatten.length : Nat) : Int)), (11, .int .i64 (k : Nat))] ∧ m = xs.length - k ∧ UpdL [] w wz ∧ (k ≤ xs.length)) (ρ₀ := [(3, _), (11, _)]) (m₀ := _) ⟨rfl, rfl, rfl, rfl, rfl, trivial⟩ ⟨0, (by simp), rfl, (UpdL.refl _ _), (by first | omega | rfl | (simp; done) | assumption | (simp_all; done))⟩ ?_
  rintro _ wl1 _ ⟨k, rfl, rfl, hU0, hk⟩
  have hB := hB.loop hU0 trivial
  have hfl := flat_le (xs := xs) k
  refine CW.seq ?_
  refine CW.reg ?_
  refine WL.pure rfl rfl rfl (PV.lss rfl rfl) ?_
  refine WL.nilS ?_
  refine CW.seq ?_
  refine CW.cond rfl (fun hc1 => ?_) (fun hc1 => ?_)
  · skip
    try simp only [nq] at hc1
    refine CW.skipS ?_
    refine CW.seq ?_
    refine CW.block ?_
    refine CW.seq ?_
    refine CW.reg ?_
    first
      | refine WL.at (x := .tmp 9) (y := .tmp 11) (E := ESl ER) ([]) rfl rfl (by first | assumption | exact Inn.rd (by assumption) (by omega)) (by first | omega | (simp only [List.length_set]; omega) | (simp only [List.length_append, List.length_take, List.length_replicate, List.length_drop]; omega)) (fun p1 csp1 hpp1 hcp1 hq => ?_)
      | refine WL.atZ (x := .tmp 9) (y := .tmp 11) (E := ESl ER) ([]) rfl rfl (by first | assumption | exact Inn.rd (by assumption) (by omega)) (by first | omega | (simp only [List.length_set]; omega) | (simp only [List.length_append, List.length_take, List.length_replicate, List.length_drop]; omega)) (fun p1 csp1 hpp1 hzp1 hcp1 hq => ?_)
    obtain ⟨vq, rfl, hrq⟩ := hq; have hrql := hrq.leI
    refine WL.pure rfl rfl rfl ((by first | exact PV.indexAddr hpp1 rfl rfl T.sl232 | exact PV.indexAddr hpp1 rfl (by rw [← hzp1]; rfl) T.sl232)) ?_
    refine WL.pure rfl rfl rfl ((by first | exact PV.load0 T.na86 rfl (by first | exact Cells.up (by assumption) hB | exact Bx.cells (by assumption) | assumption) (Ext.refl _) rfl | exact PV.load1 T.na86 rfl (by first | exact Cells.up (by assumption) hB | exact Bx.cells (by assumption) | assumption) (Ext.refl _) rfl)) ?_
    refine WL.asg rfl rfl ?_
    refine WL.nilS ?_
    refine CW.seq ?_
    refine CW.reg ?_
    have hfs := congrArg List.length (flat_succ (xs := xs) (k := k) (by omega)); rw [List.length_append] at hfs; have hfl1 := flat_le (xs := xs) (k + 1)
    refine WL.mv rfl rfl ?_
    refine WL.mv rfl rfl ?_
    refine WL.pure rfl rfl rfl ((by first | exact PV.len rfl (by assumption) T.sl86 | exact PV.lenOs rfl (by assumption) T.sl86 | exact PV.len rfl (NL.rd (by assumption)) T.sl86 | exact PV.len rfl (Inn.rd (by assumption) (by omega)) T.sl86)) ?_
    refine WL.pure rfl rfl rfl (PV.add rfl rfl (by constructor <;> omega)) ?_
    refine WL.asg rfl rfl ?_
    refine WL.nilS ?_
    refine CW.seq ?_
    refine CW.reg ?_
    refine WL.mv rfl rfl ?_
    refine WL.pure rfl rfl rfl (PV.lss rfl rfl) ?_
    refine WL.nilS ?_
    refine CW.cond rfl (fun hc2 => ?_) (fun hc2 => ?_)
    · skip
      try simp only [nq] at hc2
      exfalso; omega
    try simp only [nq] at hc2
    refine CW.skip ?_
    refine NQ.block ?_
    refine NQ.then ?_
    refine CW.reg ?_
    refine WL.pure rfl rfl rfl (PV.add rfl rfl (by constructor <;> omega)) ?_
    refine WL.mv rfl rfl ?_
    refine WL.nil ?_
    refine NQ.next (ρ := [(3, _), (11, _)]) ⟨rfl, rfl, rfl, rfl, rfl, trivial⟩ ?_
    exact ⟨_, ⟨k + 1, (by have e9 : (((xs.take (k + 1)).flatten.length : Nat) : Int) = ((xs.take k).flatten.length : Int) + ((xs.getD k []).length : Int) := (by omega); rw [e9]; rfl), rfl, hU0, (by first | omega | assumption | (simp_all; done) | (simp_all; omega))⟩, by omega⟩
  try simp only [nq] at hc1
  refine CW.exit ?_
  refine XQ.then ?_
  refine XQ.then ?_
  refine XQ.here ?_
  refine NQ.then ?_
  refine CW.seq ?_
  refine CW.reg ?_
  refine WL.mv rfl rfl ?_
  refine WL.op rfl (OpK.call rfl T.cf205 rfl (c_slices_Grow_impl_PairArc_impl_PairArc (by first | assumption | omega | (simp only [marks_len, marksB_len, marksR_len, sumL_marksS]; omega))) (fun rv1 w1 hR => ?_))
  obtain ⟨hXw1, v1, og1, rfl, ho1, hq1⟩ := hR
  have hl1 := Lo.up hq1 hB
  have hB := hB.trans hXw1
  refine WL.asg rfl rfl ?_
  refine WL.nilS ?_
  refine CW.seq ?_
  refine CW.seq ?_
  refine CW.reg ?_
  refine WL.mv rfl rfl ?_
  refine WL.pure rfl rfl rfl ((by first | exact PV.len rfl (by assumption) T.sl232 | exact PV.lenOs rfl (by assumption) T.sl232 | exact PV.len rfl (NL.rd (by assumption)) T.sl232 | exact PV.len rfl (Inn.rd (by assumption) (by omega)) T.sl232)) ?_
  refine WL.mv rfl rfl ?_
  refine WL.nilS ?_
  refine CW.block ?_
  have hlt1 := ho1.ltO
  refine CW.loop (σk := [(25, _), (26, _)]) (fun ρ wz m => ∃ (v2 : Value) (og2 : Option Nat) (k : Nat), ρ = [(6, v2), (27, .int .i64 (k : Nat))] ∧ m = xs.length - k ∧ UpdL [og1] w1 wz ∧ Osn 4 gR wz og2 v2 ((xs.take k).flatten) ∧ OgR w1 og1 og2 ∧ (k ≤ xs.length)) (ρ₀ := [(6, _), (27, _)]) (m₀ := _) ⟨rfl, rfl, rfl, rfl, trivial⟩ ⟨rv1, og1, 0, rfl, rfl, (UpdL.refl _ _), osnE ho1 (by simp), OgR.refl _ _, (by first | omega | rfl | (simp; done) | assumption | (simp_all; done))⟩ ?_
  rintro _ wl2 _ ⟨v2, og2, k, rfl, rfl, hU1, ho2, ha2, hk⟩
  have hl2 := Lo.ogr hl1 hB ha2
  have hg1_2 := ha2
  have hk1_2 : OkB [og1] w1 og2 := OkB.ogr (OkB.mem (by simp)) (Nat.le_refl _) ha2
  have hB := hB.loop hU1 ⟨hl1, trivial⟩
  have hfl := flat_le (xs := xs) k
  refine CW.seq ?_
  refine CW.reg ?_
  refine WL.pure rfl rfl rfl (PV.lss rfl rfl) ?_
  refine WL.nilS ?_
  refine CW.seq ?_
  refine CW.cond rfl (fun hc3 => ?_) (fun hc3 => ?_)
  · skip
    try simp only [nq] at hc3
    refine CW.skipS ?_
    refine CW.seq ?_
    refine CW.block ?_
    refine CW.seq ?_
    refine CW.reg ?_
    first
      | refine WL.at (x := .tmp 25) (y := .tmp 27) (E := ESl ER) ([]) rfl rfl (by first | assumption | exact Inn.rd (by assumption) (by omega)) (by first | omega | (simp only [List.length_set]; omega) | (simp only [List.length_append, List.length_take, List.length_replicate, List.length_drop]; omega)) (fun p2 csp2 hpp2 hcp2 hq => ?_)
      | refine WL.atZ (x := .tmp 25) (y := .tmp 27) (E := ESl ER) ([]) rfl rfl (by first | assumption | exact Inn.rd (by assumption) (by omega)) (by first | omega | (simp only [List.length_set]; omega) | (simp only [List.length_append, List.length_take, List.length_replicate, List.length_drop]; omega)) (fun p2 csp2 hpp2 hzp2 hcp2 hq => ?_)
    obtain ⟨vq, rfl, hrq⟩ := hq; have hrql := hrq.leI
    refine WL.pure rfl rfl rfl ((by first | exact PV.indexAddr hpp2 rfl rfl T.sl232 | exact PV.indexAddr hpp2 rfl (by rw [← hzp2]; rfl) T.sl232)) ?_
    refine WL.pure rfl rfl rfl ((by first | exact PV.load0 T.na86 rfl (by first | exact Cells.up (by assumption) hB | exact Bx.cells (by assumption) | assumption) (Ext.refl _) rfl | exact PV.load1 T.na86 rfl (by first | exact Cells.up (by assumption) hB | exact Bx.cells (by assumption) | assumption) (Ext.refl _) rfl)) ?_
    refine WL.asg rfl rfl ?_
    refine WL.nilS ?_
    refine CW.reg ?_
    have hfs := congrArg List.length (flat_succ (xs := xs) (k := k) (by omega)); rw [List.length_append] at hfs; have hfl1 := flat_le (xs := xs) (k + 1)
    refine WL.mv rfl rfl ?_
    refine WL.mv rfl rfl ?_
    refine WL.op rfl (OpK.appendN (g := gR) rfl T.sl86 T.zv178 rfl rfl ho2 rfl (Rd.srcN (by first | assumption | exact Rd.up (by assumption) hB)) (by first | (simp only [List.length_cons, List.length_nil]; omega) | (omega)) (fun v3 og3 w2 hXw2 ho3 hap3 => ?_))
    have hl3 := Lo.app hl2 hB hap3
    have hk1_3 := OkN.app hU1 hk1_2 hap3
    have hg1_3 := OgR.app hg1_2 hU1.size hap3
    have hB := hB.updL hXw2 hl2
    have hU1 := hU1.step hXw2 hk1_2
    refine WL.asg rfl rfl ?_
    refine WL.nil ?_
    refine NQ.block ?_
    refine NQ.then ?_
    refine CW.reg ?_
    refine WL.pure rfl rfl rfl (PV.add rfl rfl (by constructor <;> omega)) ?_
    refine WL.mv rfl rfl ?_
    refine WL.nil ?_
    refine NQ.next (ρ := [(6, _), (27, _)]) ⟨rfl, rfl, rfl, rfl, trivial⟩ ?_
    exact ⟨_, ⟨v3, og3, k + 1, rfl, rfl, hU1, osnE ho3 (by exact flat_put (by omega)), (by first | exact hg1_3 | exact OgR.weak hg1_3), (by first | omega | assumption | (simp_all; done) | (simp_all; omega))⟩, by omega⟩
  try simp only [nq] at hc3
  refine CW.exit ?_
  refine XQ.then ?_
  refine XQ.then ?_
  refine XQ.here ?_
  refine NQ.then ?_
  refine CW.seq ?_
  refine CW.reg ?_
  refine WL.mv rfl rfl ?_
  refine WL.asg rfl rfl ?_
  refine WL.nilS ?_
  refine CW.ret ?_
  refine RQ.r1 rfl ?_
  refine ⟨hB, v2, og2, ?_, osnE ho2 ?_, hl2⟩
  · skip
    rfl
  · skip
    rw [List.take_of_length_le (by omega)]
theorem c_slices_Grow_bool_bool {w : World} {N : Int} (hN : 0 ≤ N ∧ N ≤ 1048576) : Calls Try.prog 206 #[.slice none 0 0, .int .i64 N] w (Ret1 (fun v w' => Ext w w' ∧ ∃ u og_u, v = u ∧ Osl VB w' og_u u (([] : List Bool)) ∧ Lo w og_u)) := by
  have hB : Ext w w := Ext.refl w
  have hnil : Rd EB w (.slice none 0 0) [] := Rd.nil _ _
  refine callsOf (vs := [_, _]) Try.func206 rfl Try.ntmps206 rfl rfl ?_
  refine CW.seq ?_
  refine CW.reg ?_
  refine WL.asg rfl rfl ?_
  refine WL.nilS ?_
  refine CW.seq ?_
  refine CW.seq ?_
  refine CW.reg ?_
  refine WL.mv rfl rfl ?_
  refine WL.pure rfl rfl rfl (PV.lss rfl rfl) ?_
  refine WL.nilS ?_
  refine CW.cond rfl (fun hc1 => ?_) (fun hc1 => ?_)
  · skip
    try simp only [nq] at hc1
    exfalso; omega
  try simp only [nq] at hc1
  refine CW.skipS ?_
  refine CW.seq ?_
  refine CW.seq ?_
  refine CW.reg ?_
  refine WL.mv rfl rfl ?_
  refine WL.mv rfl rfl ?_
  refine WL.pure rfl rfl rfl (PV.capNil rfl T.sl62) ?_
  refine WL.mv rfl rfl ?_
  refine WL.pure rfl rfl rfl ((by first | exact PV.len rfl (by assumption) T.sl62 | exact PV.lenOs rfl (by assumption) T.sl62 | exact PV.len rfl (NL.rd (by assumption)) T.sl62 | exact PV.len rfl (Inn.rd (by assumption) (by omega)) T.sl62)) ?_
  simp only [List.length_nil]
  refine WL.pure rfl rfl rfl (PV.sub rfl rfl (by constructor <;> omega)) ?_
  refine WL.pure rfl rfl rfl (PV.sub rfl rfl (by constructor <;> omega)) ?_
  refine WL.asg rfl rfl ?_
  refine WL.nilS ?_
  refine CW.seq ?_
  refine CW.reg ?_
  refine WL.mv rfl rfl ?_
  refine WL.pure rfl rfl rfl (PV.gtr rfl rfl) ?_
  refine WL.nilS ?_
  refine CW.cond rfl (fun hc2 => ?_) (fun hc2 => ?_)
  · skip
    try simp only [nq] at hc2
    refine CW.reg ?_
    refine WL.mv rfl rfl ?_
    refine WL.mv rfl rfl ?_
    refine WL.pure rfl rfl rfl (PV.capNil rfl T.sl62) ?_
    refine WL.pure rfl rfl rfl (PV.sliceNil T.sl62 rfl rfl) ?_
    refine WL.mv rfl rfl ?_
    refine WL.op rfl (OpK.growA rfl T.sl62 T.ik3 T.zv4 rfl rfl rfl rfl (by omega) rfl (fun v1 g1 cs1 w1 hXw1 ho1 hge1 => ?_))
    have hl1 := Lo.new hB hge1
    have hB := hB.trans hXw1
    refine WL.mv rfl rfl ?_
    refine WL.pure rfl rfl rfl ((by first | exact PV.len rfl (by assumption) T.sl62 | exact PV.lenOs rfl (by assumption) T.sl62 | exact PV.len rfl (NL.rd (by assumption)) T.sl62 | exact PV.len rfl (Inn.rd (by assumption) (by omega)) T.sl62)) ?_
    refine WL.slG (x := .tmp 22) (hi := .tmp 24) T.sl62 rfl rfl rfl ho1 (fun u2 huu2 hou2 => ?_)
    refine WL.pure rfl rfl rfl ((huu2 _ _ _ _ _ _)) ?_
    refine WL.asg rfl rfl ?_
    have ho2 : Osl VB w1 (some g1) u2 [] := hou2
    have hl2 := hl1
    refine WL.nilS ?_
    refine CW.seq ?_
    refine CW.reg ?_
    refine WL.mv rfl rfl ?_
    refine WL.asg rfl rfl ?_
    refine WL.nilS ?_
    refine CW.ret ?_
    refine RQ.r1 rfl ?_
    refine ⟨hB, u2, (some g1), ?_, osE ho2 ?_, hl2⟩
    · skip
      rfl
    · skip
      rfl
  try simp only [nq] at hc2
  refine CW.skipS ?_
  refine CW.seq ?_
  refine CW.reg ?_
  refine WL.mv rfl rfl ?_
  refine WL.asg rfl rfl ?_
  refine WL.nilS ?_
  refine CW.ret ?_
  refine RQ.r1 rfl ?_
  refine ⟨hB, (.slice none 0 0), none, ?_, osE (Osl.nil _ _) ?_, Lo.nl _⟩
  · skip
    rfl
  · skip
    rfl
theorem c_slices_Concat_bool_bool {w : World} {va : Value} {xs : List (List Bool)} (ha : Rd (ESl EB) w va xs) (hT : xs.flatten.length ≤ 100000) : Calls Try.prog 154 #[va] w (Ret1 (fun v w' => Ext w w' ∧ ∃ u og_u, v = u ∧ Osl VB w' og_u u (xs.flatten) ∧ Lo w og_u)) := by
  have hB : Ext w w := Ext.refl w
  have hla := ha.leI
  refine callsOf (vs := [_]) Try.func154 rfl Try.ntmps154 rfl rfl ?_
  refine CW.seq ?_
  refine CW.reg ?_
  refine WL.asg rfl rfl ?_
  refine WL.nilS ?_
  refine CW.seq ?_
  refine CW.reg ?_
  refine WL.asg rfl rfl ?_
  refine WL.nilS ?_
  refine CW.seq ?_
  refine CW.seq ?_
  refine CW.reg ?_
  refine WL.mv rfl rfl ?_
  refine WL.pure rfl rfl rfl ((by first | exact PV.len rfl (by assumption) T.sl234 | exact PV.lenOs rfl (by assumption) T.sl234 | exact PV.len rfl (NL.rd (by assumption)) T.sl234 | exact PV.len rfl (Inn.rd (by assumption) (by omega)) T.sl234)) ?_
  refine WL.mv rfl rfl ?_
  refine WL.nilS ?_
  refine CW.block ?_
  refine CW.loop (σk := [(0, _), (9, _), (10, _)]) (fun ρ wz m => ∃ (k : Nat), ρ = [(3, .int .i64 (((xs.take k).flatten.length : Nat) : Int)), (11, .int .i64 (k : Nat))] ∧ m = xs.length - k ∧ UpdL [] w wz ∧ (k ≤ xs.length)) (ρ₀ := [(3, _), (11, _)]) (m₀ := _) ⟨rfl, rfl, rfl, rfl, rfl, trivial⟩ ⟨0, (by simp), rfl, (UpdL.refl _ _), (by first | omega | rfl | (simp; done) | assumption | (simp_all; done))⟩ ?_
  rintro _ wl1 _ ⟨k, rfl, rfl, hU0, hk⟩
  have hB := hB.loop hU0 trivial
  have hfl := flat_le (xs := xs) k
  refine CW.seq ?_
  refine CW.reg ?_
  refine WL.pure rfl rfl rfl (PV.lss rfl rfl) ?_
  refine WL.nilS ?_
  refine CW.seq ?_
  refine CW.cond rfl (fun hc1 => ?_) (fun hc1 => ?_)
  · skip
    try simp only [nq] at hc1
    refine CW.skipS ?_
    refine CW.seq ?_
    refine CW.block ?_
    refine CW.seq ?_
    refine CW.reg ?_
    first
      | refine WL.at (x := .tmp 9) (y := .tmp 11) (E := ESl EB) ([]) rfl rfl (by first | assumption | exact Inn.rd (by assumption) (by omega)) (by first | omega | (simp only [List.length_set]; omega) | (simp only [List.length_append, List.length_take, List.length_replicate, List.length_drop]; omega)) (fun p1 csp1 hpp1 hcp1 hq => ?_)
      | refine WL.atZ (x := .tmp 9) (y := .tmp 11) (E := ESl EB) ([]) rfl rfl (by first | assumption | exact Inn.rd (by assumption) (by omega)) (by first | omega | (simp only [List.length_set]; omega) | (simp only [List.length_append, List.length_take, List.length_replicate, List.length_drop]; omega)) (fun p1 csp1 hpp1 hzp1 hcp1 hq => ?_)
    obtain ⟨vq, rfl, hrq⟩ := hq; have hrql := hrq.leI
    refine WL.pure rfl rfl rfl ((by first | exact PV.indexAddr hpp1 rfl rfl T.sl234 | exact PV.indexAddr hpp1 rfl (by rw [← hzp1]; rfl) T.sl234)) ?_
    refine WL.pure rfl rfl rfl ((by first | exact PV.load0 T.na62 rfl (by first | exact Cells.up (by assumption) hB | exact Bx.cells (by assumption) | assumption) (Ext.refl _) rfl | exact PV.load1 T.na62 rfl (by first | exact Cells.up (by assumption) hB | exact Bx.cells (by assumption) | assumption) (Ext.refl _) rfl)) ?_
    refine WL.asg rfl rfl ?_
    refine WL.nilS ?_
    refine CW.seq ?_
    refine CW.reg ?_
    have hfs := congrArg List.length (flat_succ (xs := xs) (k := k) (by omega)); rw [List.length_append] at hfs; have hfl1 := flat_le (xs := xs) (k + 1)
    refine WL.mv rfl rfl ?_
    refine WL.mv rfl rfl ?_
    refine WL.pure rfl rfl rfl ((by first | exact PV.len rfl (by assumption) T.sl62 | exact PV.lenOs rfl (by assumption) T.sl62 | exact PV.len rfl (NL.rd (by assumption)) T.sl62 | exact PV.len rfl (Inn.rd (by assumption) (by omega)) T.sl62)) ?_
    refine WL.pure rfl rfl rfl (PV.add rfl rfl (by constructor <;> omega)) ?_
    refine WL.asg rfl rfl ?_
    refine WL.nilS ?_
    refine CW.seq ?_
    refine CW.reg ?_
    refine WL.mv rfl rfl ?_
    refine WL.pure rfl rfl rfl (PV.lss rfl rfl) ?_
    refine WL.nilS ?_
    refine CW.cond rfl (fun hc2 => ?_) (fun hc2 => ?_)
    · skip
      try simp only [nq] at hc2
      exfalso; omega
    try simp only [nq] at hc2
    refine CW.skip ?_
    refine NQ.block ?_
    refine NQ.then ?_
    refine CW.reg ?_
    refine WL.pure rfl rfl rfl (PV.add rfl rfl (by constructor <;> omega)) ?_
    refine WL.mv rfl rfl ?_
    refine WL.nil ?_
    refine NQ.next (ρ := [(3, _), (11, _)]) ⟨rfl, rfl, rfl, rfl, rfl, trivial⟩ ?_
    exact ⟨_, ⟨k + 1, (by have e9 : (((xs.take (k + 1)).flatten.length : Nat) : Int) = ((xs.take k).flatten.length : Int) + ((xs.getD k []).length : Int) := (by omega); rw [e9]; rfl), rfl, hU0, (by first | omega | assumption | (simp_all; done) | (simp_all; omega))⟩, by omega⟩
  try simp only [nq] at hc1
  refine CW.exit ?_
  refine XQ.then ?_
  refine XQ.then ?_
  refine XQ.here ?_
  refine NQ.then ?_
  refine CW.seq ?_
  refine CW.reg ?_
  refine WL.mv rfl rfl ?_
  refine WL.op rfl (OpK.call rfl T.cf206 rfl (c_slices_Grow_bool_bool (by first | assumption | omega | (simp only [marks_len, marksB_len, marksR_len, sumL_marksS]; omega))) (fun rv1 w1 hR => ?_))
  obtain ⟨hXw1, v1, og1, rfl, ho1, hq1⟩ := hR
  have hl1 := Lo.up hq1 hB
  have hB := hB.trans hXw1
  refine WL.asg rfl rfl ?_
  refine WL.nilS ?_
  refine CW.seq ?_
  refine CW.seq ?_
  refine CW.reg ?_
  refine WL.mv rfl rfl ?_
  refine WL.pure rfl rfl rfl ((by first | exact PV.len rfl (by assumption) T.sl234 | exact PV.lenOs rfl (by assumption) T.sl234 | exact PV.len rfl (NL.rd (by assumption)) T.sl234 | exact PV.len rfl (Inn.rd (by assumption) (by omega)) T.sl234)) ?_
  refine WL.mv rfl rfl ?_
  refine WL.nilS ?_
  refine CW.block ?_
  have hlt1 := ho1.ltO
  refine CW.loop (σk := [(25, _), (26, _)]) (fun ρ wz m => ∃ (v2 : Value) (og2 : Option Nat) (k : Nat), ρ = [(6, v2), (27, .int .i64 (k : Nat))] ∧ m = xs.length - k ∧ UpdL [og1] w1 wz ∧ Osl VB wz og2 v2 ((xs.take k).flatten) ∧ OgR w1 og1 og2 ∧ (k ≤ xs.length)) (ρ₀ := [(6, _), (27, _)]) (m₀ := _) ⟨rfl, rfl, rfl, rfl, trivial⟩ ⟨rv1, og1, 0, rfl, rfl, (UpdL.refl _ _), osE ho1 (by simp), OgR.refl _ _, (by first | omega | rfl | (simp; done) | assumption | (simp_all; done))⟩ ?_
  rintro _ wl2 _ ⟨v2, og2, k, rfl, rfl, hU1, ho2, ha2, hk⟩
  have hl2 := Lo.ogr hl1 hB ha2
  have hg1_2 := ha2
  have hk1_2 : OkB [og1] w1 og2 := OkB.ogr (OkB.mem (by simp)) (Nat.le_refl _) ha2
  have hB := hB.loop hU1 ⟨hl1, trivial⟩
  have hfl := flat_le (xs := xs) k
  refine CW.seq ?_
  refine CW.reg ?_
  refine WL.pure rfl rfl rfl (PV.lss rfl rfl) ?_
  refine WL.nilS ?_
  refine CW.seq ?_
  refine CW.cond rfl (fun hc3 => ?_) (fun hc3 => ?_)
  · skip
    try simp only [nq] at hc3
    refine CW.skipS ?_
    refine CW.seq ?_
    refine CW.block ?_
    refine CW.seq ?_
    refine CW.reg ?_
    first
      | refine WL.at (x := .tmp 25) (y := .tmp 27) (E := ESl EB) ([]) rfl rfl (by first | assumption | exact Inn.rd (by assumption) (by omega)) (by first | omega | (simp only [List.length_set]; omega) | (simp only [List.length_append, List.length_take, List.length_replicate, List.length_drop]; omega)) (fun p2 csp2 hpp2 hcp2 hq => ?_)
      | refine WL.atZ (x := .tmp 25) (y := .tmp 27) (E := ESl EB) ([]) rfl rfl (by first | assumption | exact Inn.rd (by assumption) (by omega)) (by first | omega | (simp only [List.length_set]; omega) | (simp only [List.length_append, List.length_take, List.length_replicate, List.length_drop]; omega)) (fun p2 csp2 hpp2 hzp2 hcp2 hq => ?_)
    obtain ⟨vq, rfl, hrq⟩ := hq; have hrql := hrq.leI
    refine WL.pure rfl rfl rfl ((by first | exact PV.indexAddr hpp2 rfl rfl T.sl234 | exact PV.indexAddr hpp2 rfl (by rw [← hzp2]; rfl) T.sl234)) ?_
    refine WL.pure rfl rfl rfl ((by first | exact PV.load0 T.na62 rfl (by first | exact Cells.up (by assumption) hB | exact Bx.cells (by assumption) | assumption) (Ext.refl _) rfl | exact PV.load1 T.na62 rfl (by first | exact Cells.up (by assumption) hB | exact Bx.cells (by assumption) | assumption) (Ext.refl _) rfl)) ?_
    refine WL.asg rfl rfl ?_
    refine WL.nilS ?_
    refine CW.reg ?_
    have hfs := congrArg List.length (flat_succ (xs := xs) (k := k) (by omega)); rw [List.length_append] at hfs; have hfl1 := flat_le (xs := xs) (k + 1)
    refine WL.mv rfl rfl ?_
    refine WL.mv rfl rfl ?_
    refine WL.op rfl (OpK.appendS (f := VB) rfl T.sl62 T.zv4 rfl rfl ho2 rfl (Rd.src (by first | assumption | exact Rd.up (by assumption) hB | exact Inn.rd (by assumption) (by omega)) (fun _ => rfl)) (by first | (simp only [List.length_cons, List.length_nil]; omega) | (omega)) (fun v3 og3 w2 hXw2 ho3 hap3 => ?_))
    have hl3 := Lo.app hl2 hB hap3
    have hk1_3 := OkN.app hU1 hk1_2 hap3
    have hg1_3 := OgR.app hg1_2 hU1.size hap3
    have hB := hB.updL hXw2 hl2
    have hU1 := hU1.step hXw2 hk1_2
    refine WL.asg rfl rfl ?_
    refine WL.nil ?_
    refine NQ.block ?_
    refine NQ.then ?_
    refine CW.reg ?_
    refine WL.pure rfl rfl rfl (PV.add rfl rfl (by constructor <;> omega)) ?_
    refine WL.mv rfl rfl ?_
    refine WL.nil ?_
    refine NQ.next (ρ := [(6, _), (27, _)]) ⟨rfl, rfl, rfl, rfl, trivial⟩ ?_
    exact ⟨_, ⟨v3, og3, k + 1, rfl, rfl, hU1, osE ho3 (by exact flat_put (by omega)), (by first | exact hg1_3 | exact OgR.weak hg1_3), (by first | omega | assumption | (simp_all; done) | (simp_all; omega))⟩, by omega⟩
  try simp only [nq] at hc3
  refine CW.exit ?_
  refine XQ.then ?_
  refine XQ.then ?_
  refine XQ.here ?_
  refine NQ.then ?_
  refine CW.seq ?_
  refine CW.reg ?_
  refine WL.mv rfl rfl ?_
  refine WL.asg rfl rfl ?_
  refine WL.nilS ?_
  refine CW.ret ?_
  refine RQ.r1 rfl ?_
  refine ⟨hB, v2, og2, ?_, osE ho2 ?_, hl2⟩
  · skip
    rfl
  · skip
    rw [List.take_of_length_le (by omega)]

end Go.Proofs.Ythemmoceomdccaa
