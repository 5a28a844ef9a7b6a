/- Walks of the functions that the law FnExactLeastTrees reaches: each says what its function computes. No condition. -/
import Derived.Test.YtfnmkcncofjjkaaProg
import Derived.Test.YtfnmkcncofjjkaaLibM
import Derived.Test.YtfnmkcncofjjkaaPlA
import Derived.Test.YtfnmkcncofjjkaaPlM
import Derived.Test.YtfnmkcncofjjkaaLibN
import Derived.Test.YtfnmkcncofjjkaaLibO
import Derived.Test.YtfnmkcncofjjkaaLibG2
import Derived.Test.YtfnmkcncofjjkaaPlG
import Derived.Test.YtfnmkcncofjjkaaLibR
import Derived.Test.YtfnmkcncofjjkaaPlFt
import Derived.Test.YtfnmkcncofjjkaaLibKp
import Derived.Test.YtfnmkcncofjjkaaLibKa
import Derived.Test.YtfnmkcncofjjkaaPlCl
import Derived.Test.YtfnmkcncofjjkaaPlR
import Derived.Test.YtfnmkcncofjjkaaWFnExactLeastTreesc
namespace Go.Proofs.Ytfnmkcncofjjkaa
open Go Go.WX Go.Proofs
set_option linter.unusedSimpArgs false
set_option linter.unusedVariables false

set_option maxHeartbeats 4000000 in
theorem c_laws_FnExactLeastTrees {w : World} {a0 : Int} {a1 : Int} {va2 : Value} {xa2 : List Int} {va3 : Value} {xa3 : List Int} {va4 : Value} {xa4 : List Bool}  (ha2 : Rd EI w va2 xa2) (ha3 : Rd EI w va3 xa3) (ha4 : Rd EB w va4 xa4) : Calls Try.prog 9 #[.agg #[.int .i64 a0, .int .i64 a1, va2, va3, va4]] w (Ret1 (RQt (.bool true) w)) := by
  have hB : Ext w w := Ext.refl w
  have hla2 := ha2.leI; have hla3 := ha3.leI; have hla4 := ha4.leI; have ho2 := onT_len (treesB a0 a1 xa2 xa3 xa4) (mpL (clsF a0 xa4 xa3 (foundL a0 xa3 xa2)) xa2); rw [mpL_len] at ho2; have hmt : (treesB a0 a1 xa2 xa3 xa4) = true → (mbF (clsF a0 xa4 xa3 (foundL a0 xa3 xa2)) (foundL a0 xa3 xa2) (foundL a0 xa3 xa2).length).length ≤ 16 := fun h => ls_len (treesB_of h); have ho3 := onT_le (c := (treesB a0 a1 xa2 xa3 xa4)) (l := nxL a0 xa3 (clsF a0 xa4 xa3 (foundL a0 xa3 xa2)) (mbF (clsF a0 xa4 xa3 (foundL a0 xa3 xa2)) (foundL a0 xa3 xa2) (foundL a0 xa3 xa2).length) (mbF (clsF a0 xa4 xa3 (foundL a0 xa3 xa2)) (foundL a0 xa3 xa2) (foundL a0 xa3 xa2).length)) (N := 256) (fun h => nxL_le2 (hmt h)); have ho4 := onT_le (c := (treesB a0 a1 xa2 xa3 xa4)) (l := enL xa4 (mbF (clsF a0 xa4 xa3 (foundL a0 xa3 xa2)) (foundL a0 xa3 xa2) (foundL a0 xa3 xa2).length)) (N := 16) (fun h => by rw [enL_len]; exact hmt h)
  refine callsOf (vs := [_]) Try.func9 rfl Try.ntmps9 rfl rfl ?_
  refine CW.seq ?_
  refine CW.reg ?_
  refine WL.op rfl (OpK.box rfl rfl (by first | exact Rd.cells1 (by assumption) | exact Osl.cells1 (by assumption) | exact Osn.cells1 (by assumption) | exact Rd.cells1 (NL.rd (by assumption)) | exact Inn.cell1 (by assumption) (by omega) | assumption | rfl) (fun b1 w1 hXw1 hb1 hge1 => ?_))
  have hl1 := Lo.new hB hge1
  have hB := hB.trans hXw1
  refine WL.asg rfl rfl ?_
  refine WL.nilS ?_
  refine CW.seq ?_
  refine CW.reg ?_
  refine WL.asg rfl rfl ?_
  refine WL.nilS ?_
  refine CW.seq ?_
  refine CW.reg ?_
  refine WL.pure rfl rfl rfl (PV.loadA T.ag33 rfl hb1.cells (Ext.refl _) rfl) ?_
  refine WL.mv rfl rfl ?_
  refine WL.op rfl (OpK.callR rfl T.cf23 rfl (c_laws_szTreeMachine (by first | assumption | exact Rd.up (by assumption) hB | exact Osl.rd (by assumption) | exact Osn.rdR (by assumption) | exact NL.rd (by assumption) | exact rdII (by assumption) (by assumption) | exact Inn.rd (by assumption) (by omega)) (by first | assumption | exact Rd.up (by assumption) hB | exact Osl.rd (by assumption) | exact Osn.rdR (by assumption) | exact NL.rd (by assumption) | exact rdII (by assumption) (by assumption) | exact Inn.rd (by assumption) (by omega)) (by first | assumption | exact Rd.up (by assumption) hB | exact Osl.rd (by assumption) | exact Osn.rdR (by assumption) | exact NL.rd (by assumption) | exact rdII (by assumption) (by assumption) | exact Inn.rd (by assumption) (by omega)) (by first | assumption | omega | (simp only [marks_len, marksB_len, marksR_len]; omega))) (fun w2 hXw2 => ?_))
  have hB := hB.trans hXw2
  have hb1 := hb1.up hXw2
  refine WL.asg rfl rfl ?_
  refine WL.nilS ?_
  refine CW.seq ?_
  refine CW.seq ?_
  refine CW.reg ?_
  refine WL.mv rfl rfl ?_
  refine WL.pure rfl rfl rfl (PV.lss rfl rfl) ?_
  refine WL.nilS ?_
  refine CW.cond rfl (fun hc1 => ?_) (fun hc1 => ?_)
  · skip
    try simp only [nq] at hc1
    refine CW.seq ?_
    refine CW.reg ?_
    refine WL.asg rfl rfl ?_
    refine WL.nilS ?_
    refine CW.ret ?_
    refine RQ.then ?_
    refine RQ.r1 rfl ?_
    refine ⟨?_, hB⟩
    first | rfl | (exfalso; revert hc1; simp; done) | (exfalso; revert hc1; simp; omega) | (exfalso; omega) | first | rfl | exact bT (by omega) | exact bF (by omega) | exact bD (by omega) | exact iE (by omega) | (simp_all; done) | (simp_all; omega) | (simp_all; intros; omega)
  try simp only [nq] at hc1
  refine CW.skipS ?_
  refine CW.seq ?_
  refine CW.reg ?_
  refine WL.pure rfl rfl rfl (PV.loadA T.ag33 rfl hb1.cells (Ext.refl _) rfl) ?_
  refine WL.op rfl (OpK.call rfl T.cf25 rfl (c_laws_toTreeMachine (by first | assumption | exact Rd.up (by assumption) hB | exact Osl.rd (by assumption) | exact Osn.rdR (by assumption) | exact NL.rd (by assumption) | exact rdII (by assumption) (by assumption) | exact Inn.rd (by assumption) (by omega)) (by first | assumption | exact Rd.up (by assumption) hB | exact Osl.rd (by assumption) | exact Osn.rdR (by assumption) | exact NL.rd (by assumption) | exact rdII (by assumption) (by assumption) | exact Inn.rd (by assumption) (by omega)) (by first | assumption | exact Rd.up (by assumption) hB | exact Osl.rd (by assumption) | exact Osn.rdR (by assumption) | exact NL.rd (by assumption) | exact rdII (by assumption) (by assumption) | exact Inn.rd (by assumption) (by omega)) (by first | assumption | omega | (simp only [marks_len, marksB_len, marksR_len]; omega)) (by first | assumption | omega | (simp only [marks_len, marksB_len, marksR_len]; omega)) (by first | assumption | omega | (simp only [marks_len, marksB_len, marksR_len]; omega))) (fun rv1 w3 hR => ?_))
  obtain ⟨hXw3, v2, og2, v3, og3, v4, og4, rfl, ho2, hq2, ho3, hq3, ho4, hq4, hd2_3, hd2_4, hd3_4⟩ := hR
  have hl2 := Lo.up hq2 hB
  have hd1_2 := Dj.lo hb1.ltO hq2
  have hl3 := Lo.up hq3 hB
  have hd1_3 := Dj.lo hb1.ltO hq3
  have hl4 := Lo.up hq4 hB
  have hd1_4 := Dj.lo hb1.ltO hq4
  have hB := hB.trans hXw3
  have hb1 := hb1.up hXw3
  refine WL.op rfl (OpK.call rfl T.cf35 rfl (c_spec_LeastTrees (Osl.rd ho2) (Osl.rd ho3) (Osl.rd ho4)) (fun rv2 w4 hR => ?_))
  obtain ⟨hXw4, v5, og5, v6, og6, v7, og7, rfl, ho5, hq5, ho6, hq6, ho7, hq7, hd5_6, hd5_7, hd6_7⟩ := hR
  have hl5 := Lo.up hq5 hB
  have hd1_5 := Dj.lo hb1.ltO hq5
  have hd2_5 := Dj.lo ho2.ltO hq5
  have hd3_5 := Dj.lo ho3.ltO hq5
  have hd4_5 := Dj.lo ho4.ltO hq5
  have hl6 := Lo.up hq6 hB
  have hd1_6 := Dj.lo hb1.ltO hq6
  have hd2_6 := Dj.lo ho2.ltO hq6
  have hd3_6 := Dj.lo ho3.ltO hq6
  have hd4_6 := Dj.lo ho4.ltO hq6
  have hl7 := Lo.up hq7 hB
  have hd1_7 := Dj.lo hb1.ltO hq7
  have hd2_7 := Dj.lo ho2.ltO hq7
  have hd3_7 := Dj.lo ho3.ltO hq7
  have hd4_7 := Dj.lo ho4.ltO hq7
  have hB := hB.trans hXw4
  have hb1 := hb1.up hXw4
  have ho2 := ho2.up hXw4
  have ho3 := ho3.up hXw4
  have ho4 := ho4.up hXw4
  refine WL.mv rfl rfl ?_
  refine WL.pure rfl rfl rfl (PV.extract rfl rfl) ?_
  refine WL.pure rfl rfl rfl (PV.extract rfl rfl) ?_
  refine WL.op rfl (OpK.alloc rfl T.zv36 rfl (fun b8 w5 hXw5 hb8 hge8 => ?_))
  have hl8 := Lo.new hB hge8
  have hd1_8 := Dj.new hb1.ltO hge8
  have hd2_8 := Dj.new ho2.ltO hge8
  have hd3_8 := Dj.new ho3.ltO hge8
  have hd4_8 := Dj.new ho4.ltO hge8
  have hd5_8 := Dj.new ho5.ltO hge8
  have hd6_8 := Dj.new ho6.ltO hge8
  have hd7_8 := Dj.new ho7.ltO hge8
  have hB := hB.trans hXw5
  have hb1 := hb1.up hXw5
  have ho2 := ho2.up hXw5
  have ho3 := ho3.up hXw5
  have ho4 := ho4.up hXw5
  have ho5 := ho5.up hXw5
  have ho6 := ho6.up hXw5
  have ho7 := ho7.up hXw5
  refine WL.op rfl (OpK.storeA T.sz36 rfl rfl rfl rfl (by simp [Value.oneCell'] <;> first | done | (repeat' apply And.intro) <;> first | rfl | exact Inn.one1 (by assumption) (by omega) | exact Osl.oneCell (by assumption) | exact Osn.oneCell (by assumption) | exact Rd.oneCell (by assumption) | exact Rd.oneCell (NL.rd (by assumption)) | assumption) hb8 (fun w6 hXw6 hb8 => ?_))
  have hB := hB.updL hXw6 hl8
  have hb1 := hb1.updD hXw6 hd1_8
  have ho2 := ho2.updD hXw6 hd2_8
  have ho3 := ho3.updD hXw6 hd3_8
  have ho4 := ho4.updD hXw6 hd4_8
  have ho5 := ho5.updD hXw6 hd5_8
  have ho6 := ho6.updD hXw6 hd6_8
  have ho7 := ho7.updD hXw6 hd7_8
  refine WL.asg rfl rfl ?_
  refine WL.nilS ?_
  refine CW.seq ?_
  refine CW.reg ?_
  refine WL.pure rfl rfl rfl (PV.loadA T.ag33 rfl hb1.cells (Ext.refl _) rfl) ?_
  refine WL.op rfl (OpK.call rfl T.cf25 rfl (c_laws_toTreeMachine (by first | assumption | exact Rd.up (by assumption) hB | exact Osl.rd (by assumption) | exact Osn.rdR (by assumption) | exact NL.rd (by assumption) | exact rdII (by assumption) (by assumption) | exact Inn.rd (by assumption) (by omega)) (by first | assumption | exact Rd.up (by assumption) hB | exact Osl.rd (by assumption) | exact Osn.rdR (by assumption) | exact NL.rd (by assumption) | exact rdII (by assumption) (by assumption) | exact Inn.rd (by assumption) (by omega)) (by first | assumption | exact Rd.up (by assumption) hB | exact Osl.rd (by assumption) | exact Osn.rdR (by assumption) | exact NL.rd (by assumption) | exact rdII (by assumption) (by assumption) | exact Inn.rd (by assumption) (by omega)) (by first | assumption | omega | (simp only [marks_len, marksB_len, marksR_len]; omega)) (by first | assumption | omega | (simp only [marks_len, marksB_len, marksR_len]; omega)) (by first | assumption | omega | (simp only [marks_len, marksB_len, marksR_len]; omega))) (fun rv3 w7 hR => ?_))
  obtain ⟨hXw7, v9, og9, v10, og10, v11, og11, rfl, ho9, hq9, ho10, hq10, ho11, hq11, hd9_10, hd9_11, hd10_11⟩ := hR
  have hl9 := Lo.up hq9 hB
  have hd1_9 := Dj.lo hb1.ltO hq9
  have hd2_9 := Dj.lo ho2.ltO hq9
  have hd3_9 := Dj.lo ho3.ltO hq9
  have hd4_9 := Dj.lo ho4.ltO hq9
  have hd5_9 := Dj.lo ho5.ltO hq9
  have hd6_9 := Dj.lo ho6.ltO hq9
  have hd7_9 := Dj.lo ho7.ltO hq9
  have hd8_9 := Dj.lo hb8.ltO hq9
  have hl10 := Lo.up hq10 hB
  have hd1_10 := Dj.lo hb1.ltO hq10
  have hd2_10 := Dj.lo ho2.ltO hq10
  have hd3_10 := Dj.lo ho3.ltO hq10
  have hd4_10 := Dj.lo ho4.ltO hq10
  have hd5_10 := Dj.lo ho5.ltO hq10
  have hd6_10 := Dj.lo ho6.ltO hq10
  have hd7_10 := Dj.lo ho7.ltO hq10
  have hd8_10 := Dj.lo hb8.ltO hq10
  have hl11 := Lo.up hq11 hB
  have hd1_11 := Dj.lo hb1.ltO hq11
  have hd2_11 := Dj.lo ho2.ltO hq11
  have hd3_11 := Dj.lo ho3.ltO hq11
  have hd4_11 := Dj.lo ho4.ltO hq11
  have hd5_11 := Dj.lo ho5.ltO hq11
  have hd6_11 := Dj.lo ho6.ltO hq11
  have hd7_11 := Dj.lo ho7.ltO hq11
  have hd8_11 := Dj.lo hb8.ltO hq11
  have hB := hB.trans hXw7
  have hb1 := hb1.up hXw7
  have ho2 := ho2.up hXw7
  have ho3 := ho3.up hXw7
  have ho4 := ho4.up hXw7
  have ho5 := ho5.up hXw7
  have ho6 := ho6.up hXw7
  have ho7 := ho7.up hXw7
  have hb8 := hb8.up hXw7
  refine WL.op rfl (OpK.alloc rfl T.zv36 rfl (fun b12 w8 hXw8 hb12 hge12 => ?_))
  have hl12 := Lo.new hB hge12
  have hd1_12 := Dj.new hb1.ltO hge12
  have hd2_12 := Dj.new ho2.ltO hge12
  have hd3_12 := Dj.new ho3.ltO hge12
  have hd4_12 := Dj.new ho4.ltO hge12
  have hd5_12 := Dj.new ho5.ltO hge12
  have hd6_12 := Dj.new ho6.ltO hge12
  have hd7_12 := Dj.new ho7.ltO hge12
  have hd8_12 := Dj.new hb8.ltO hge12
  have hd9_12 := Dj.new ho9.ltO hge12
  have hd10_12 := Dj.new ho10.ltO hge12
  have hd11_12 := Dj.new ho11.ltO hge12
  have hB := hB.trans hXw8
  have hb1 := hb1.up hXw8
  have ho2 := ho2.up hXw8
  have ho3 := ho3.up hXw8
  have ho4 := ho4.up hXw8
  have ho5 := ho5.up hXw8
  have ho6 := ho6.up hXw8
  have ho7 := ho7.up hXw8
  have hb8 := hb8.up hXw8
  have ho9 := ho9.up hXw8
  have ho10 := ho10.up hXw8
  have ho11 := ho11.up hXw8
  refine WL.op rfl (OpK.storeA T.sz36 rfl rfl rfl rfl (by simp [Value.oneCell'] <;> first | done | (repeat' apply And.intro) <;> first | rfl | exact Inn.one1 (by assumption) (by omega) | exact Osl.oneCell (by assumption) | exact Osn.oneCell (by assumption) | exact Rd.oneCell (by assumption) | exact Rd.oneCell (NL.rd (by assumption)) | assumption) hb12 (fun w9 hXw9 hb12 => ?_))
  have hB := hB.updL hXw9 hl12
  have hb1 := hb1.updD hXw9 hd1_12
  have ho2 := ho2.updD hXw9 hd2_12
  have ho3 := ho3.updD hXw9 hd3_12
  have ho4 := ho4.updD hXw9 hd4_12
  have ho5 := ho5.updD hXw9 hd5_12
  have ho6 := ho6.updD hXw9 hd6_12
  have ho7 := ho7.updD hXw9 hd7_12
  have hb8 := hb8.updD hXw9 hd8_12
  have ho9 := ho9.updD hXw9 hd9_12
  have ho10 := ho10.updD hXw9 hd10_12
  have ho11 := ho11.updD hXw9 hd11_12
  refine WL.nilS ?_
  refine CW.seq ?_
  refine CW.reg ?_
  refine WL.pure rfl rfl rfl (PV.loadA T.ag36 rfl hb12.cells (Ext.refl _) rfl) ?_
  refine WL.op rfl (OpK.call rfl T.cf36 rfl (c_impl_LeastTrees (Osl.rd ho9) (Osl.rd ho10) (Osl.rd ho11)) (fun rv4 w10 hR => ?_))
  obtain ⟨hXw10, v13, og13, v14, og14, v15, og15, rfl, ho13, hq13, ho14, hq14, ho15, hq15, hd13_14, hd13_15, hd14_15⟩ := hR
  have hl13 := Lo.up hq13 hB
  have hd1_13 := Dj.lo hb1.ltO hq13
  have hd2_13 := Dj.lo ho2.ltO hq13
  have hd3_13 := Dj.lo ho3.ltO hq13
  have hd4_13 := Dj.lo ho4.ltO hq13
  have hd5_13 := Dj.lo ho5.ltO hq13
  have hd6_13 := Dj.lo ho6.ltO hq13
  have hd7_13 := Dj.lo ho7.ltO hq13
  have hd8_13 := Dj.lo hb8.ltO hq13
  have hd9_13 := Dj.lo ho9.ltO hq13
  have hd10_13 := Dj.lo ho10.ltO hq13
  have hd11_13 := Dj.lo ho11.ltO hq13
  have hd12_13 := Dj.lo hb12.ltO hq13
  have hl14 := Lo.up hq14 hB
  have hd1_14 := Dj.lo hb1.ltO hq14
  have hd2_14 := Dj.lo ho2.ltO hq14
  have hd3_14 := Dj.lo ho3.ltO hq14
  have hd4_14 := Dj.lo ho4.ltO hq14
  have hd5_14 := Dj.lo ho5.ltO hq14
  have hd6_14 := Dj.lo ho6.ltO hq14
  have hd7_14 := Dj.lo ho7.ltO hq14
  have hd8_14 := Dj.lo hb8.ltO hq14
  have hd9_14 := Dj.lo ho9.ltO hq14
  have hd10_14 := Dj.lo ho10.ltO hq14
  have hd11_14 := Dj.lo ho11.ltO hq14
  have hd12_14 := Dj.lo hb12.ltO hq14
  have hl15 := Lo.up hq15 hB
  have hd1_15 := Dj.lo hb1.ltO hq15
  have hd2_15 := Dj.lo ho2.ltO hq15
  have hd3_15 := Dj.lo ho3.ltO hq15
  have hd4_15 := Dj.lo ho4.ltO hq15
  have hd5_15 := Dj.lo ho5.ltO hq15
  have hd6_15 := Dj.lo ho6.ltO hq15
  have hd7_15 := Dj.lo ho7.ltO hq15
  have hd8_15 := Dj.lo hb8.ltO hq15
  have hd9_15 := Dj.lo ho9.ltO hq15
  have hd10_15 := Dj.lo ho10.ltO hq15
  have hd11_15 := Dj.lo ho11.ltO hq15
  have hd12_15 := Dj.lo hb12.ltO hq15
  have hB := hB.trans hXw10
  have hb1 := hb1.up hXw10
  have ho2 := ho2.up hXw10
  have ho3 := ho3.up hXw10
  have ho4 := ho4.up hXw10
  have ho5 := ho5.up hXw10
  have ho6 := ho6.up hXw10
  have ho7 := ho7.up hXw10
  have hb8 := hb8.up hXw10
  have ho9 := ho9.up hXw10
  have ho10 := ho10.up hXw10
  have ho11 := ho11.up hXw10
  have hb12 := hb12.up hXw10
  refine WL.mv rfl rfl ?_
  refine WL.pure rfl rfl rfl (PV.extract rfl rfl) ?_
  refine WL.pure rfl rfl rfl (PV.extract rfl rfl) ?_
  refine WL.op rfl (OpK.alloc rfl T.zv36 rfl (fun b16 w11 hXw11 hb16 hge16 => ?_))
  have hl16 := Lo.new hB hge16
  have hd1_16 := Dj.new hb1.ltO hge16
  have hd2_16 := Dj.new ho2.ltO hge16
  have hd3_16 := Dj.new ho3.ltO hge16
  have hd4_16 := Dj.new ho4.ltO hge16
  have hd5_16 := Dj.new ho5.ltO hge16
  have hd6_16 := Dj.new ho6.ltO hge16
  have hd7_16 := Dj.new ho7.ltO hge16
  have hd8_16 := Dj.new hb8.ltO hge16
  have hd9_16 := Dj.new ho9.ltO hge16
  have hd10_16 := Dj.new ho10.ltO hge16
  have hd11_16 := Dj.new ho11.ltO hge16
  have hd12_16 := Dj.new hb12.ltO hge16
  have hd13_16 := Dj.new ho13.ltO hge16
  have hd14_16 := Dj.new ho14.ltO hge16
  have hd15_16 := Dj.new ho15.ltO hge16
  have hB := hB.trans hXw11
  have hb1 := hb1.up hXw11
  have ho2 := ho2.up hXw11
  have ho3 := ho3.up hXw11
  have ho4 := ho4.up hXw11
  have ho5 := ho5.up hXw11
  have ho6 := ho6.up hXw11
  have ho7 := ho7.up hXw11
  have hb8 := hb8.up hXw11
  have ho9 := ho9.up hXw11
  have ho10 := ho10.up hXw11
  have ho11 := ho11.up hXw11
  have hb12 := hb12.up hXw11
  have ho13 := ho13.up hXw11
  have ho14 := ho14.up hXw11
  have ho15 := ho15.up hXw11
  refine WL.op rfl (OpK.storeA T.sz36 rfl rfl rfl rfl (by simp [Value.oneCell'] <;> first | done | (repeat' apply And.intro) <;> first | rfl | exact Inn.one1 (by assumption) (by omega) | exact Osl.oneCell (by assumption) | exact Osn.oneCell (by assumption) | exact Rd.oneCell (by assumption) | exact Rd.oneCell (NL.rd (by assumption)) | assumption) hb16 (fun w12 hXw12 hb16 => ?_))
  have hB := hB.updL hXw12 hl16
  have hb1 := hb1.updD hXw12 hd1_16
  have ho2 := ho2.updD hXw12 hd2_16
  have ho3 := ho3.updD hXw12 hd3_16
  have ho4 := ho4.updD hXw12 hd4_16
  have ho5 := ho5.updD hXw12 hd5_16
  have ho6 := ho6.updD hXw12 hd6_16
  have ho7 := ho7.updD hXw12 hd7_16
  have hb8 := hb8.updD hXw12 hd8_16
  have ho9 := ho9.updD hXw12 hd9_16
  have ho10 := ho10.updD hXw12 hd10_16
  have ho11 := ho11.updD hXw12 hd11_16
  have hb12 := hb12.updD hXw12 hd12_16
  have ho13 := ho13.updD hXw12 hd13_16
  have ho14 := ho14.updD hXw12 hd14_16
  have ho15 := ho15.updD hXw12 hd15_16
  refine WL.asg rfl rfl ?_
  refine WL.nilS ?_
  refine CW.seq ?_
  refine CW.seq ?_
  refine CW.reg ?_
  refine WL.pure rfl rfl rfl (PV.loadA T.ag36 rfl hb16.cells (Ext.refl _) rfl) ?_
  refine WL.pure rfl rfl rfl (PV.loadA T.ag36 rfl hb8.cells (Ext.refl _) rfl) ?_
  refine WL.op rfl (OpK.callR rfl T.cf27 rfl (c_laws_eqTreeMachine (Osl.rd ho13) (Osl.rd ho14) (Osl.rd ho15) (Osl.rd ho5) (Osl.rd ho6) (Osl.rd ho7)) (fun w13 hXw13 => ?_))
  have hB := hB.trans hXw13
  have hb1 := hb1.up hXw13
  have ho2 := ho2.up hXw13
  have ho3 := ho3.up hXw13
  have ho4 := ho4.up hXw13
  have ho5 := ho5.up hXw13
  have ho6 := ho6.up hXw13
  have ho7 := ho7.up hXw13
  have hb8 := hb8.up hXw13
  have ho9 := ho9.up hXw13
  have ho10 := ho10.up hXw13
  have ho11 := ho11.up hXw13
  have hb12 := hb12.up hXw13
  have ho13 := ho13.up hXw13
  have ho14 := ho14.up hXw13
  have ho15 := ho15.up hXw13
  have hb16 := hb16.up hXw13
  refine WL.pure rfl rfl rfl (PV.not rfl) ?_
  refine WL.mv rfl rfl ?_
  refine WL.split (t := 36) rfl (fun hc2 => ?_) (fun hc2 => ?_)
  · skip
    try simp only [nq] at hc2
    refine WL.skip rfl rfl rfl rfl rfl ?_
    refine WL.skip rfl rfl rfl rfl rfl ?_
    refine WL.skip rfl rfl rfl rfl rfl ?_
    refine WL.pure rfl rfl rfl (PV.pickT rfl rfl) ?_
    refine WL.nilS ?_
    refine CW.condT rfl ?_
    refine CW.seq ?_
    refine CW.reg ?_
    refine WL.asg rfl rfl ?_
    refine WL.nilS ?_
    refine CW.ret ?_
    refine RQ.then ?_
    refine RQ.r1 rfl ?_
    refine ⟨?_, hB⟩
    first | rfl | (exfalso; revert hc2; simp; done) | (exfalso; revert hc2; simp; omega) | (exfalso; omega) | first | rfl | exact bT (by omega) | exact bF (by omega) | exact bD (by omega) | exact iE (by omega) | (simp_all; done) | (simp_all; omega) | (simp_all; intros; omega)
  try simp only [nq] at hc2
  refine WL.pureG rfl rfl rfl rfl rfl (PV.move rfl) ?_
  refine WL.pureG rfl rfl rfl rfl rfl (PV.move rfl) ?_
  refine WL.pureG rfl rfl rfl rfl rfl (PV.neqB T.bl4 rfl rfl) ?_
  refine WL.pure rfl rfl rfl (PV.pickF rfl rfl) ?_
  refine WL.nilS ?_
  refine CW.cond rfl (fun hc3 => ?_) (fun hc3 => ?_)
  · skip
    try simp only [nq] at hc3
    refine CW.seq ?_
    refine CW.reg ?_
    refine WL.asg rfl rfl ?_
    refine WL.nilS ?_
    refine CW.ret ?_
    refine RQ.then ?_
    refine RQ.r1 rfl ?_
    refine ⟨?_, hB⟩
    first | rfl | (exfalso; revert hc3; simp; done) | (exfalso; revert hc3; simp; omega) | (exfalso; omega) | first | rfl | exact bT (by omega) | exact bF (by omega) | exact bD (by omega) | exact iE (by omega) | (simp_all; done) | (simp_all; omega) | (simp_all; intros; omega)
  try simp only [nq] at hc3
  refine CW.skipS ?_
  refine CW.seq ?_
  refine CW.seq ?_
  refine CW.draw T.mixed (by kernel_rfl) (fun _ _ _ _ _ h => h) (fun w8 w9 => Upd none w8 w9) 5 (.take 0 (.take 1 (.must 2 (.must 3 (.take 4 .done))))) (by kernel_rfl) (fun w14 hXd => ?_)
  have hB := hB.trans hXd
  have hb1 := hb1.up hXd
  have ho2 := ho2.up hXd
  have ho3 := ho3.up hXd
  have ho4 := ho4.up hXd
  have ho5 := ho5.up hXd
  have ho6 := ho6.up hXd
  have ho7 := ho7.up hXd
  have hb8 := hb8.up hXd
  have ho9 := ho9.up hXd
  have ho10 := ho10.up hXd
  have ho11 := ho11.up hXd
  have hb12 := hb12.up hXd
  have ho13 := ho13.up hXd
  have ho14 := ho14.up hXd
  have ho15 := ho15.up hXd
  have hb16 := hb16.up hXd
  have hBr := hB
  have hS : Upd none w14 w14 := Ext.toUpd (Ext.refl _)
  refine HP.take rfl rfl rfl rfl hS (fun wS hS1 => PV.loadA T.ag36 rfl (Bx.cells (Bx.updD (by assumption) hS1 (Dj.nlR _))) (Ext.refl _) rfl) ?_
  refine HP.take rfl rfl rfl rfl hS (fun wS hS1 => PV.loadA T.ag33 rfl (Bx.cells (Bx.updD (by assumption) hS1 (Dj.nlR _))) (Ext.refl _) rfl) ?_
  refine HP.must rfl rfl (OpK.call rfl T.cf25 rfl (c_laws_toTreeMachine (by first | assumption | exact Rd.up (by assumption) hB | exact Osl.rd (by assumption) | exact Osn.rdR (by assumption) | exact NL.rd (by assumption) | exact rdII (by assumption) (by assumption) | exact Inn.rd (by assumption) (by omega)) (by first | assumption | exact Rd.up (by assumption) hB | exact Osl.rd (by assumption) | exact Osn.rdR (by assumption) | exact NL.rd (by assumption) | exact rdII (by assumption) (by assumption) | exact Inn.rd (by assumption) (by omega)) (by first | assumption | exact Rd.up (by assumption) hB | exact Osl.rd (by assumption) | exact Osn.rdR (by assumption) | exact NL.rd (by assumption) | exact rdII (by assumption) (by assumption) | exact Inn.rd (by assumption) (by omega)) (by first | assumption | omega | (simp only [marks_len, marksB_len, marksR_len]; omega)) (by first | assumption | omega | (simp only [marks_len, marksB_len, marksR_len]; omega)) (by first | assumption | omega | (simp only [marks_len, marksB_len, marksR_len]; omega))) (fun rv5 w15 hR => ?_))
  obtain ⟨hXw15, v17, og17, v18, og18, v19, og19, rfl, ho17, hq17, ho18, hq18, ho19, hq19, hd17_18, hd17_19, hd18_19⟩ := hR
  have hl17 := Lo.up hq17 hB
  have hv17 := Lo.up hq17 hS
  have hd1_17 := Dj.lo hb1.ltO hq17
  have hd2_17 := Dj.lo ho2.ltO hq17
  have hd3_17 := Dj.lo ho3.ltO hq17
  have hd4_17 := Dj.lo ho4.ltO hq17
  have hd5_17 := Dj.lo ho5.ltO hq17
  have hd6_17 := Dj.lo ho6.ltO hq17
  have hd7_17 := Dj.lo ho7.ltO hq17
  have hd8_17 := Dj.lo hb8.ltO hq17
  have hd9_17 := Dj.lo ho9.ltO hq17
  have hd10_17 := Dj.lo ho10.ltO hq17
  have hd11_17 := Dj.lo ho11.ltO hq17
  have hd12_17 := Dj.lo hb12.ltO hq17
  have hd13_17 := Dj.lo ho13.ltO hq17
  have hd14_17 := Dj.lo ho14.ltO hq17
  have hd15_17 := Dj.lo ho15.ltO hq17
  have hd16_17 := Dj.lo hb16.ltO hq17
  have hl18 := Lo.up hq18 hB
  have hv18 := Lo.up hq18 hS
  have hd1_18 := Dj.lo hb1.ltO hq18
  have hd2_18 := Dj.lo ho2.ltO hq18
  have hd3_18 := Dj.lo ho3.ltO hq18
  have hd4_18 := Dj.lo ho4.ltO hq18
  have hd5_18 := Dj.lo ho5.ltO hq18
  have hd6_18 := Dj.lo ho6.ltO hq18
  have hd7_18 := Dj.lo ho7.ltO hq18
  have hd8_18 := Dj.lo hb8.ltO hq18
  have hd9_18 := Dj.lo ho9.ltO hq18
  have hd10_18 := Dj.lo ho10.ltO hq18
  have hd11_18 := Dj.lo ho11.ltO hq18
  have hd12_18 := Dj.lo hb12.ltO hq18
  have hd13_18 := Dj.lo ho13.ltO hq18
  have hd14_18 := Dj.lo ho14.ltO hq18
  have hd15_18 := Dj.lo ho15.ltO hq18
  have hd16_18 := Dj.lo hb16.ltO hq18
  have hl19 := Lo.up hq19 hB
  have hv19 := Lo.up hq19 hS
  have hd1_19 := Dj.lo hb1.ltO hq19
  have hd2_19 := Dj.lo ho2.ltO hq19
  have hd3_19 := Dj.lo ho3.ltO hq19
  have hd4_19 := Dj.lo ho4.ltO hq19
  have hd5_19 := Dj.lo ho5.ltO hq19
  have hd6_19 := Dj.lo ho6.ltO hq19
  have hd7_19 := Dj.lo ho7.ltO hq19
  have hd8_19 := Dj.lo hb8.ltO hq19
  have hd9_19 := Dj.lo ho9.ltO hq19
  have hd10_19 := Dj.lo ho10.ltO hq19
  have hd11_19 := Dj.lo ho11.ltO hq19
  have hd12_19 := Dj.lo hb12.ltO hq19
  have hd13_19 := Dj.lo ho13.ltO hq19
  have hd14_19 := Dj.lo ho14.ltO hq19
  have hd15_19 := Dj.lo ho15.ltO hq19
  have hd16_19 := Dj.lo hb16.ltO hq19
  refine ⟨Upd.trans hS hXw15, ?_⟩
  have hS := Upd.trans hS hXw15
  have hB := hB.trans hXw15
  have hb1 := hb1.up hXw15
  have ho2 := ho2.up hXw15
  have ho3 := ho3.up hXw15
  have ho4 := ho4.up hXw15
  have ho5 := ho5.up hXw15
  have ho6 := ho6.up hXw15
  have ho7 := ho7.up hXw15
  have hb8 := hb8.up hXw15
  have ho9 := ho9.up hXw15
  have ho10 := ho10.up hXw15
  have ho11 := ho11.up hXw15
  have hb12 := hb12.up hXw15
  have ho13 := ho13.up hXw15
  have ho14 := ho14.up hXw15
  have ho15 := ho15.up hXw15
  have hb16 := hb16.up hXw15
  refine HP.must rfl rfl (OpK.callR rfl T.cf27 rfl (c_laws_eqTreeMachine (Osl.rd ho9) (Osl.rd ho10) (Osl.rd ho11) (Osl.rd ho17) (Osl.rd ho18) (Osl.rd ho19)) (fun w16 hXw16 => ?_))
  refine ⟨Upd.trans hS hXw16, ?_⟩
  have hS := Upd.trans hS hXw16
  have hB := hB.trans hXw16
  have hb1 := hb1.up hXw16
  have ho2 := ho2.up hXw16
  have ho3 := ho3.up hXw16
  have ho4 := ho4.up hXw16
  have ho5 := ho5.up hXw16
  have ho6 := ho6.up hXw16
  have ho7 := ho7.up hXw16
  have hb8 := hb8.up hXw16
  have ho9 := ho9.up hXw16
  have ho10 := ho10.up hXw16
  have ho11 := ho11.up hXw16
  have hb12 := hb12.up hXw16
  have ho13 := ho13.up hXw16
  have ho14 := ho14.up hXw16
  have ho15 := ho15.up hXw16
  have hb16 := hb16.up hXw16
  have ho17 := ho17.up hXw16
  have ho18 := ho18.up hXw16
  have ho19 := ho19.up hXw16
  refine HP.take rfl rfl rfl rfl hS (fun wS hS1 => PV.not rfl) ?_
  refine HP.doneS ?_
  refine CW.cond rfl (fun hc4 => ?_) (fun hc4 => ?_)
  · skip
    try simp only [nq] at hc4
    refine CW.seq ?_
    refine CW.reg ?_
    refine WL.asg rfl rfl ?_
    refine WL.nilS ?_
    refine CW.ret ?_
    refine RQ.then ?_
    refine RQ.r1 rfl ?_
    refine ⟨?_, hB⟩
    first | rfl | (exfalso; revert hc4; simp; done) | (exfalso; revert hc4; simp; omega) | (exfalso; omega) | first | rfl | exact bT (by omega) | exact bF (by omega) | exact bD (by omega) | exact iE (by omega) | (simp_all; done) | (simp_all; omega) | (simp_all; intros; omega)
  try simp only [nq] at hc4
  refine CW.skipS ?_
  refine CW.seq ?_
  refine CW.reg ?_
  refine WL.asg rfl rfl ?_
  refine WL.nilS ?_
  refine CW.seq ?_
  refine CW.reg ?_
  refine WL.pure rfl rfl rfl (PV.loadA T.ag36 rfl hb12.cells (Ext.refl _) rfl) ?_
  refine WL.mv rfl rfl ?_
  refine WL.op rfl (OpK.call rfl T.cf34 rfl (c_laws_markTreeMachine (by first | assumption | exact Dj.symm (by assumption)) (by first | assumption | exact Dj.symm (by assumption)) (by first | assumption | exact Dj.symm (by assumption)) (by first | assumption | exact Dj.symm (by assumption)) (by first | assumption | exact Dj.symm (by assumption)) (by first | assumption | exact Dj.symm (by assumption)) (by first | assumption | omega | (simp only [marks_len, marksB_len, marksR_len]; omega))) (fun rv6 w17 hR => ?_))
  obtain ⟨rfl, hUC20, ho9, ho10, ho11⟩ := hR
  have hb1 := hb1.loop hUC20 ⟨hd1_9, hd1_10, hd1_11, trivial⟩
  have ho2 := ho2.loop hUC20 ⟨hd2_9, hd2_10, hd2_11, trivial⟩
  have ho3 := ho3.loop hUC20 ⟨hd3_9, hd3_10, hd3_11, trivial⟩
  have ho4 := ho4.loop hUC20 ⟨hd4_9, hd4_10, hd4_11, trivial⟩
  have ho5 := ho5.loop hUC20 ⟨hd5_9, hd5_10, hd5_11, trivial⟩
  have ho6 := ho6.loop hUC20 ⟨hd6_9, hd6_10, hd6_11, trivial⟩
  have ho7 := ho7.loop hUC20 ⟨hd7_9, hd7_10, hd7_11, trivial⟩
  have hb8 := hb8.loop hUC20 ⟨hd8_9, hd8_10, hd8_11, trivial⟩
  have hb12 := hb12.loop hUC20 ⟨(Dj.symm hd9_12), (Dj.symm hd10_12), (Dj.symm hd11_12), trivial⟩
  have ho13 := ho13.loop hUC20 ⟨(Dj.symm hd9_13), (Dj.symm hd10_13), (Dj.symm hd11_13), trivial⟩
  have ho14 := ho14.loop hUC20 ⟨(Dj.symm hd9_14), (Dj.symm hd10_14), (Dj.symm hd11_14), trivial⟩
  have ho15 := ho15.loop hUC20 ⟨(Dj.symm hd9_15), (Dj.symm hd10_15), (Dj.symm hd11_15), trivial⟩
  have hb16 := hb16.loop hUC20 ⟨(Dj.symm hd9_16), (Dj.symm hd10_16), (Dj.symm hd11_16), trivial⟩
  have ho17 := ho17.loop hUC20 ⟨(Dj.symm hd9_17), (Dj.symm hd10_17), (Dj.symm hd11_17), trivial⟩
  have ho18 := ho18.loop hUC20 ⟨(Dj.symm hd9_18), (Dj.symm hd10_18), (Dj.symm hd11_18), trivial⟩
  have ho19 := ho19.loop hUC20 ⟨(Dj.symm hd9_19), (Dj.symm hd10_19), (Dj.symm hd11_19), trivial⟩
  have hB := hB.loop hUC20 ⟨hl9, hl10, hl11, trivial⟩
  refine WL.asg rfl rfl ?_
  refine WL.nilS ?_
  refine CW.seq ?_
  refine CW.seq ?_
  refine CW.reg ?_
  refine WL.mv rfl rfl ?_
  refine WL.pure rfl rfl rfl (PV.lss rfl rfl) ?_
  refine WL.mv rfl rfl ?_
  refine WL.split (t := 51) rfl (fun hc5 => ?_) (fun hc5 => ?_)
  · skip
    try simp only [nq] at hc5
    refine WL.skip rfl rfl rfl rfl rfl ?_
    refine WL.skip rfl rfl rfl rfl rfl ?_
    refine WL.skip rfl rfl rfl rfl rfl ?_
    refine WL.skip rfl rfl rfl rfl rfl ?_
    refine WL.pure rfl rfl rfl (PV.pickT rfl rfl) ?_
    refine WL.mv rfl rfl ?_
    refine WL.skip rfl rfl rfl rfl rfl ?_
    refine WL.skip rfl rfl rfl rfl rfl ?_
    refine WL.skip rfl rfl rfl rfl rfl ?_
    refine WL.pure rfl rfl rfl (PV.pickT rfl rfl) ?_
    refine WL.nilS ?_
    refine CW.condT rfl ?_
    refine CW.seq ?_
    refine CW.reg ?_
    refine WL.asg rfl rfl ?_
    refine WL.nilS ?_
    refine CW.ret ?_
    refine RQ.then ?_
    refine RQ.r1 rfl ?_
    refine ⟨?_, hB⟩
    first | rfl | (exfalso; revert hc5; simp; done) | (exfalso; revert hc5; simp; omega) | (exfalso; omega) | first | rfl | exact bT (by omega) | exact bF (by omega) | exact bD (by omega) | exact iE (by omega) | (simp_all; done) | (simp_all; omega) | (simp_all; intros; omega)
  try simp only [nq] at hc5
  refine WL.pureG rfl rfl rfl rfl rfl (PV.loadA T.ag36 rfl hb16.cells (Ext.refl _) rfl) ?_
  refine WL.pureG rfl rfl rfl rfl rfl (PV.loadA T.ag36 rfl hb8.cells (Ext.refl _) rfl) ?_
  refine WL.opG rfl rfl rfl (OpK.callR rfl T.cf27 rfl (c_laws_eqTreeMachine (Osl.rd ho13) (Osl.rd ho14) (Osl.rd ho15) (Osl.rd ho5) (Osl.rd ho6) (Osl.rd ho7)) (fun w18 hXw18 => ?_))
  have hB := hB.trans hXw18
  have hb1 := hb1.up hXw18
  have ho2 := ho2.up hXw18
  have ho3 := ho3.up hXw18
  have ho4 := ho4.up hXw18
  have ho5 := ho5.up hXw18
  have ho6 := ho6.up hXw18
  have ho7 := ho7.up hXw18
  have hb8 := hb8.up hXw18
  have ho9 := ho9.up hXw18
  have ho10 := ho10.up hXw18
  have ho11 := ho11.up hXw18
  have hb12 := hb12.up hXw18
  have ho13 := ho13.up hXw18
  have ho14 := ho14.up hXw18
  have ho15 := ho15.up hXw18
  have hb16 := hb16.up hXw18
  have ho17 := ho17.up hXw18
  have ho18 := ho18.up hXw18
  have ho19 := ho19.up hXw18
  refine WL.pureG rfl rfl rfl rfl rfl (PV.not rfl) ?_
  refine WL.pure rfl rfl rfl (PV.pickF rfl rfl) ?_
  refine WL.mv rfl rfl ?_
  refine WL.split (t := 57) rfl (fun hc6 => ?_) (fun hc6 => ?_)
  · skip
    try simp only [nq] at hc6
    refine WL.skip rfl rfl rfl rfl rfl ?_
    refine WL.skip rfl rfl rfl rfl rfl ?_
    refine WL.skip rfl rfl rfl rfl rfl ?_
    refine WL.pure rfl rfl rfl (PV.pickT rfl rfl) ?_
    refine WL.nilS ?_
    refine CW.condT rfl ?_
    refine CW.seq ?_
    refine CW.reg ?_
    refine WL.asg rfl rfl ?_
    refine WL.nilS ?_
    refine CW.ret ?_
    refine RQ.then ?_
    refine RQ.r1 rfl ?_
    refine ⟨?_, hB⟩
    first | rfl | (exfalso; revert hc6; simp; done) | (exfalso; revert hc6; simp; omega) | (exfalso; omega) | first | rfl | exact bT (by omega) | exact bF (by omega) | exact bD (by omega) | exact iE (by omega) | (simp_all; done) | (simp_all; omega) | (simp_all; intros; omega)
  try simp only [nq] at hc6
  refine WL.pureG rfl rfl rfl rfl rfl (PV.move rfl) ?_
  refine WL.pureG rfl rfl rfl rfl rfl (PV.move rfl) ?_
  refine WL.pureG rfl rfl rfl rfl rfl (PV.neqB T.bl4 rfl rfl) ?_
  refine WL.pure rfl rfl rfl (PV.pickF rfl rfl) ?_
  refine WL.nilS ?_
  refine CW.cond rfl (fun hc7 => ?_) (fun hc7 => ?_)
  · skip
    try simp only [nq] at hc7
    refine CW.seq ?_
    refine CW.reg ?_
    refine WL.asg rfl rfl ?_
    refine WL.nilS ?_
    refine CW.ret ?_
    refine RQ.then ?_
    refine RQ.r1 rfl ?_
    refine ⟨?_, hB⟩
    first | rfl | (exfalso; revert hc7; simp; done) | (exfalso; revert hc7; simp; omega) | (exfalso; omega) | first | rfl | exact bT (by omega) | exact bF (by omega) | exact bD (by omega) | exact iE (by omega) | (simp_all; done) | (simp_all; omega) | (simp_all; intros; omega)
  try simp only [nq] at hc7
  refine CW.skipS ?_
  refine CW.seq ?_
  refine CW.reg ?_
  refine WL.asg rfl rfl ?_
  refine WL.nilS ?_
  refine CW.seq ?_
  refine CW.reg ?_
  refine WL.pure rfl rfl rfl (PV.loadA T.ag36 rfl hb16.cells (Ext.refl _) rfl) ?_
  refine WL.mv rfl rfl ?_
  refine WL.op rfl (OpK.call rfl T.cf34 rfl (c_laws_markTreeMachine (by first | assumption | exact Dj.symm (by assumption)) (by first | assumption | exact Dj.symm (by assumption)) (by first | assumption | exact Dj.symm (by assumption)) (by first | assumption | exact Dj.symm (by assumption)) (by first | assumption | exact Dj.symm (by assumption)) (by first | assumption | exact Dj.symm (by assumption)) (by first | assumption | omega | (simp only [marks_len, marksB_len, marksR_len]; omega))) (fun rv7 w19 hR => ?_))
  obtain ⟨rfl, hUC21, ho13, ho14, ho15⟩ := hR
  have hb1 := hb1.loop hUC21 ⟨hd1_13, hd1_14, hd1_15, trivial⟩
  have ho2 := ho2.loop hUC21 ⟨hd2_13, hd2_14, hd2_15, trivial⟩
  have ho3 := ho3.loop hUC21 ⟨hd3_13, hd3_14, hd3_15, trivial⟩
  have ho4 := ho4.loop hUC21 ⟨hd4_13, hd4_14, hd4_15, trivial⟩
  have ho5 := ho5.loop hUC21 ⟨hd5_13, hd5_14, hd5_15, trivial⟩
  have ho6 := ho6.loop hUC21 ⟨hd6_13, hd6_14, hd6_15, trivial⟩
  have ho7 := ho7.loop hUC21 ⟨hd7_13, hd7_14, hd7_15, trivial⟩
  have hb8 := hb8.loop hUC21 ⟨hd8_13, hd8_14, hd8_15, trivial⟩
  have ho9 := ho9.loop hUC21 ⟨hd9_13, hd9_14, hd9_15, trivial⟩
  have ho10 := ho10.loop hUC21 ⟨hd10_13, hd10_14, hd10_15, trivial⟩
  have ho11 := ho11.loop hUC21 ⟨hd11_13, hd11_14, hd11_15, trivial⟩
  have hb12 := hb12.loop hUC21 ⟨hd12_13, hd12_14, hd12_15, trivial⟩
  have hb16 := hb16.loop hUC21 ⟨(Dj.symm hd13_16), (Dj.symm hd14_16), (Dj.symm hd15_16), trivial⟩
  have ho17 := ho17.loop hUC21 ⟨(Dj.symm hd13_17), (Dj.symm hd14_17), (Dj.symm hd15_17), trivial⟩
  have ho18 := ho18.loop hUC21 ⟨(Dj.symm hd13_18), (Dj.symm hd14_18), (Dj.symm hd15_18), trivial⟩
  have ho19 := ho19.loop hUC21 ⟨(Dj.symm hd13_19), (Dj.symm hd14_19), (Dj.symm hd15_19), trivial⟩
  have hB := hB.loop hUC21 ⟨hl13, hl14, hl15, trivial⟩
  refine WL.asg rfl rfl ?_
  refine WL.nilS ?_
  refine CW.seq ?_
  refine CW.reg ?_
  refine WL.asg rfl rfl ?_
  refine WL.nilS ?_
  refine CW.seq ?_
  refine CW.reg ?_
  refine WL.pure rfl rfl rfl (PV.loadA T.ag36 rfl hb16.cells (Ext.refl _) rfl) ?_
  refine WL.mv rfl rfl ?_
  refine WL.op rfl (OpK.callR rfl T.cf37 rfl (c_laws_heldTreeMachine (Osl.rd ho13) (Osl.rd ho14) (Osl.rd ho15) (by first | assumption | omega | (simp only [marks_len, marksB_len, marksR_len]; omega))) (fun w20 hXw20 => ?_))
  have hB := hB.trans hXw20
  have hb1 := hb1.up hXw20
  have ho2 := ho2.up hXw20
  have ho3 := ho3.up hXw20
  have ho4 := ho4.up hXw20
  have ho5 := ho5.up hXw20
  have ho6 := ho6.up hXw20
  have ho7 := ho7.up hXw20
  have hb8 := hb8.up hXw20
  have ho9 := ho9.up hXw20
  have ho10 := ho10.up hXw20
  have ho11 := ho11.up hXw20
  have hb12 := hb12.up hXw20
  have ho13 := ho13.up hXw20
  have ho14 := ho14.up hXw20
  have ho15 := ho15.up hXw20
  have hb16 := hb16.up hXw20
  have ho17 := ho17.up hXw20
  have ho18 := ho18.up hXw20
  have ho19 := ho19.up hXw20
  refine WL.asg rfl rfl ?_
  refine WL.nilS ?_
  refine CW.seq ?_
  refine CW.seq ?_
  refine CW.reg ?_
  refine WL.mv rfl rfl ?_
  refine WL.pure rfl rfl rfl (PV.lss rfl rfl) ?_
  refine WL.nilS ?_
  refine CW.cond rfl (fun hc8 => ?_) (fun hc8 => ?_)
  · skip
    try simp only [nq] at hc8
    refine CW.seq ?_
    refine CW.reg ?_
    refine WL.asg rfl rfl ?_
    refine WL.nilS ?_
    refine CW.ret ?_
    refine RQ.then ?_
    refine RQ.r1 rfl ?_
    refine ⟨?_, hB⟩
    first | rfl | (exfalso; revert hc8; simp; done) | (exfalso; revert hc8; simp; omega) | (exfalso; omega) | first | rfl | exact bT (by omega) | exact bF (by omega) | exact bD (by omega) | exact iE (by omega) | (simp_all; done) | (simp_all; omega) | (simp_all; intros; omega)
  try simp only [nq] at hc8
  refine CW.skipS ?_
  refine CW.seq ?_
  refine CW.seq ?_
  refine CW.reg ?_
  refine WL.mv rfl rfl ?_
  refine WL.mv rfl rfl ?_
  refine WL.pure rfl rfl rfl (PV.neq rfl rfl) ?_
  refine WL.nilS ?_
  refine CW.cond rfl (fun hc9 => ?_) (fun hc9 => ?_)
  · skip
    try simp only [nq] at hc9
    refine CW.seq ?_
    refine CW.reg ?_
    refine WL.asg rfl rfl ?_
    refine WL.nilS ?_
    refine CW.ret ?_
    refine RQ.then ?_
    refine RQ.r1 rfl ?_
    refine ⟨?_, hB⟩
    first | rfl | (exfalso; revert hc9; simp; done) | (exfalso; revert hc9; simp; omega) | (exfalso; omega) | first | rfl | exact bT (by omega) | exact bF (by omega) | exact bD (by omega) | exact iE (by omega) | (simp_all; done) | (simp_all; omega) | (simp_all; intros; omega)
  try simp only [nq] at hc9
  refine CW.skipS ?_
  refine CW.seq ?_
  refine CW.reg ?_
  refine WL.pure rfl rfl rfl (PV.loadA T.ag33 rfl hb1.cells (Ext.refl _) rfl) ?_
  refine WL.op rfl (OpK.call rfl T.cf25 rfl (c_laws_toTreeMachine (by first | assumption | exact Rd.up (by assumption) hB | exact Osl.rd (by assumption) | exact Osn.rdR (by assumption) | exact NL.rd (by assumption) | exact rdII (by assumption) (by assumption) | exact Inn.rd (by assumption) (by omega)) (by first | assumption | exact Rd.up (by assumption) hB | exact Osl.rd (by assumption) | exact Osn.rdR (by assumption) | exact NL.rd (by assumption) | exact rdII (by assumption) (by assumption) | exact Inn.rd (by assumption) (by omega)) (by first | assumption | exact Rd.up (by assumption) hB | exact Osl.rd (by assumption) | exact Osn.rdR (by assumption) | exact NL.rd (by assumption) | exact rdII (by assumption) (by assumption) | exact Inn.rd (by assumption) (by omega)) (by first | assumption | omega | (simp only [marks_len, marksB_len, marksR_len]; omega)) (by first | assumption | omega | (simp only [marks_len, marksB_len, marksR_len]; omega)) (by first | assumption | omega | (simp only [marks_len, marksB_len, marksR_len]; omega))) (fun rv8 w21 hR => ?_))
  obtain ⟨hXw21, v22, og22, v23, og23, v24, og24, rfl, ho22, hq22, ho23, hq23, ho24, hq24, hd22_23, hd22_24, hd23_24⟩ := hR
  have hl22 := Lo.up hq22 hB
  have hd1_22 := Dj.lo hb1.ltO hq22
  have hd2_22 := Dj.lo ho2.ltO hq22
  have hd3_22 := Dj.lo ho3.ltO hq22
  have hd4_22 := Dj.lo ho4.ltO hq22
  have hd5_22 := Dj.lo ho5.ltO hq22
  have hd6_22 := Dj.lo ho6.ltO hq22
  have hd7_22 := Dj.lo ho7.ltO hq22
  have hd8_22 := Dj.lo hb8.ltO hq22
  have hd9_22 := Dj.lo ho9.ltO hq22
  have hd10_22 := Dj.lo ho10.ltO hq22
  have hd11_22 := Dj.lo ho11.ltO hq22
  have hd12_22 := Dj.lo hb12.ltO hq22
  have hd13_22 := Dj.lo ho13.ltO hq22
  have hd14_22 := Dj.lo ho14.ltO hq22
  have hd15_22 := Dj.lo ho15.ltO hq22
  have hd16_22 := Dj.lo hb16.ltO hq22
  have hd17_22 := Dj.lo ho17.ltO hq22
  have hd18_22 := Dj.lo ho18.ltO hq22
  have hd19_22 := Dj.lo ho19.ltO hq22
  have hl23 := Lo.up hq23 hB
  have hd1_23 := Dj.lo hb1.ltO hq23
  have hd2_23 := Dj.lo ho2.ltO hq23
  have hd3_23 := Dj.lo ho3.ltO hq23
  have hd4_23 := Dj.lo ho4.ltO hq23
  have hd5_23 := Dj.lo ho5.ltO hq23
  have hd6_23 := Dj.lo ho6.ltO hq23
  have hd7_23 := Dj.lo ho7.ltO hq23
  have hd8_23 := Dj.lo hb8.ltO hq23
  have hd9_23 := Dj.lo ho9.ltO hq23
  have hd10_23 := Dj.lo ho10.ltO hq23
  have hd11_23 := Dj.lo ho11.ltO hq23
  have hd12_23 := Dj.lo hb12.ltO hq23
  have hd13_23 := Dj.lo ho13.ltO hq23
  have hd14_23 := Dj.lo ho14.ltO hq23
  have hd15_23 := Dj.lo ho15.ltO hq23
  have hd16_23 := Dj.lo hb16.ltO hq23
  have hd17_23 := Dj.lo ho17.ltO hq23
  have hd18_23 := Dj.lo ho18.ltO hq23
  have hd19_23 := Dj.lo ho19.ltO hq23
  have hl24 := Lo.up hq24 hB
  have hd1_24 := Dj.lo hb1.ltO hq24
  have hd2_24 := Dj.lo ho2.ltO hq24
  have hd3_24 := Dj.lo ho3.ltO hq24
  have hd4_24 := Dj.lo ho4.ltO hq24
  have hd5_24 := Dj.lo ho5.ltO hq24
  have hd6_24 := Dj.lo ho6.ltO hq24
  have hd7_24 := Dj.lo ho7.ltO hq24
  have hd8_24 := Dj.lo hb8.ltO hq24
  have hd9_24 := Dj.lo ho9.ltO hq24
  have hd10_24 := Dj.lo ho10.ltO hq24
  have hd11_24 := Dj.lo ho11.ltO hq24
  have hd12_24 := Dj.lo hb12.ltO hq24
  have hd13_24 := Dj.lo ho13.ltO hq24
  have hd14_24 := Dj.lo ho14.ltO hq24
  have hd15_24 := Dj.lo ho15.ltO hq24
  have hd16_24 := Dj.lo hb16.ltO hq24
  have hd17_24 := Dj.lo ho17.ltO hq24
  have hd18_24 := Dj.lo ho18.ltO hq24
  have hd19_24 := Dj.lo ho19.ltO hq24
  have hB := hB.trans hXw21
  have hb1 := hb1.up hXw21
  have ho2 := ho2.up hXw21
  have ho3 := ho3.up hXw21
  have ho4 := ho4.up hXw21
  have ho5 := ho5.up hXw21
  have ho6 := ho6.up hXw21
  have ho7 := ho7.up hXw21
  have hb8 := hb8.up hXw21
  have ho9 := ho9.up hXw21
  have ho10 := ho10.up hXw21
  have ho11 := ho11.up hXw21
  have hb12 := hb12.up hXw21
  have ho13 := ho13.up hXw21
  have ho14 := ho14.up hXw21
  have ho15 := ho15.up hXw21
  have hb16 := hb16.up hXw21
  have ho17 := ho17.up hXw21
  have ho18 := ho18.up hXw21
  have ho19 := ho19.up hXw21
  refine WL.op rfl (OpK.call rfl T.cf36 rfl (c_impl_LeastTrees (Osl.rd ho22) (Osl.rd ho23) (Osl.rd ho24)) (fun rv9 w22 hR => ?_))
  obtain ⟨hXw22, v25, og25, v26, og26, v27, og27, rfl, ho25, hq25, ho26, hq26, ho27, hq27, hd25_26, hd25_27, hd26_27⟩ := hR
  have hl25 := Lo.up hq25 hB
  have hd1_25 := Dj.lo hb1.ltO hq25
  have hd2_25 := Dj.lo ho2.ltO hq25
  have hd3_25 := Dj.lo ho3.ltO hq25
  have hd4_25 := Dj.lo ho4.ltO hq25
  have hd5_25 := Dj.lo ho5.ltO hq25
  have hd6_25 := Dj.lo ho6.ltO hq25
  have hd7_25 := Dj.lo ho7.ltO hq25
  have hd8_25 := Dj.lo hb8.ltO hq25
  have hd9_25 := Dj.lo ho9.ltO hq25
  have hd10_25 := Dj.lo ho10.ltO hq25
  have hd11_25 := Dj.lo ho11.ltO hq25
  have hd12_25 := Dj.lo hb12.ltO hq25
  have hd13_25 := Dj.lo ho13.ltO hq25
  have hd14_25 := Dj.lo ho14.ltO hq25
  have hd15_25 := Dj.lo ho15.ltO hq25
  have hd16_25 := Dj.lo hb16.ltO hq25
  have hd17_25 := Dj.lo ho17.ltO hq25
  have hd18_25 := Dj.lo ho18.ltO hq25
  have hd19_25 := Dj.lo ho19.ltO hq25
  have hd22_25 := Dj.lo ho22.ltO hq25
  have hd23_25 := Dj.lo ho23.ltO hq25
  have hd24_25 := Dj.lo ho24.ltO hq25
  have hl26 := Lo.up hq26 hB
  have hd1_26 := Dj.lo hb1.ltO hq26
  have hd2_26 := Dj.lo ho2.ltO hq26
  have hd3_26 := Dj.lo ho3.ltO hq26
  have hd4_26 := Dj.lo ho4.ltO hq26
  have hd5_26 := Dj.lo ho5.ltO hq26
  have hd6_26 := Dj.lo ho6.ltO hq26
  have hd7_26 := Dj.lo ho7.ltO hq26
  have hd8_26 := Dj.lo hb8.ltO hq26
  have hd9_26 := Dj.lo ho9.ltO hq26
  have hd10_26 := Dj.lo ho10.ltO hq26
  have hd11_26 := Dj.lo ho11.ltO hq26
  have hd12_26 := Dj.lo hb12.ltO hq26
  have hd13_26 := Dj.lo ho13.ltO hq26
  have hd14_26 := Dj.lo ho14.ltO hq26
  have hd15_26 := Dj.lo ho15.ltO hq26
  have hd16_26 := Dj.lo hb16.ltO hq26
  have hd17_26 := Dj.lo ho17.ltO hq26
  have hd18_26 := Dj.lo ho18.ltO hq26
  have hd19_26 := Dj.lo ho19.ltO hq26
  have hd22_26 := Dj.lo ho22.ltO hq26
  have hd23_26 := Dj.lo ho23.ltO hq26
  have hd24_26 := Dj.lo ho24.ltO hq26
  have hl27 := Lo.up hq27 hB
  have hd1_27 := Dj.lo hb1.ltO hq27
  have hd2_27 := Dj.lo ho2.ltO hq27
  have hd3_27 := Dj.lo ho3.ltO hq27
  have hd4_27 := Dj.lo ho4.ltO hq27
  have hd5_27 := Dj.lo ho5.ltO hq27
  have hd6_27 := Dj.lo ho6.ltO hq27
  have hd7_27 := Dj.lo ho7.ltO hq27
  have hd8_27 := Dj.lo hb8.ltO hq27
  have hd9_27 := Dj.lo ho9.ltO hq27
  have hd10_27 := Dj.lo ho10.ltO hq27
  have hd11_27 := Dj.lo ho11.ltO hq27
  have hd12_27 := Dj.lo hb12.ltO hq27
  have hd13_27 := Dj.lo ho13.ltO hq27
  have hd14_27 := Dj.lo ho14.ltO hq27
  have hd15_27 := Dj.lo ho15.ltO hq27
  have hd16_27 := Dj.lo hb16.ltO hq27
  have hd17_27 := Dj.lo ho17.ltO hq27
  have hd18_27 := Dj.lo ho18.ltO hq27
  have hd19_27 := Dj.lo ho19.ltO hq27
  have hd22_27 := Dj.lo ho22.ltO hq27
  have hd23_27 := Dj.lo ho23.ltO hq27
  have hd24_27 := Dj.lo ho24.ltO hq27
  have hB := hB.trans hXw22
  have hb1 := hb1.up hXw22
  have ho2 := ho2.up hXw22
  have ho3 := ho3.up hXw22
  have ho4 := ho4.up hXw22
  have ho5 := ho5.up hXw22
  have ho6 := ho6.up hXw22
  have ho7 := ho7.up hXw22
  have hb8 := hb8.up hXw22
  have ho9 := ho9.up hXw22
  have ho10 := ho10.up hXw22
  have ho11 := ho11.up hXw22
  have hb12 := hb12.up hXw22
  have ho13 := ho13.up hXw22
  have ho14 := ho14.up hXw22
  have ho15 := ho15.up hXw22
  have hb16 := hb16.up hXw22
  have ho17 := ho17.up hXw22
  have ho18 := ho18.up hXw22
  have ho19 := ho19.up hXw22
  have ho22 := ho22.up hXw22
  have ho23 := ho23.up hXw22
  have ho24 := ho24.up hXw22
  refine WL.mv rfl rfl ?_
  refine WL.pure rfl rfl rfl (PV.extract rfl rfl) ?_
  refine WL.pure rfl rfl rfl (PV.extract rfl rfl) ?_
  refine WL.op rfl (OpK.alloc rfl T.zv36 rfl (fun b28 w23 hXw23 hb28 hge28 => ?_))
  have hl28 := Lo.new hB hge28
  have hd1_28 := Dj.new hb1.ltO hge28
  have hd2_28 := Dj.new ho2.ltO hge28
  have hd3_28 := Dj.new ho3.ltO hge28
  have hd4_28 := Dj.new ho4.ltO hge28
  have hd5_28 := Dj.new ho5.ltO hge28
  have hd6_28 := Dj.new ho6.ltO hge28
  have hd7_28 := Dj.new ho7.ltO hge28
  have hd8_28 := Dj.new hb8.ltO hge28
  have hd9_28 := Dj.new ho9.ltO hge28
  have hd10_28 := Dj.new ho10.ltO hge28
  have hd11_28 := Dj.new ho11.ltO hge28
  have hd12_28 := Dj.new hb12.ltO hge28
  have hd13_28 := Dj.new ho13.ltO hge28
  have hd14_28 := Dj.new ho14.ltO hge28
  have hd15_28 := Dj.new ho15.ltO hge28
  have hd16_28 := Dj.new hb16.ltO hge28
  have hd17_28 := Dj.new ho17.ltO hge28
  have hd18_28 := Dj.new ho18.ltO hge28
  have hd19_28 := Dj.new ho19.ltO hge28
  have hd22_28 := Dj.new ho22.ltO hge28
  have hd23_28 := Dj.new ho23.ltO hge28
  have hd24_28 := Dj.new ho24.ltO hge28
  have hd25_28 := Dj.new ho25.ltO hge28
  have hd26_28 := Dj.new ho26.ltO hge28
  have hd27_28 := Dj.new ho27.ltO hge28
  have hB := hB.trans hXw23
  have hb1 := hb1.up hXw23
  have ho2 := ho2.up hXw23
  have ho3 := ho3.up hXw23
  have ho4 := ho4.up hXw23
  have ho5 := ho5.up hXw23
  have ho6 := ho6.up hXw23
  have ho7 := ho7.up hXw23
  have hb8 := hb8.up hXw23
  have ho9 := ho9.up hXw23
  have ho10 := ho10.up hXw23
  have ho11 := ho11.up hXw23
  have hb12 := hb12.up hXw23
  have ho13 := ho13.up hXw23
  have ho14 := ho14.up hXw23
  have ho15 := ho15.up hXw23
  have hb16 := hb16.up hXw23
  have ho17 := ho17.up hXw23
  have ho18 := ho18.up hXw23
  have ho19 := ho19.up hXw23
  have ho22 := ho22.up hXw23
  have ho23 := ho23.up hXw23
  have ho24 := ho24.up hXw23
  have ho25 := ho25.up hXw23
  have ho26 := ho26.up hXw23
  have ho27 := ho27.up hXw23
  refine WL.op rfl (OpK.storeA T.sz36 rfl rfl rfl rfl (by simp [Value.oneCell'] <;> first | done | (repeat' apply And.intro) <;> first | rfl | exact Inn.one1 (by assumption) (by omega) | exact Osl.oneCell (by assumption) | exact Osn.oneCell (by assumption) | exact Rd.oneCell (by assumption) | exact Rd.oneCell (NL.rd (by assumption)) | assumption) hb28 (fun w24 hXw24 hb28 => ?_))
  have hB := hB.updL hXw24 hl28
  have hb1 := hb1.updD hXw24 hd1_28
  have ho2 := ho2.updD hXw24 hd2_28
  have ho3 := ho3.updD hXw24 hd3_28
  have ho4 := ho4.updD hXw24 hd4_28
  have ho5 := ho5.updD hXw24 hd5_28
  have ho6 := ho6.updD hXw24 hd6_28
  have ho7 := ho7.updD hXw24 hd7_28
  have hb8 := hb8.updD hXw24 hd8_28
  have ho9 := ho9.updD hXw24 hd9_28
  have ho10 := ho10.updD hXw24 hd10_28
  have ho11 := ho11.updD hXw24 hd11_28
  have hb12 := hb12.updD hXw24 hd12_28
  have ho13 := ho13.updD hXw24 hd13_28
  have ho14 := ho14.updD hXw24 hd14_28
  have ho15 := ho15.updD hXw24 hd15_28
  have hb16 := hb16.updD hXw24 hd16_28
  have ho17 := ho17.updD hXw24 hd17_28
  have ho18 := ho18.updD hXw24 hd18_28
  have ho19 := ho19.updD hXw24 hd19_28
  have ho22 := ho22.updD hXw24 hd22_28
  have ho23 := ho23.updD hXw24 hd23_28
  have ho24 := ho24.updD hXw24 hd24_28
  have ho25 := ho25.updD hXw24 hd25_28
  have ho26 := ho26.updD hXw24 hd26_28
  have ho27 := ho27.updD hXw24 hd27_28
  refine WL.asg rfl rfl ?_
  refine WL.nilS ?_
  refine CW.seq ?_
  refine CW.seq ?_
  refine CW.reg ?_
  refine WL.pure rfl rfl rfl (PV.loadA T.ag36 rfl hb28.cells (Ext.refl _) rfl) ?_
  refine WL.pure rfl rfl rfl (PV.loadA T.ag36 rfl hb8.cells (Ext.refl _) rfl) ?_
  refine WL.op rfl (OpK.callR rfl T.cf27 rfl (c_laws_eqTreeMachine (Osl.rd ho25) (Osl.rd ho26) (Osl.rd ho27) (Osl.rd ho5) (Osl.rd ho6) (Osl.rd ho7)) (fun w25 hXw25 => ?_))
  have hB := hB.trans hXw25
  have hb1 := hb1.up hXw25
  have ho2 := ho2.up hXw25
  have ho3 := ho3.up hXw25
  have ho4 := ho4.up hXw25
  have ho5 := ho5.up hXw25
  have ho6 := ho6.up hXw25
  have ho7 := ho7.up hXw25
  have hb8 := hb8.up hXw25
  have ho9 := ho9.up hXw25
  have ho10 := ho10.up hXw25
  have ho11 := ho11.up hXw25
  have hb12 := hb12.up hXw25
  have ho13 := ho13.up hXw25
  have ho14 := ho14.up hXw25
  have ho15 := ho15.up hXw25
  have hb16 := hb16.up hXw25
  have ho17 := ho17.up hXw25
  have ho18 := ho18.up hXw25
  have ho19 := ho19.up hXw25
  have ho22 := ho22.up hXw25
  have ho23 := ho23.up hXw25
  have ho24 := ho24.up hXw25
  have ho25 := ho25.up hXw25
  have ho26 := ho26.up hXw25
  have ho27 := ho27.up hXw25
  have hb28 := hb28.up hXw25
  refine WL.pure rfl rfl rfl (PV.not rfl) ?_
  refine WL.mv rfl rfl ?_
  refine WL.split (t := 83) rfl (fun hc10 => ?_) (fun hc10 => ?_)
  · skip
    try simp only [nq] at hc10
    refine WL.skip rfl rfl rfl rfl rfl ?_
    refine WL.skip rfl rfl rfl rfl rfl ?_
    refine WL.skip rfl rfl rfl rfl rfl ?_
    refine WL.pure rfl rfl rfl (PV.pickT rfl rfl) ?_
    refine WL.nilS ?_
    refine CW.condT rfl ?_
    refine CW.seq ?_
    refine CW.reg ?_
    refine WL.asg rfl rfl ?_
    refine WL.nilS ?_
    refine CW.ret ?_
    refine RQ.then ?_
    refine RQ.r1 rfl ?_
    refine ⟨?_, hB⟩
    first | rfl | (exfalso; revert hc10; simp; done) | (exfalso; revert hc10; simp; omega) | (exfalso; omega) | first | rfl | exact bT (by omega) | exact bF (by omega) | exact bD (by omega) | exact iE (by omega) | (simp_all; done) | (simp_all; omega) | (simp_all; intros; omega)
  try simp only [nq] at hc10
  refine WL.pureG rfl rfl rfl rfl rfl (PV.move rfl) ?_
  refine WL.pureG rfl rfl rfl rfl rfl (PV.move rfl) ?_
  refine WL.pureG rfl rfl rfl rfl rfl (PV.neqB T.bl4 rfl rfl) ?_
  refine WL.pure rfl rfl rfl (PV.pickF rfl rfl) ?_
  refine WL.nilS ?_
  refine CW.cond rfl (fun hc11 => ?_) (fun hc11 => ?_)
  · skip
    try simp only [nq] at hc11
    refine CW.seq ?_
    refine CW.reg ?_
    refine WL.asg rfl rfl ?_
    refine WL.nilS ?_
    refine CW.ret ?_
    refine RQ.then ?_
    refine RQ.r1 rfl ?_
    refine ⟨?_, hB⟩
    first | rfl | (exfalso; revert hc11; simp; done) | (exfalso; revert hc11; simp; omega) | (exfalso; omega) | first | rfl | exact bT (by omega) | exact bF (by omega) | exact bD (by omega) | exact iE (by omega) | (simp_all; done) | (simp_all; omega) | (simp_all; intros; omega)
  try simp only [nq] at hc11
  refine CW.skipS ?_
  refine CW.seq ?_
  refine CW.reg ?_
  refine WL.asg rfl rfl ?_
  refine WL.nilS ?_
  refine CW.seq ?_
  refine CW.reg ?_
  refine WL.pure rfl rfl rfl (PV.loadA T.ag36 rfl hb16.cells (Ext.refl _) rfl) ?_
  refine WL.mv rfl rfl ?_
  refine WL.op rfl (OpK.callR rfl T.cf37 rfl (c_laws_heldTreeMachine (Osl.rd ho13) (Osl.rd ho14) (Osl.rd ho15) (by first | assumption | omega | (simp only [marks_len, marksB_len, marksR_len]; omega))) (fun w26 hXw26 => ?_))
  have hB := hB.trans hXw26
  have hb1 := hb1.up hXw26
  have ho2 := ho2.up hXw26
  have ho3 := ho3.up hXw26
  have ho4 := ho4.up hXw26
  have ho5 := ho5.up hXw26
  have ho6 := ho6.up hXw26
  have ho7 := ho7.up hXw26
  have hb8 := hb8.up hXw26
  have ho9 := ho9.up hXw26
  have ho10 := ho10.up hXw26
  have ho11 := ho11.up hXw26
  have hb12 := hb12.up hXw26
  have ho13 := ho13.up hXw26
  have ho14 := ho14.up hXw26
  have ho15 := ho15.up hXw26
  have hb16 := hb16.up hXw26
  have ho17 := ho17.up hXw26
  have ho18 := ho18.up hXw26
  have ho19 := ho19.up hXw26
  have ho22 := ho22.up hXw26
  have ho23 := ho23.up hXw26
  have ho24 := ho24.up hXw26
  have ho25 := ho25.up hXw26
  have ho26 := ho26.up hXw26
  have ho27 := ho27.up hXw26
  have hb28 := hb28.up hXw26
  refine WL.asg rfl rfl ?_
  refine WL.nilS ?_
  refine CW.seq ?_
  refine CW.seq ?_
  refine CW.reg ?_
  refine WL.mv rfl rfl ?_
  refine WL.pure rfl rfl rfl (PV.lss rfl rfl) ?_
  refine WL.nilS ?_
  refine CW.cond rfl (fun hc12 => ?_) (fun hc12 => ?_)
  · skip
    try simp only [nq] at hc12
    refine CW.seq ?_
    refine CW.reg ?_
    refine WL.asg rfl rfl ?_
    refine WL.nilS ?_
    refine CW.ret ?_
    refine RQ.then ?_
    refine RQ.r1 rfl ?_
    refine ⟨?_, hB⟩
    first | rfl | (exfalso; revert hc12; simp; done) | (exfalso; revert hc12; simp; omega) | (exfalso; omega) | first | rfl | exact bT (by omega) | exact bF (by omega) | exact bD (by omega) | exact iE (by omega) | (simp_all; done) | (simp_all; omega) | (simp_all; intros; omega)
  try simp only [nq] at hc12
  refine CW.skipS ?_
  refine CW.seq ?_
  refine CW.seq ?_
  refine CW.reg ?_
  refine WL.mv rfl rfl ?_
  refine WL.mv rfl rfl ?_
  refine WL.pure rfl rfl rfl (PV.neq rfl rfl) ?_
  refine WL.nilS ?_
  refine CW.cond rfl (fun hc13 => ?_) (fun hc13 => ?_)
  · skip
    try simp only [nq] at hc13
    refine CW.seq ?_
    refine CW.reg ?_
    refine WL.asg rfl rfl ?_
    refine WL.nilS ?_
    refine CW.ret ?_
    refine RQ.then ?_
    refine RQ.r1 rfl ?_
    refine ⟨?_, hB⟩
    first | rfl | (exfalso; revert hc13; simp; done) | (exfalso; revert hc13; simp; omega) | (exfalso; omega) | first | rfl | exact bT (by omega) | exact bF (by omega) | exact bD (by omega) | exact iE (by omega) | (simp_all; done) | (simp_all; omega) | (simp_all; intros; omega)
  try simp only [nq] at hc13
  refine CW.skipS ?_
  refine CW.seq ?_
  refine CW.reg ?_
  refine WL.asg rfl rfl ?_
  refine WL.nilS ?_
  refine CW.ret ?_
  refine RQ.r1 rfl ?_
  refine ⟨?_, hB⟩
  first | rfl | (exfalso; revert hc13; simp; done) | (exfalso; revert hc13; simp; omega) | (exfalso; omega) | first | rfl | exact bT (by omega) | exact bF (by omega) | exact bD (by omega) | exact iE (by omega) | (simp_all; done) | (simp_all; omega) | (simp_all; intros; omega)

end Go.Proofs.Ytfnmkcncofjjkaa
