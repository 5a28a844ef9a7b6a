/- Walks of the functions that the law FnExactChangesShared reaches: each says what its function computes. No condition. -/
import Derived.Test.YthjeebjgdeldkaaProg
import Derived.Test.YthjeebjgdeldkaaLibM
import Derived.Test.YthjeebjgdeldkaaPlA
import Derived.Test.YthjeebjgdeldkaaLibT
import Derived.Test.YthjeebjgdeldkaaLibV
import Derived.Test.YthjeebjgdeldkaaPlK
import Derived.Test.YthjeebjgdeldkaaPlQ
import Derived.Test.YthjeebjgdeldkaaPlL
import Derived.Test.YthjeebjgdeldkaaPlG
import Derived.Test.YthjeebjgdeldkaaWFnExactChangesSharedb
namespace Go.Proofs.Ythjeebjgdeldkaa
open Go Go.WX Go.Proofs
set_option linter.unusedSimpArgs false
set_option linter.unusedVariables false

theorem c_laws_FnExactChangesShared {w : World} {va : Value} {cs : List C4} {vb : Value} {wss : List (List Int)} {L wk : Int} (ha : Rd ECh w va cs) (hb : Rd (ESl EI) w vb wss) : Calls Try.prog 11 #[va, vb, .int .i64 L, .int .i64 wk] w (Ret1 (RQt (.bool true) w)) := by
  have hB : Ext w w := Ext.refl w
  have hla := ha.leI; have hsn := sumC_nn cs; have hlb9 := hb.leI; have hsb := sumL_nn wss; have hel := sh_sum cs wss L wk; have hel2 := sumL_nn (onT (shB cs wss L wk) (wss.map fun w => rL (runR cs w L)))
  refine callsOf (vs := [_, _, _, _]) Try.func11 rfl Try.ntmps11 rfl rfl ?_
  refine CW.seq ?_
  refine CW.reg ?_
  refine WL.pure rfl rfl rfl (PV.assign rfl) ?_
  refine WL.nilS ?_
  refine CW.seq ?_
  refine CW.reg ?_
  refine WL.pure rfl rfl rfl (PV.assign rfl) ?_
  refine WL.nilS ?_
  refine CW.seq ?_
  refine CW.reg ?_
  refine WL.pure rfl rfl rfl (PV.move rfl) ?_
  refine WL.pure rfl rfl rfl (PV.move rfl) ?_
  refine WL.op rfl (OpK.callR rfl T.cf27 rfl (c_laws_szChangeS (by first | assumption | exact Rd.up (by assumption) hB | exact rdCh (by assumption) (by assumption)) (by first | assumption | omega | (simp only [marks_len, marksB_len, marksR_len, sumL_marksS]; omega))) (fun w1 hXw1 => ?_))
  have hB := hB.trans hXw1
  refine WL.pure rfl rfl rfl (PV.assign rfl) ?_
  refine WL.nilS ?_
  refine CW.seq ?_
  refine CW.seq ?_
  refine CW.reg ?_
  refine WL.pure rfl rfl rfl (PV.move rfl) ?_
  refine WL.pure rfl rfl rfl (PV.lss rfl rfl) ?_
  refine WL.nilS ?_
  refine CW.cond rfl (fun hc1 => ?_) (fun hc1 => ?_)
  · skip
    try simp only [decide_eq_true_eq, decide_eq_false_iff_not, Bool.not_eq_true', Bool.not_eq_false', Bool.not_eq_eq_eq_not, Bool.not_true, Bool.not_false, Int.not_lt, Int.not_le, Classical.not_not, beq_iff_eq, beq_eq_false_iff_ne] at hc1
    refine CW.seq ?_
    refine CW.reg ?_
    refine WL.pure rfl rfl rfl (PV.assign rfl) ?_
    refine WL.nilS ?_
    refine CW.ret ?_
    refine RQ.then ?_
    refine RQ.r1 rfl ?_
    refine ⟨?_, hB⟩
    first | rfl | (exfalso; revert hc1; simp; done) | (exfalso; revert hc1; simp; omega) | (exfalso; omega) | first | rfl | exact bT (by omega) | exact bF (by omega) | exact bD (by omega) | exact iE (by omega) | (simp_all; done) | (simp_all; omega) | (simp_all; intros; omega)
  try simp only [decide_eq_true_eq, decide_eq_false_iff_not, Bool.not_eq_true', Bool.not_eq_false', Bool.not_eq_eq_eq_not, Bool.not_true, Bool.not_false, Int.not_lt, Int.not_le, Classical.not_not, beq_iff_eq, beq_eq_false_iff_ne] at hc1
  refine CW.skipS ?_
  refine CW.seq ?_
  refine CW.reg ?_
  refine WL.pure rfl rfl rfl (PV.move rfl) ?_
  refine WL.pure rfl rfl rfl (PV.move rfl) ?_
  refine WL.op rfl (OpK.callR rfl T.cf50 rfl (c_laws_szInt64SS (by first | assumption | exact Rd.up (by assumption) hB | exact Osl.rd (by assumption) | exact Osn.rdR (by assumption) | exact NL.rd (by assumption) | exact rdII (by assumption) (by assumption) | exact Inn.rd (by assumption) (by omega)) (by first | assumption | omega | (simp only [marks_len, marksB_len, marksR_len, sumL_marksS]; omega))) (fun w2 hXw2 => ?_))
  have hB := hB.trans hXw2
  refine WL.pure rfl rfl rfl (PV.assign rfl) ?_
  refine WL.nilS ?_
  refine CW.seq ?_
  refine CW.seq ?_
  refine CW.reg ?_
  refine WL.pure rfl rfl rfl (PV.move rfl) ?_
  refine WL.pure rfl rfl rfl (PV.lss rfl rfl) ?_
  refine WL.nilS ?_
  refine CW.cond rfl (fun hc2 => ?_) (fun hc2 => ?_)
  · skip
    try simp only [decide_eq_true_eq, decide_eq_false_iff_not, Bool.not_eq_true', Bool.not_eq_false', Bool.not_eq_eq_eq_not, Bool.not_true, Bool.not_false, Int.not_lt, Int.not_le, Classical.not_not, beq_iff_eq, beq_eq_false_iff_ne] at hc2
    refine CW.seq ?_
    refine CW.reg ?_
    refine WL.pure rfl rfl rfl (PV.assign rfl) ?_
    refine WL.nilS ?_
    refine CW.ret ?_
    refine RQ.then ?_
    refine RQ.r1 rfl ?_
    refine ⟨?_, hB⟩
    first | rfl | (exfalso; revert hc2; simp; done) | (exfalso; revert hc2; simp; omega) | (exfalso; omega) | first | rfl | exact bT (by omega) | exact bF (by omega) | exact bD (by omega) | exact iE (by omega) | (simp_all; done) | (simp_all; omega) | (simp_all; intros; omega)
  try simp only [decide_eq_true_eq, decide_eq_false_iff_not, Bool.not_eq_true', Bool.not_eq_false', Bool.not_eq_eq_eq_not, Bool.not_true, Bool.not_false, Int.not_lt, Int.not_le, Classical.not_not, beq_iff_eq, beq_eq_false_iff_ne] at hc2
  refine CW.skipS ?_
  refine CW.seq ?_
  refine CW.reg ?_
  refine WL.pure rfl rfl rfl (PV.move rfl) ?_
  refine WL.op rfl (OpK.call rfl T.cf29 rfl (c_laws_toChangeS (by first | assumption | exact Rd.up (by assumption) hB | exact rdCh (by assumption) (by assumption)) (by first | assumption | omega | (simp only [marks_len, marksB_len, marksR_len, sumL_marksS]; omega)) (by first | assumption | omega | (simp only [marks_len, marksB_len, marksR_len, sumL_marksS]; omega))) (fun rv1 w3 hR => ?_))
  obtain ⟨hXw3, v1, og1, vs2, os2, rfl, ho1, hq1, hn2, hq2, hd1_2⟩ := hR
  have hl1 := Lo.up hq1 hB
  have hl2 := LoI.up hq2 hB
  have hlv2 := hn2.lv
  have hB := hB.trans hXw3
  refine WL.pure rfl rfl rfl (PV.move rfl) ?_
  refine WL.op rfl (OpK.call rfl T.cf52 rfl (c_laws_toInt64SS (by first | assumption | exact Rd.up (by assumption) hB | exact Osl.rd (by assumption) | exact Osn.rdR (by assumption) | exact NL.rd (by assumption) | exact rdII (by assumption) (by assumption) | exact Inn.rd (by assumption) (by omega)) (by first | assumption | omega | (simp only [marks_len, marksB_len, marksR_len, sumL_marksS]; omega)) (by first | assumption | omega | (simp only [marks_len, marksB_len, marksR_len, sumL_marksS]; omega))) (fun rv2 w4 hR => ?_))
  obtain ⟨hXw4, v3, og3, vs4, os4, rfl, ho3, hq3, hn4, hq4, hd3_4⟩ := hR
  have hl3 := Lo.up hq3 hB
  have hd1_3 := Dj.lo ho1.ltO hq3
  have hd2_3 := DI.fresh hn2 hq3
  have hl4 := LoI.up hq4 hB
  have hlv4 := hn4.lv
  have hd1_4 := DI.lo ho1.ltO hq4
  have hdd2_4 := DD.symm (DD.lo hn2 hq4)
  have hB := hB.trans hXw4
  have ho1 := ho1.up hXw4
  have hn2 := hn2.up hXw4
  refine WL.pure rfl rfl rfl (PV.move rfl) ?_
  refine WL.pure rfl rfl rfl (PV.move rfl) ?_
  refine WL.op rfl (OpK.call rfl T.cf51 rfl (c_spec_ChangesShared (by first | assumption | exact Rd.up (by assumption) hB | exact rdCh (by assumption) (by assumption)) (by first | assumption | exact Rd.up (by assumption) hB | exact Osl.rd (by assumption) | exact Osn.rdR (by assumption) | exact NL.rd (by assumption) | exact rdII (by assumption) (by assumption) | exact Inn.rd (by assumption) (by omega))) (fun rv3 w5 hR => ?_))
  obtain ⟨hXw5, v5, og5, vs6, os6, rfl, ho5, hq5, hn6, hq6, hd5_6⟩ := hR
  have hl5 := Lo.up hq5 hB
  have hd1_5 := Dj.lo ho1.ltO hq5
  have hd2_5 := DI.fresh hn2 hq5
  have hd3_5 := Dj.lo ho3.ltO hq5
  have hd4_5 := DI.fresh hn4 hq5
  have hl6 := LoI.up hq6 hB
  have hlv6 := hn6.lv
  have hd1_6 := DI.lo ho1.ltO hq6
  have hdd2_6 := DD.symm (DD.lo hn2 hq6)
  have hd3_6 := DI.lo ho3.ltO hq6
  have hdd4_6 := DD.symm (DD.lo hn4 hq6)
  have hB := hB.trans hXw5
  have ho1 := ho1.up hXw5
  have hn2 := hn2.up hXw5
  have ho3 := ho3.up hXw5
  have hn4 := hn4.up hXw5
  refine WL.pure rfl rfl rfl (PV.move rfl) ?_
  refine WL.pure rfl rfl rfl (PV.extract rfl rfl) ?_
  refine WL.pure rfl rfl rfl (PV.extract rfl rfl) ?_
  refine WL.pure rfl rfl rfl (PV.assign rfl) ?_
  refine WL.pure rfl rfl rfl (PV.assign rfl) ?_
  refine WL.nilS ?_
  refine CW.seq ?_
  refine CW.reg ?_
  refine WL.pure rfl rfl rfl (PV.move rfl) ?_
  refine WL.op rfl (OpK.call rfl T.cf29 rfl (c_laws_toChangeS (by first | assumption | exact Rd.up (by assumption) hB | exact rdCh (by assumption) (by assumption)) (by first | assumption | omega | (simp only [marks_len, marksB_len, marksR_len, sumL_marksS]; omega)) (by first | assumption | omega | (simp only [marks_len, marksB_len, marksR_len, sumL_marksS]; omega))) (fun rv4 w6 hR => ?_))
  obtain ⟨hXw6, v7, og7, vs8, os8, rfl, ho7, hq7, hn8, hq8, hd7_8⟩ := hR
  have hl7 := Lo.up hq7 hB
  have hd1_7 := Dj.lo ho1.ltO hq7
  have hd2_7 := DI.fresh hn2 hq7
  have hd3_7 := Dj.lo ho3.ltO hq7
  have hd4_7 := DI.fresh hn4 hq7
  have hd5_7 := Dj.lo ho5.ltO hq7
  have hd6_7 := DI.fresh hn6 hq7
  have hl8 := LoI.up hq8 hB
  have hlv8 := hn8.lv
  have hd1_8 := DI.lo ho1.ltO hq8
  have hdd2_8 := DD.symm (DD.lo hn2 hq8)
  have hd3_8 := DI.lo ho3.ltO hq8
  have hdd4_8 := DD.symm (DD.lo hn4 hq8)
  have hd5_8 := DI.lo ho5.ltO hq8
  have hdd6_8 := DD.symm (DD.lo hn6 hq8)
  have hB := hB.trans hXw6
  have ho1 := ho1.up hXw6
  have hn2 := hn2.up hXw6
  have ho3 := ho3.up hXw6
  have hn4 := hn4.up hXw6
  have ho5 := ho5.up hXw6
  have hn6 := hn6.up hXw6
  refine WL.pure rfl rfl rfl (PV.assign rfl) ?_
  refine WL.nilS ?_
  refine CW.seq ?_
  refine CW.reg ?_
  refine WL.pure rfl rfl rfl (PV.move rfl) ?_
  refine WL.op rfl (OpK.call rfl T.cf52 rfl (c_laws_toInt64SS (by first | assumption | exact Rd.up (by assumption) hB | exact Osl.rd (by assumption) | exact Osn.rdR (by assumption) | exact NL.rd (by assumption) | exact rdII (by assumption) (by assumption) | exact Inn.rd (by assumption) (by omega)) (by first | assumption | omega | (simp only [marks_len, marksB_len, marksR_len, sumL_marksS]; omega)) (by first | assumption | omega | (simp only [marks_len, marksB_len, marksR_len, sumL_marksS]; omega))) (fun rv5 w7 hR => ?_))
  obtain ⟨hXw7, v9, og9, vs10, os10, rfl, ho9, hq9, hn10, hq10, hd9_10⟩ := hR
  have hl9 := Lo.up hq9 hB
  have hd1_9 := Dj.lo ho1.ltO hq9
  have hd2_9 := DI.fresh hn2 hq9
  have hd3_9 := Dj.lo ho3.ltO hq9
  have hd4_9 := DI.fresh hn4 hq9
  have hd5_9 := Dj.lo ho5.ltO hq9
  have hd6_9 := DI.fresh hn6 hq9
  have hd7_9 := Dj.lo ho7.ltO hq9
  have hd8_9 := DI.fresh hn8 hq9
  have hl10 := LoI.up hq10 hB
  have hlv10 := hn10.lv
  have hd1_10 := DI.lo ho1.ltO hq10
  have hdd2_10 := DD.symm (DD.lo hn2 hq10)
  have hd3_10 := DI.lo ho3.ltO hq10
  have hdd4_10 := DD.symm (DD.lo hn4 hq10)
  have hd5_10 := DI.lo ho5.ltO hq10
  have hdd6_10 := DD.symm (DD.lo hn6 hq10)
  have hd7_10 := DI.lo ho7.ltO hq10
  have hdd8_10 := DD.symm (DD.lo hn8 hq10)
  have hB := hB.trans hXw7
  have ho1 := ho1.up hXw7
  have hn2 := hn2.up hXw7
  have ho3 := ho3.up hXw7
  have hn4 := hn4.up hXw7
  have ho5 := ho5.up hXw7
  have hn6 := hn6.up hXw7
  have ho7 := ho7.up hXw7
  have hn8 := hn8.up hXw7
  refine WL.pure rfl rfl rfl (PV.assign rfl) ?_
  refine WL.nilS ?_
  refine CW.seq ?_
  refine CW.reg ?_
  refine WL.pure rfl rfl rfl (PV.move rfl) ?_
  refine WL.pure rfl rfl rfl (PV.move rfl) ?_
  refine WL.pure rfl rfl rfl (PV.move rfl) ?_
  refine WL.pure rfl rfl rfl (PV.move rfl) ?_
  refine WL.op rfl (OpK.call rfl T.cf53 rfl (c_impl_ChangesShared (by first | assumption | exact Rd.up (by assumption) hB | exact rdCh (by assumption) (by assumption)) (by first | assumption | exact Rd.up (by assumption) hB | exact Osl.rd (by assumption) | exact Osn.rdR (by assumption) | exact NL.rd (by assumption) | exact rdII (by assumption) (by assumption) | exact Inn.rd (by assumption) (by omega))) (fun rv6 w8 hR => ?_))
  obtain ⟨hXw8, v11, og11, vs12, os12, rfl, ho11, hq11, hn12, hq12, hd11_12⟩ := hR
  have hl11 := Lo.up hq11 hB
  have hd1_11 := Dj.lo ho1.ltO hq11
  have hd2_11 := DI.fresh hn2 hq11
  have hd3_11 := Dj.lo ho3.ltO hq11
  have hd4_11 := DI.fresh hn4 hq11
  have hd5_11 := Dj.lo ho5.ltO hq11
  have hd6_11 := DI.fresh hn6 hq11
  have hd7_11 := Dj.lo ho7.ltO hq11
  have hd8_11 := DI.fresh hn8 hq11
  have hd9_11 := Dj.lo ho9.ltO hq11
  have hd10_11 := DI.fresh hn10 hq11
  have hl12 := LoI.up hq12 hB
  have hlv12 := hn12.lv
  have hd1_12 := DI.lo ho1.ltO hq12
  have hdd2_12 := DD.symm (DD.lo hn2 hq12)
  have hd3_12 := DI.lo ho3.ltO hq12
  have hdd4_12 := DD.symm (DD.lo hn4 hq12)
  have hd5_12 := DI.lo ho5.ltO hq12
  have hdd6_12 := DD.symm (DD.lo hn6 hq12)
  have hd7_12 := DI.lo ho7.ltO hq12
  have hdd8_12 := DD.symm (DD.lo hn8 hq12)
  have hd9_12 := DI.lo ho9.ltO hq12
  have hdd10_12 := DD.symm (DD.lo hn10 hq12)
  have hB := hB.trans hXw8
  have ho1 := ho1.up hXw8
  have hn2 := hn2.up hXw8
  have ho3 := ho3.up hXw8
  have hn4 := hn4.up hXw8
  have ho5 := ho5.up hXw8
  have hn6 := hn6.up hXw8
  have ho7 := ho7.up hXw8
  have hn8 := hn8.up hXw8
  have ho9 := ho9.up hXw8
  have hn10 := hn10.up hXw8
  refine WL.pure rfl rfl rfl (PV.move rfl) ?_
  refine WL.pure rfl rfl rfl (PV.extract rfl rfl) ?_
  refine WL.pure rfl rfl rfl (PV.extract rfl rfl) ?_
  refine WL.pure rfl rfl rfl (PV.assign rfl) ?_
  refine WL.pure rfl rfl rfl (PV.assign rfl) ?_
  refine WL.nilS ?_
  refine CW.seq ?_
  refine CW.seq ?_
  refine CW.reg ?_
  refine WL.pure rfl rfl rfl (PV.move rfl) ?_
  refine WL.pure rfl rfl rfl (PV.move rfl) ?_
  refine WL.op rfl (OpK.callR rfl T.cf20 rfl (c_laws_eqInt64SS (by first | assumption | exact Rd.up (by assumption) hB | exact Osl.rd (by assumption) | exact Osn.rdR (by assumption) | exact NL.rd (by assumption) | exact rdII (by assumption) (by assumption) | exact Inn.rd (by assumption) (by omega)) (by first | assumption | exact Rd.up (by assumption) hB | exact Osl.rd (by assumption) | exact Osn.rdR (by assumption) | exact NL.rd (by assumption) | exact rdII (by assumption) (by assumption) | exact Inn.rd (by assumption) (by omega))) (fun w9 hXw9 => ?_))
  have hB := hB.trans hXw9
  have ho1 := ho1.up hXw9
  have hn2 := hn2.up hXw9
  have ho3 := ho3.up hXw9
  have hn4 := hn4.up hXw9
  have ho5 := ho5.up hXw9
  have hn6 := hn6.up hXw9
  have ho7 := ho7.up hXw9
  have hn8 := hn8.up hXw9
  have ho9 := ho9.up hXw9
  have hn10 := hn10.up hXw9
  have ho11 := ho11.up hXw9
  have hn12 := hn12.up hXw9
  refine WL.pure rfl rfl rfl (PV.not rfl) ?_
  refine WL.pure rfl rfl rfl (PV.move rfl) ?_
  refine WL.split (t := 57) rfl (fun hc3 => ?_) (fun hc3 => ?_)
  · skip
    try simp only [decide_eq_true_eq, decide_eq_false_iff_not, Bool.not_eq_true', Bool.not_eq_false', Bool.not_eq_eq_eq_not, Bool.not_true, Bool.not_false, Int.not_lt, Int.not_le, Classical.not_not, beq_iff_eq, beq_eq_false_iff_ne] at hc3
    refine WL.skip rfl rfl rfl rfl rfl ?_
    refine WL.skip rfl rfl rfl rfl rfl ?_
    refine WL.skip rfl rfl rfl rfl rfl ?_
    refine WL.pure rfl rfl rfl (PV.pickT rfl rfl) ?_
    refine WL.nilS ?_
    refine CW.condT rfl ?_
    refine CW.seq ?_
    refine CW.reg ?_
    refine WL.pure rfl rfl rfl (PV.assign rfl) ?_
    refine WL.nilS ?_
    refine CW.ret ?_
    refine RQ.then ?_
    refine RQ.r1 rfl ?_
    refine ⟨?_, hB⟩
    first | rfl | (exfalso; revert hc3; simp; done) | (exfalso; revert hc3; simp; omega) | (exfalso; omega) | first | rfl | exact bT (by omega) | exact bF (by omega) | exact bD (by omega) | exact iE (by omega) | (simp_all; done) | (simp_all; omega) | (simp_all; intros; omega)
  try simp only [decide_eq_true_eq, decide_eq_false_iff_not, Bool.not_eq_true', Bool.not_eq_false', Bool.not_eq_eq_eq_not, Bool.not_true, Bool.not_false, Int.not_lt, Int.not_le, Classical.not_not, beq_iff_eq, beq_eq_false_iff_ne] at hc3
  refine WL.pureG rfl rfl rfl rfl rfl (PV.move rfl) ?_
  refine WL.pureG rfl rfl rfl rfl rfl (PV.move rfl) ?_
  refine WL.pureG rfl rfl rfl rfl rfl (PV.neqB T.bl4 rfl rfl) ?_
  refine WL.pure rfl rfl rfl (PV.pickF rfl rfl) ?_
  refine WL.nilS ?_
  refine CW.cond rfl (fun hc4 => ?_) (fun hc4 => ?_)
  · skip
    try simp only [decide_eq_true_eq, decide_eq_false_iff_not, Bool.not_eq_true', Bool.not_eq_false', Bool.not_eq_eq_eq_not, Bool.not_true, Bool.not_false, Int.not_lt, Int.not_le, Classical.not_not, beq_iff_eq, beq_eq_false_iff_ne] at hc4
    refine CW.seq ?_
    refine CW.reg ?_
    refine WL.pure rfl rfl rfl (PV.assign rfl) ?_
    refine WL.nilS ?_
    refine CW.ret ?_
    refine RQ.then ?_
    refine RQ.r1 rfl ?_
    refine ⟨?_, hB⟩
    first | rfl | (exfalso; revert hc4; simp; done) | (exfalso; revert hc4; simp; omega) | (exfalso; omega) | first | rfl | exact bT (by omega) | exact bF (by omega) | exact bD (by omega) | exact iE (by omega) | (simp_all; done) | (simp_all; omega) | (simp_all; intros; omega)
  try simp only [decide_eq_true_eq, decide_eq_false_iff_not, Bool.not_eq_true', Bool.not_eq_false', Bool.not_eq_eq_eq_not, Bool.not_true, Bool.not_false, Int.not_lt, Int.not_le, Classical.not_not, beq_iff_eq, beq_eq_false_iff_ne] at hc4
  refine CW.skipS ?_
  refine CW.seq ?_
  refine CW.seq ?_
  refine CW.reg ?_
  refine WL.pure rfl rfl rfl (PV.move rfl) ?_
  refine WL.pure rfl rfl rfl (PV.move rfl) ?_
  refine WL.op rfl (OpK.call rfl T.cf29 rfl (c_laws_toChangeS (by first | assumption | exact Rd.up (by assumption) hB | exact rdCh (by assumption) (by assumption)) (by first | assumption | omega | (simp only [marks_len, marksB_len, marksR_len, sumL_marksS]; omega)) (by first | assumption | omega | (simp only [marks_len, marksB_len, marksR_len, sumL_marksS]; omega))) (fun rv7 w10 hR => ?_))
  obtain ⟨hXw10, v13, og13, vs14, os14, rfl, ho13, hq13, hn14, hq14, hd13_14⟩ := hR
  have hl13 := Lo.up hq13 hB
  have hd1_13 := Dj.lo ho1.ltO hq13
  have hd2_13 := DI.fresh hn2 hq13
  have hd3_13 := Dj.lo ho3.ltO hq13
  have hd4_13 := DI.fresh hn4 hq13
  have hd5_13 := Dj.lo ho5.ltO hq13
  have hd6_13 := DI.fresh hn6 hq13
  have hd7_13 := Dj.lo ho7.ltO hq13
  have hd8_13 := DI.fresh hn8 hq13
  have hd9_13 := Dj.lo ho9.ltO hq13
  have hd10_13 := DI.fresh hn10 hq13
  have hd11_13 := Dj.lo ho11.ltO hq13
  have hd12_13 := DI.fresh hn12 hq13
  have hl14 := LoI.up hq14 hB
  have hlv14 := hn14.lv
  have hd1_14 := DI.lo ho1.ltO hq14
  have hdd2_14 := DD.symm (DD.lo hn2 hq14)
  have hd3_14 := DI.lo ho3.ltO hq14
  have hdd4_14 := DD.symm (DD.lo hn4 hq14)
  have hd5_14 := DI.lo ho5.ltO hq14
  have hdd6_14 := DD.symm (DD.lo hn6 hq14)
  have hd7_14 := DI.lo ho7.ltO hq14
  have hdd8_14 := DD.symm (DD.lo hn8 hq14)
  have hd9_14 := DI.lo ho9.ltO hq14
  have hdd10_14 := DD.symm (DD.lo hn10 hq14)
  have hd11_14 := DI.lo ho11.ltO hq14
  have hdd12_14 := DD.symm (DD.lo hn12 hq14)
  have hB := hB.trans hXw10
  have ho1 := ho1.up hXw10
  have hn2 := hn2.up hXw10
  have ho3 := ho3.up hXw10
  have hn4 := hn4.up hXw10
  have ho5 := ho5.up hXw10
  have hn6 := hn6.up hXw10
  have ho7 := ho7.up hXw10
  have hn8 := hn8.up hXw10
  have ho9 := ho9.up hXw10
  have hn10 := hn10.up hXw10
  have ho11 := ho11.up hXw10
  have hn12 := hn12.up hXw10
  refine WL.op rfl (OpK.callR rfl T.cf31 rfl (c_laws_eqChangeS (by first | assumption | exact Rd.up (by assumption) hB | exact rdCh (by assumption) (by assumption)) (by first | assumption | exact Rd.up (by assumption) hB | exact rdCh (by assumption) (by assumption))) (fun w11 hXw11 => ?_))
  have hB := hB.trans hXw11
  have ho1 := ho1.up hXw11
  have hn2 := hn2.up hXw11
  have ho3 := ho3.up hXw11
  have hn4 := hn4.up hXw11
  have ho5 := ho5.up hXw11
  have hn6 := hn6.up hXw11
  have ho7 := ho7.up hXw11
  have hn8 := hn8.up hXw11
  have ho9 := ho9.up hXw11
  have hn10 := hn10.up hXw11
  have ho11 := ho11.up hXw11
  have hn12 := hn12.up hXw11
  have ho13 := ho13.up hXw11
  have hn14 := hn14.up hXw11
  refine WL.pure rfl rfl rfl (PV.not rfl) ?_
  refine WL.nilS ?_
  refine CW.cond rfl (fun hc5 => ?_) (fun hc5 => ?_)
  · skip
    try simp only [decide_eq_true_eq, decide_eq_false_iff_not, Bool.not_eq_true', Bool.not_eq_false', Bool.not_eq_eq_eq_not, Bool.not_true, Bool.not_false, Int.not_lt, Int.not_le, Classical.not_not, beq_iff_eq, beq_eq_false_iff_ne] at hc5
    refine CW.seq ?_
    refine CW.reg ?_
    refine WL.pure rfl rfl rfl (PV.assign rfl) ?_
    refine WL.nilS ?_
    refine CW.ret ?_
    refine RQ.then ?_
    refine RQ.r1 rfl ?_
    refine ⟨?_, hB⟩
    first | rfl | (exfalso; revert hc5; simp; done) | (exfalso; revert hc5; simp; omega) | (exfalso; omega) | first | rfl | exact bT (by omega) | exact bF (by omega) | exact bD (by omega) | exact iE (by omega) | (simp_all; done) | (simp_all; omega) | (simp_all; intros; omega)
  try simp only [decide_eq_true_eq, decide_eq_false_iff_not, Bool.not_eq_true', Bool.not_eq_false', Bool.not_eq_eq_eq_not, Bool.not_true, Bool.not_false, Int.not_lt, Int.not_le, Classical.not_not, beq_iff_eq, beq_eq_false_iff_ne] at hc5
  refine CW.skipS ?_
  refine CW.seq ?_
  refine CW.seq ?_
  refine CW.reg ?_
  refine WL.pure rfl rfl rfl (PV.move rfl) ?_
  refine WL.pure rfl rfl rfl (PV.move rfl) ?_
  refine WL.op rfl (OpK.call rfl T.cf52 rfl (c_laws_toInt64SS (by first | assumption | exact Rd.up (by assumption) hB | exact Osl.rd (by assumption) | exact Osn.rdR (by assumption) | exact NL.rd (by assumption) | exact rdII (by assumption) (by assumption) | exact Inn.rd (by assumption) (by omega)) (by first | assumption | omega | (simp only [marks_len, marksB_len, marksR_len, sumL_marksS]; omega)) (by first | assumption | omega | (simp only [marks_len, marksB_len, marksR_len, sumL_marksS]; omega))) (fun rv8 w12 hR => ?_))
  obtain ⟨hXw12, v15, og15, vs16, os16, rfl, ho15, hq15, hn16, hq16, hd15_16⟩ := hR
  have hl15 := Lo.up hq15 hB
  have hd1_15 := Dj.lo ho1.ltO hq15
  have hd2_15 := DI.fresh hn2 hq15
  have hd3_15 := Dj.lo ho3.ltO hq15
  have hd4_15 := DI.fresh hn4 hq15
  have hd5_15 := Dj.lo ho5.ltO hq15
  have hd6_15 := DI.fresh hn6 hq15
  have hd7_15 := Dj.lo ho7.ltO hq15
  have hd8_15 := DI.fresh hn8 hq15
  have hd9_15 := Dj.lo ho9.ltO hq15
  have hd10_15 := DI.fresh hn10 hq15
  have hd11_15 := Dj.lo ho11.ltO hq15
  have hd12_15 := DI.fresh hn12 hq15
  have hd13_15 := Dj.lo ho13.ltO hq15
  have hd14_15 := DI.fresh hn14 hq15
  have hl16 := LoI.up hq16 hB
  have hlv16 := hn16.lv
  have hd1_16 := DI.lo ho1.ltO hq16
  have hdd2_16 := DD.symm (DD.lo hn2 hq16)
  have hd3_16 := DI.lo ho3.ltO hq16
  have hdd4_16 := DD.symm (DD.lo hn4 hq16)
  have hd5_16 := DI.lo ho5.ltO hq16
  have hdd6_16 := DD.symm (DD.lo hn6 hq16)
  have hd7_16 := DI.lo ho7.ltO hq16
  have hdd8_16 := DD.symm (DD.lo hn8 hq16)
  have hd9_16 := DI.lo ho9.ltO hq16
  have hdd10_16 := DD.symm (DD.lo hn10 hq16)
  have hd11_16 := DI.lo ho11.ltO hq16
  have hdd12_16 := DD.symm (DD.lo hn12 hq16)
  have hd13_16 := DI.lo ho13.ltO hq16
  have hdd14_16 := DD.symm (DD.lo hn14 hq16)
  have hB := hB.trans hXw12
  have ho1 := ho1.up hXw12
  have hn2 := hn2.up hXw12
  have ho3 := ho3.up hXw12
  have hn4 := hn4.up hXw12
  have ho5 := ho5.up hXw12
  have hn6 := hn6.up hXw12
  have ho7 := ho7.up hXw12
  have hn8 := hn8.up hXw12
  have ho9 := ho9.up hXw12
  have hn10 := hn10.up hXw12
  have ho11 := ho11.up hXw12
  have hn12 := hn12.up hXw12
  have ho13 := ho13.up hXw12
  have hn14 := hn14.up hXw12
  refine WL.op rfl (OpK.callR rfl T.cf20 rfl (c_laws_eqInt64SS (by first | assumption | exact Rd.up (by assumption) hB | exact Osl.rd (by assumption) | exact Osn.rdR (by assumption) | exact NL.rd (by assumption) | exact rdII (by assumption) (by assumption) | exact Inn.rd (by assumption) (by omega)) (by first | assumption | exact Rd.up (by assumption) hB | exact Osl.rd (by assumption) | exact Osn.rdR (by assumption) | exact NL.rd (by assumption) | exact rdII (by assumption) (by assumption) | exact Inn.rd (by assumption) (by omega))) (fun w13 hXw13 => ?_))
  have hB := hB.trans hXw13
  have ho1 := ho1.up hXw13
  have hn2 := hn2.up hXw13
  have ho3 := ho3.up hXw13
  have hn4 := hn4.up hXw13
  have ho5 := ho5.up hXw13
  have hn6 := hn6.up hXw13
  have ho7 := ho7.up hXw13
  have hn8 := hn8.up hXw13
  have ho9 := ho9.up hXw13
  have hn10 := hn10.up hXw13
  have ho11 := ho11.up hXw13
  have hn12 := hn12.up hXw13
  have ho13 := ho13.up hXw13
  have hn14 := hn14.up hXw13
  have ho15 := ho15.up hXw13
  have hn16 := hn16.up hXw13
  refine WL.pure rfl rfl rfl (PV.not rfl) ?_
  refine WL.nilS ?_
  refine CW.cond rfl (fun hc6 => ?_) (fun hc6 => ?_)
  · skip
    try simp only [decide_eq_true_eq, decide_eq_false_iff_not, Bool.not_eq_true', Bool.not_eq_false', Bool.not_eq_eq_eq_not, Bool.not_true, Bool.not_false, Int.not_lt, Int.not_le, Classical.not_not, beq_iff_eq, beq_eq_false_iff_ne] at hc6
    refine CW.seq ?_
    refine CW.reg ?_
    refine WL.pure rfl rfl rfl (PV.assign rfl) ?_
    refine WL.nilS ?_
    refine CW.ret ?_
    refine RQ.then ?_
    refine RQ.r1 rfl ?_
    refine ⟨?_, hB⟩
    first | rfl | (exfalso; revert hc6; simp; done) | (exfalso; revert hc6; simp; omega) | (exfalso; omega) | first | rfl | exact bT (by omega) | exact bF (by omega) | exact bD (by omega) | exact iE (by omega) | (simp_all; done) | (simp_all; omega) | (simp_all; intros; omega)
  try simp only [decide_eq_true_eq, decide_eq_false_iff_not, Bool.not_eq_true', Bool.not_eq_false', Bool.not_eq_eq_eq_not, Bool.not_true, Bool.not_false, Int.not_lt, Int.not_le, Classical.not_not, beq_iff_eq, beq_eq_false_iff_ne] at hc6
  refine CW.skipS ?_
  refine CW.seq ?_
  refine CW.reg ?_
  refine WL.pure rfl rfl rfl (PV.assign rfl) ?_
  refine WL.nilS ?_
  refine CW.seq ?_
  refine CW.reg ?_
  refine WL.pure rfl rfl rfl (PV.move rfl) ?_
  refine WL.pure rfl rfl rfl (PV.move rfl) ?_
  refine WL.op rfl (OpK.call rfl T.cf32 rfl (c_laws_markChangeS ho7 hn8 hd7_8 (by first | assumption | omega | (simp only [marks_len, marksB_len, marksR_len, sumL_marksS]; omega))) (fun rv9 w14 hR => ?_))
  obtain ⟨rfl, hUC17, hinC17⟩ := hR
  have ho1 := ho1.loop hUC17 (DI.all hd1_8)
  have hn2 := hn2.loop hUC17 (DD.all (DD.symm hdd2_8))
  have ho3 := ho3.loop hUC17 (DI.all hd3_8)
  have hn4 := hn4.loop hUC17 (DD.all (DD.symm hdd4_8))
  have ho5 := ho5.loop hUC17 (DI.all hd5_8)
  have hn6 := hn6.loop hUC17 (DD.all (DD.symm hdd6_8))
  have ho7 := ho7.loop hUC17 (DI.all hd7_8)
  have ho9 := ho9.loop hUC17 (DI.all hd8_9)
  have hn10 := hn10.loop hUC17 (DD.all hdd8_10)
  have ho11 := ho11.loop hUC17 (DI.all hd8_11)
  have hn12 := hn12.loop hUC17 (DD.all hdd8_12)
  have ho13 := ho13.loop hUC17 (DI.all hd8_13)
  have hn14 := hn14.loop hUC17 (DD.all hdd8_14)
  have ho15 := ho15.loop hUC17 (DI.all hd8_15)
  have hn16 := hn16.loop hUC17 (DD.all hdd8_16)
  have hB := hB.loop hUC17 (LoI.all hl8)
  have hn8 := hinC17; have hlv8 := hn8.lv
  refine WL.pure rfl rfl rfl (PV.assign rfl) ?_
  refine WL.nilS ?_
  refine CW.seq ?_
  refine CW.reg ?_
  refine WL.pure rfl rfl rfl (PV.move rfl) ?_
  refine WL.pure rfl rfl rfl (PV.move rfl) ?_
  refine WL.op rfl (OpK.call rfl T.cf25 rfl (c_laws_markInt64SS ho9 hn10 hd9_10 (by first | assumption | omega | (simp only [marks_len, marksB_len, marksR_len, sumL_marksS]; omega))) (fun rv10 w15 hR => ?_))
  obtain ⟨rfl, hUC18, hinC18⟩ := hR
  have ho1 := ho1.loop hUC18 (DI.all hd1_10)
  have hn2 := hn2.loop hUC18 (DD.all (DD.symm hdd2_10))
  have ho3 := ho3.loop hUC18 (DI.all hd3_10)
  have hn4 := hn4.loop hUC18 (DD.all (DD.symm hdd4_10))
  have ho5 := ho5.loop hUC18 (DI.all hd5_10)
  have hn6 := hn6.loop hUC18 (DD.all (DD.symm hdd6_10))
  have ho7 := ho7.loop hUC18 (DI.all hd7_10)
  have hn8 := hn8.loop hUC18 (DD.all (DD.symm hdd8_10))
  have ho9 := ho9.loop hUC18 (DI.all hd9_10)
  have ho11 := ho11.loop hUC18 (DI.all hd10_11)
  have hn12 := hn12.loop hUC18 (DD.all hdd10_12)
  have ho13 := ho13.loop hUC18 (DI.all hd10_13)
  have hn14 := hn14.loop hUC18 (DD.all hdd10_14)
  have ho15 := ho15.loop hUC18 (DI.all hd10_15)
  have hn16 := hn16.loop hUC18 (DD.all hdd10_16)
  have hB := hB.loop hUC18 (LoI.all hl10)
  have hn10 := hinC18; have hlv10 := hn10.lv
  refine WL.pure rfl rfl rfl (PV.assign rfl) ?_
  refine WL.nilS ?_
  refine CW.seq ?_
  refine CW.seq ?_
  refine CW.reg ?_
  refine WL.pure rfl rfl rfl (PV.move rfl) ?_
  refine WL.pure rfl rfl rfl (PV.lss rfl rfl) ?_
  refine WL.pure rfl rfl rfl (PV.move rfl) ?_
  refine WL.split (t := 80) rfl (fun hc7 => ?_) (fun hc7 => ?_)
  · skip
    try simp only [decide_eq_true_eq, decide_eq_false_iff_not, Bool.not_eq_true', Bool.not_eq_false', Bool.not_eq_eq_eq_not, Bool.not_true, Bool.not_false, Int.not_lt, Int.not_le, Classical.not_not, beq_iff_eq, beq_eq_false_iff_ne] at hc7
    refine WL.skip rfl rfl rfl rfl rfl ?_
    refine WL.skip rfl rfl rfl rfl rfl ?_
    refine WL.skip rfl rfl rfl rfl rfl ?_
    refine WL.skip rfl rfl rfl rfl rfl ?_
    refine WL.pure rfl rfl rfl (PV.pickT rfl rfl) ?_
    refine WL.pure rfl rfl rfl (PV.move rfl) ?_
    refine WL.skip rfl rfl rfl rfl rfl ?_
    refine WL.skip rfl rfl rfl rfl rfl ?_
    refine WL.skip rfl rfl rfl rfl rfl ?_
    refine WL.pure rfl rfl rfl (PV.pickT rfl rfl) ?_
    refine WL.nilS ?_
    refine CW.condT rfl ?_
    refine CW.seq ?_
    refine CW.reg ?_
    refine WL.pure rfl rfl rfl (PV.assign rfl) ?_
    refine WL.nilS ?_
    refine CW.ret ?_
    refine RQ.then ?_
    refine RQ.r1 rfl ?_
    refine ⟨?_, hB⟩
    first | rfl | (exfalso; revert hc7; simp; done) | (exfalso; revert hc7; simp; omega) | (exfalso; omega) | first | rfl | exact bT (by omega) | exact bF (by omega) | exact bD (by omega) | exact iE (by omega) | (simp_all; done) | (simp_all; omega) | (simp_all; intros; omega)
  try simp only [decide_eq_true_eq, decide_eq_false_iff_not, Bool.not_eq_true', Bool.not_eq_false', Bool.not_eq_eq_eq_not, Bool.not_true, Bool.not_false, Int.not_lt, Int.not_le, Classical.not_not, beq_iff_eq, beq_eq_false_iff_ne] at hc7
  refine WL.pureG rfl rfl rfl rfl rfl (PV.move rfl) ?_
  refine WL.pureG rfl rfl rfl rfl rfl (PV.move rfl) ?_
  refine WL.opG rfl rfl rfl (OpK.callR rfl T.cf20 rfl (c_laws_eqInt64SS (by first | assumption | exact Rd.up (by assumption) hB | exact Osl.rd (by assumption) | exact Osn.rdR (by assumption) | exact NL.rd (by assumption) | exact rdII (by assumption) (by assumption) | exact Inn.rd (by assumption) (by omega)) (by first | assumption | exact Rd.up (by assumption) hB | exact Osl.rd (by assumption) | exact Osn.rdR (by assumption) | exact NL.rd (by assumption) | exact rdII (by assumption) (by assumption) | exact Inn.rd (by assumption) (by omega))) (fun w16 hXw16 => ?_))
  have hB := hB.trans hXw16
  have ho1 := ho1.up hXw16
  have hn2 := hn2.up hXw16
  have ho3 := ho3.up hXw16
  have hn4 := hn4.up hXw16
  have ho5 := ho5.up hXw16
  have hn6 := hn6.up hXw16
  have ho7 := ho7.up hXw16
  have hn8 := hn8.up hXw16
  have ho9 := ho9.up hXw16
  have hn10 := hn10.up hXw16
  have ho11 := ho11.up hXw16
  have hn12 := hn12.up hXw16
  have ho13 := ho13.up hXw16
  have hn14 := hn14.up hXw16
  have ho15 := ho15.up hXw16
  have hn16 := hn16.up hXw16
  refine WL.pureG rfl rfl rfl rfl rfl (PV.not rfl) ?_
  refine WL.pure rfl rfl rfl (PV.pickF rfl rfl) ?_
  refine WL.pure rfl rfl rfl (PV.move rfl) ?_
  refine WL.split (t := 86) rfl (fun hc8 => ?_) (fun hc8 => ?_)
  · skip
    try simp only [decide_eq_true_eq, decide_eq_false_iff_not, Bool.not_eq_true', Bool.not_eq_false', Bool.not_eq_eq_eq_not, Bool.not_true, Bool.not_false, Int.not_lt, Int.not_le, Classical.not_not, beq_iff_eq, beq_eq_false_iff_ne] at hc8
    refine WL.skip rfl rfl rfl rfl rfl ?_
    refine WL.skip rfl rfl rfl rfl rfl ?_
    refine WL.skip rfl rfl rfl rfl rfl ?_
    refine WL.pure rfl rfl rfl (PV.pickT rfl rfl) ?_
    refine WL.nilS ?_
    refine CW.condT rfl ?_
    refine CW.seq ?_
    refine CW.reg ?_
    refine WL.pure rfl rfl rfl (PV.assign rfl) ?_
    refine WL.nilS ?_
    refine CW.ret ?_
    refine RQ.then ?_
    refine RQ.r1 rfl ?_
    refine ⟨?_, hB⟩
    first | rfl | (exfalso; revert hc8; simp; done) | (exfalso; revert hc8; simp; omega) | (exfalso; omega) | first | rfl | exact bT (by omega) | exact bF (by omega) | exact bD (by omega) | exact iE (by omega) | (simp_all; done) | (simp_all; omega) | (simp_all; intros; omega)
  try simp only [decide_eq_true_eq, decide_eq_false_iff_not, Bool.not_eq_true', Bool.not_eq_false', Bool.not_eq_eq_eq_not, Bool.not_true, Bool.not_false, Int.not_lt, Int.not_le, Classical.not_not, beq_iff_eq, beq_eq_false_iff_ne] at hc8
  refine WL.pureG rfl rfl rfl rfl rfl (PV.move rfl) ?_
  refine WL.pureG rfl rfl rfl rfl rfl (PV.move rfl) ?_
  refine WL.pureG rfl rfl rfl rfl rfl (PV.neqB T.bl4 rfl rfl) ?_
  refine WL.pure rfl rfl rfl (PV.pickF rfl rfl) ?_
  refine WL.nilS ?_
  refine CW.cond rfl (fun hc9 => ?_) (fun hc9 => ?_)
  · skip
    try simp only [decide_eq_true_eq, decide_eq_false_iff_not, Bool.not_eq_true', Bool.not_eq_false', Bool.not_eq_eq_eq_not, Bool.not_true, Bool.not_false, Int.not_lt, Int.not_le, Classical.not_not, beq_iff_eq, beq_eq_false_iff_ne] at hc9
    refine CW.seq ?_
    refine CW.reg ?_
    refine WL.pure rfl rfl rfl (PV.assign rfl) ?_
    refine WL.nilS ?_
    refine CW.ret ?_
    refine RQ.then ?_
    refine RQ.r1 rfl ?_
    refine ⟨?_, hB⟩
    first | rfl | (exfalso; revert hc9; simp; done) | (exfalso; revert hc9; simp; omega) | (exfalso; omega) | first | rfl | exact bT (by omega) | exact bF (by omega) | exact bD (by omega) | exact iE (by omega) | (simp_all; done) | (simp_all; omega) | (simp_all; intros; omega)
  try simp only [decide_eq_true_eq, decide_eq_false_iff_not, Bool.not_eq_true', Bool.not_eq_false', Bool.not_eq_eq_eq_not, Bool.not_true, Bool.not_false, Int.not_lt, Int.not_le, Classical.not_not, beq_iff_eq, beq_eq_false_iff_ne] at hc9
  refine CW.skipS ?_
  refine CW.seq ?_
  refine CW.reg ?_
  refine WL.pure rfl rfl rfl (PV.assign rfl) ?_
  refine WL.nilS ?_
  refine CW.seq ?_
  refine CW.reg ?_
  refine WL.pure rfl rfl rfl (PV.move rfl) ?_
  refine WL.pure rfl rfl rfl (PV.move rfl) ?_
  refine WL.op rfl (OpK.call rfl T.cf25 rfl (c_laws_markInt64SS ho11 hn12 hd11_12 (by first | assumption | omega | (simp only [marks_len, marksB_len, marksR_len, sumL_marksS]; omega))) (fun rv11 w17 hR => ?_))
  obtain ⟨rfl, hUC19, hinC19⟩ := hR
  have ho1 := ho1.loop hUC19 (DI.all hd1_12)
  have hn2 := hn2.loop hUC19 (DD.all (DD.symm hdd2_12))
  have ho3 := ho3.loop hUC19 (DI.all hd3_12)
  have hn4 := hn4.loop hUC19 (DD.all (DD.symm hdd4_12))
  have ho5 := ho5.loop hUC19 (DI.all hd5_12)
  have hn6 := hn6.loop hUC19 (DD.all (DD.symm hdd6_12))
  have ho7 := ho7.loop hUC19 (DI.all hd7_12)
  have hn8 := hn8.loop hUC19 (DD.all (DD.symm hdd8_12))
  have ho9 := ho9.loop hUC19 (DI.all hd9_12)
  have hn10 := hn10.loop hUC19 (DD.all (DD.symm hdd10_12))
  have ho11 := ho11.loop hUC19 (DI.all hd11_12)
  have ho13 := ho13.loop hUC19 (DI.all hd12_13)
  have hn14 := hn14.loop hUC19 (DD.all hdd12_14)
  have ho15 := ho15.loop hUC19 (DI.all hd12_15)
  have hn16 := hn16.loop hUC19 (DD.all hdd12_16)
  have hB := hB.loop hUC19 (LoI.all hl12)
  have hn12 := hinC19; have hlv12 := hn12.lv
  refine WL.pure rfl rfl rfl (PV.assign rfl) ?_
  refine WL.nilS ?_
  refine CW.seq ?_
  refine CW.reg ?_
  refine WL.pure rfl rfl rfl (PV.assign rfl) ?_
  refine WL.nilS ?_
  refine CW.seq ?_
  refine CW.reg ?_
  refine WL.pure rfl rfl rfl (PV.move rfl) ?_
  refine WL.pure rfl rfl rfl (PV.move rfl) ?_
  refine WL.op rfl (OpK.callR rfl T.cf26 rfl (c_laws_heldInt64SS (by first | assumption | exact Rd.up (by assumption) hB | exact Osl.rd (by assumption) | exact Osn.rdR (by assumption) | exact NL.rd (by assumption) | exact rdII (by assumption) (by assumption) | exact Inn.rd (by assumption) (by omega)) (by first | assumption | omega | (simp only [marks_len, marksB_len, marksR_len, sumL_marksS]; omega))) (fun w18 hXw18 => ?_))
  have hB := hB.trans hXw18
  have ho1 := ho1.up hXw18
  have hn2 := hn2.up hXw18
  have ho3 := ho3.up hXw18
  have hn4 := hn4.up hXw18
  have ho5 := ho5.up hXw18
  have hn6 := hn6.up hXw18
  have ho7 := ho7.up hXw18
  have hn8 := hn8.up hXw18
  have ho9 := ho9.up hXw18
  have hn10 := hn10.up hXw18
  have ho11 := ho11.up hXw18
  have hn12 := hn12.up hXw18
  have ho13 := ho13.up hXw18
  have hn14 := hn14.up hXw18
  have ho15 := ho15.up hXw18
  have hn16 := hn16.up hXw18
  refine WL.pure rfl rfl rfl (PV.assign rfl) ?_
  refine WL.nilS ?_
  refine CW.seq ?_
  refine CW.seq ?_
  refine CW.reg ?_
  refine WL.pure rfl rfl rfl (PV.move rfl) ?_
  refine WL.pure rfl rfl rfl (PV.lss rfl rfl) ?_
  refine WL.nilS ?_
  refine CW.cond rfl (fun hc10 => ?_) (fun hc10 => ?_)
  · skip
    try simp only [decide_eq_true_eq, decide_eq_false_iff_not, Bool.not_eq_true', Bool.not_eq_false', Bool.not_eq_eq_eq_not, Bool.not_true, Bool.not_false, Int.not_lt, Int.not_le, Classical.not_not, beq_iff_eq, beq_eq_false_iff_ne] at hc10
    refine CW.seq ?_
    refine CW.reg ?_
    refine WL.pure rfl rfl rfl (PV.assign rfl) ?_
    refine WL.nilS ?_
    refine CW.ret ?_
    refine RQ.then ?_
    refine RQ.r1 rfl ?_
    refine ⟨?_, hB⟩
    first | rfl | (exfalso; revert hc10; simp; done) | (exfalso; revert hc10; simp; omega) | (exfalso; omega) | first | rfl | exact bT (by omega) | exact bF (by omega) | exact bD (by omega) | exact iE (by omega) | (simp_all; done) | (simp_all; omega) | (simp_all; intros; omega)
  try simp only [decide_eq_true_eq, decide_eq_false_iff_not, Bool.not_eq_true', Bool.not_eq_false', Bool.not_eq_eq_eq_not, Bool.not_true, Bool.not_false, Int.not_lt, Int.not_le, Classical.not_not, beq_iff_eq, beq_eq_false_iff_ne] at hc10
  refine CW.skipS ?_
  refine CW.seq ?_
  refine CW.seq ?_
  refine CW.reg ?_
  refine WL.pure rfl rfl rfl (PV.move rfl) ?_
  refine WL.pure rfl rfl rfl (PV.move rfl) ?_
  refine WL.pure rfl rfl rfl (PV.neq rfl rfl) ?_
  refine WL.nilS ?_
  refine CW.cond rfl (fun hc11 => ?_) (fun hc11 => ?_)
  · skip
    try simp only [decide_eq_true_eq, decide_eq_false_iff_not, Bool.not_eq_true', Bool.not_eq_false', Bool.not_eq_eq_eq_not, Bool.not_true, Bool.not_false, Int.not_lt, Int.not_le, Classical.not_not, beq_iff_eq, beq_eq_false_iff_ne] at hc11
    refine CW.seq ?_
    refine CW.reg ?_
    refine WL.pure rfl rfl rfl (PV.assign rfl) ?_
    refine WL.nilS ?_
    refine CW.ret ?_
    refine RQ.then ?_
    refine RQ.r1 rfl ?_
    refine ⟨?_, hB⟩
    first | rfl | (exfalso; revert hc11; simp; done) | (exfalso; revert hc11; simp; omega) | (exfalso; omega) | first | rfl | exact bT (by omega) | exact bF (by omega) | exact bD (by omega) | exact iE (by omega) | (simp_all; done) | (simp_all; omega) | (simp_all; intros; omega)
  try simp only [decide_eq_true_eq, decide_eq_false_iff_not, Bool.not_eq_true', Bool.not_eq_false', Bool.not_eq_eq_eq_not, Bool.not_true, Bool.not_false, Int.not_lt, Int.not_le, Classical.not_not, beq_iff_eq, beq_eq_false_iff_ne] at hc11
  refine CW.skipS ?_
  refine CW.seq ?_
  refine CW.reg ?_
  refine WL.pure rfl rfl rfl (PV.move rfl) ?_
  refine WL.op rfl (OpK.call rfl T.cf29 rfl (c_laws_toChangeS (by first | assumption | exact Rd.up (by assumption) hB | exact rdCh (by assumption) (by assumption)) (by first | assumption | omega | (simp only [marks_len, marksB_len, marksR_len, sumL_marksS]; omega)) (by first | assumption | omega | (simp only [marks_len, marksB_len, marksR_len, sumL_marksS]; omega))) (fun rv12 w19 hR => ?_))
  obtain ⟨hXw19, v20, og20, vs21, os21, rfl, ho20, hq20, hn21, hq21, hd20_21⟩ := hR
  have hl20 := Lo.up hq20 hB
  have hd1_20 := Dj.lo ho1.ltO hq20
  have hd2_20 := DI.fresh hn2 hq20
  have hd3_20 := Dj.lo ho3.ltO hq20
  have hd4_20 := DI.fresh hn4 hq20
  have hd5_20 := Dj.lo ho5.ltO hq20
  have hd6_20 := DI.fresh hn6 hq20
  have hd7_20 := Dj.lo ho7.ltO hq20
  have hd8_20 := DI.fresh hn8 hq20
  have hd9_20 := Dj.lo ho9.ltO hq20
  have hd10_20 := DI.fresh hn10 hq20
  have hd11_20 := Dj.lo ho11.ltO hq20
  have hd12_20 := DI.fresh hn12 hq20
  have hd13_20 := Dj.lo ho13.ltO hq20
  have hd14_20 := DI.fresh hn14 hq20
  have hd15_20 := Dj.lo ho15.ltO hq20
  have hd16_20 := DI.fresh hn16 hq20
  have hl21 := LoI.up hq21 hB
  have hlv21 := hn21.lv
  have hd1_21 := DI.lo ho1.ltO hq21
  have hdd2_21 := DD.symm (DD.lo hn2 hq21)
  have hd3_21 := DI.lo ho3.ltO hq21
  have hdd4_21 := DD.symm (DD.lo hn4 hq21)
  have hd5_21 := DI.lo ho5.ltO hq21
  have hdd6_21 := DD.symm (DD.lo hn6 hq21)
  have hd7_21 := DI.lo ho7.ltO hq21
  have hdd8_21 := DD.symm (DD.lo hn8 hq21)
  have hd9_21 := DI.lo ho9.ltO hq21
  have hdd10_21 := DD.symm (DD.lo hn10 hq21)
  have hd11_21 := DI.lo ho11.ltO hq21
  have hdd12_21 := DD.symm (DD.lo hn12 hq21)
  have hd13_21 := DI.lo ho13.ltO hq21
  have hdd14_21 := DD.symm (DD.lo hn14 hq21)
  have hd15_21 := DI.lo ho15.ltO hq21
  have hdd16_21 := DD.symm (DD.lo hn16 hq21)
  have hB := hB.trans hXw19
  have ho1 := ho1.up hXw19
  have hn2 := hn2.up hXw19
  have ho3 := ho3.up hXw19
  have hn4 := hn4.up hXw19
  have ho5 := ho5.up hXw19
  have hn6 := hn6.up hXw19
  have ho7 := ho7.up hXw19
  have hn8 := hn8.up hXw19
  have ho9 := ho9.up hXw19
  have hn10 := hn10.up hXw19
  have ho11 := ho11.up hXw19
  have hn12 := hn12.up hXw19
  have ho13 := ho13.up hXw19
  have hn14 := hn14.up hXw19
  have ho15 := ho15.up hXw19
  have hn16 := hn16.up hXw19
  refine WL.pure rfl rfl rfl (PV.move rfl) ?_
  refine WL.op rfl (OpK.call rfl T.cf52 rfl (c_laws_toInt64SS (by first | assumption | exact Rd.up (by assumption) hB | exact Osl.rd (by assumption) | exact Osn.rdR (by assumption) | exact NL.rd (by assumption) | exact rdII (by assumption) (by assumption) | exact Inn.rd (by assumption) (by omega)) (by first | assumption | omega | (simp only [marks_len, marksB_len, marksR_len, sumL_marksS]; omega)) (by first | assumption | omega | (simp only [marks_len, marksB_len, marksR_len, sumL_marksS]; omega))) (fun rv13 w20 hR => ?_))
  obtain ⟨hXw20, v22, og22, vs23, os23, rfl, ho22, hq22, hn23, hq23, hd22_23⟩ := hR
  have hl22 := Lo.up hq22 hB
  have hd1_22 := Dj.lo ho1.ltO hq22
  have hd2_22 := DI.fresh hn2 hq22
  have hd3_22 := Dj.lo ho3.ltO hq22
  have hd4_22 := DI.fresh hn4 hq22
  have hd5_22 := Dj.lo ho5.ltO hq22
  have hd6_22 := DI.fresh hn6 hq22
  have hd7_22 := Dj.lo ho7.ltO hq22
  have hd8_22 := DI.fresh hn8 hq22
  have hd9_22 := Dj.lo ho9.ltO hq22
  have hd10_22 := DI.fresh hn10 hq22
  have hd11_22 := Dj.lo ho11.ltO hq22
  have hd12_22 := DI.fresh hn12 hq22
  have hd13_22 := Dj.lo ho13.ltO hq22
  have hd14_22 := DI.fresh hn14 hq22
  have hd15_22 := Dj.lo ho15.ltO hq22
  have hd16_22 := DI.fresh hn16 hq22
  have hd20_22 := Dj.lo ho20.ltO hq22
  have hd21_22 := DI.fresh hn21 hq22
  have hl23 := LoI.up hq23 hB
  have hlv23 := hn23.lv
  have hd1_23 := DI.lo ho1.ltO hq23
  have hdd2_23 := DD.symm (DD.lo hn2 hq23)
  have hd3_23 := DI.lo ho3.ltO hq23
  have hdd4_23 := DD.symm (DD.lo hn4 hq23)
  have hd5_23 := DI.lo ho5.ltO hq23
  have hdd6_23 := DD.symm (DD.lo hn6 hq23)
  have hd7_23 := DI.lo ho7.ltO hq23
  have hdd8_23 := DD.symm (DD.lo hn8 hq23)
  have hd9_23 := DI.lo ho9.ltO hq23
  have hdd10_23 := DD.symm (DD.lo hn10 hq23)
  have hd11_23 := DI.lo ho11.ltO hq23
  have hdd12_23 := DD.symm (DD.lo hn12 hq23)
  have hd13_23 := DI.lo ho13.ltO hq23
  have hdd14_23 := DD.symm (DD.lo hn14 hq23)
  have hd15_23 := DI.lo ho15.ltO hq23
  have hdd16_23 := DD.symm (DD.lo hn16 hq23)
  have hd20_23 := DI.lo ho20.ltO hq23
  have hdd21_23 := DD.symm (DD.lo hn21 hq23)
  have hB := hB.trans hXw20
  have ho1 := ho1.up hXw20
  have hn2 := hn2.up hXw20
  have ho3 := ho3.up hXw20
  have hn4 := hn4.up hXw20
  have ho5 := ho5.up hXw20
  have hn6 := hn6.up hXw20
  have ho7 := ho7.up hXw20
  have hn8 := hn8.up hXw20
  have ho9 := ho9.up hXw20
  have hn10 := hn10.up hXw20
  have ho11 := ho11.up hXw20
  have hn12 := hn12.up hXw20
  have ho13 := ho13.up hXw20
  have hn14 := hn14.up hXw20
  have ho15 := ho15.up hXw20
  have hn16 := hn16.up hXw20
  have ho20 := ho20.up hXw20
  have hn21 := hn21.up hXw20
  refine WL.pure rfl rfl rfl (PV.move rfl) ?_
  refine WL.pure rfl rfl rfl (PV.move rfl) ?_
  refine WL.op rfl (OpK.call rfl T.cf53 rfl (c_impl_ChangesShared (by first | assumption | exact Rd.up (by assumption) hB | exact rdCh (by assumption) (by assumption)) (by first | assumption | exact Rd.up (by assumption) hB | exact Osl.rd (by assumption) | exact Osn.rdR (by assumption) | exact NL.rd (by assumption) | exact rdII (by assumption) (by assumption) | exact Inn.rd (by assumption) (by omega))) (fun rv14 w21 hR => ?_))
  obtain ⟨hXw21, v24, og24, vs25, os25, rfl, ho24, hq24, hn25, hq25, hd24_25⟩ := hR
  have hl24 := Lo.up hq24 hB
  have hd1_24 := Dj.lo ho1.ltO hq24
  have hd2_24 := DI.fresh hn2 hq24
  have hd3_24 := Dj.lo ho3.ltO hq24
  have hd4_24 := DI.fresh hn4 hq24
  have hd5_24 := Dj.lo ho5.ltO hq24
  have hd6_24 := DI.fresh hn6 hq24
  have hd7_24 := Dj.lo ho7.ltO hq24
  have hd8_24 := DI.fresh hn8 hq24
  have hd9_24 := Dj.lo ho9.ltO hq24
  have hd10_24 := DI.fresh hn10 hq24
  have hd11_24 := Dj.lo ho11.ltO hq24
  have hd12_24 := DI.fresh hn12 hq24
  have hd13_24 := Dj.lo ho13.ltO hq24
  have hd14_24 := DI.fresh hn14 hq24
  have hd15_24 := Dj.lo ho15.ltO hq24
  have hd16_24 := DI.fresh hn16 hq24
  have hd20_24 := Dj.lo ho20.ltO hq24
  have hd21_24 := DI.fresh hn21 hq24
  have hd22_24 := Dj.lo ho22.ltO hq24
  have hd23_24 := DI.fresh hn23 hq24
  have hl25 := LoI.up hq25 hB
  have hlv25 := hn25.lv
  have hd1_25 := DI.lo ho1.ltO hq25
  have hdd2_25 := DD.symm (DD.lo hn2 hq25)
  have hd3_25 := DI.lo ho3.ltO hq25
  have hdd4_25 := DD.symm (DD.lo hn4 hq25)
  have hd5_25 := DI.lo ho5.ltO hq25
  have hdd6_25 := DD.symm (DD.lo hn6 hq25)
  have hd7_25 := DI.lo ho7.ltO hq25
  have hdd8_25 := DD.symm (DD.lo hn8 hq25)
  have hd9_25 := DI.lo ho9.ltO hq25
  have hdd10_25 := DD.symm (DD.lo hn10 hq25)
  have hd11_25 := DI.lo ho11.ltO hq25
  have hdd12_25 := DD.symm (DD.lo hn12 hq25)
  have hd13_25 := DI.lo ho13.ltO hq25
  have hdd14_25 := DD.symm (DD.lo hn14 hq25)
  have hd15_25 := DI.lo ho15.ltO hq25
  have hdd16_25 := DD.symm (DD.lo hn16 hq25)
  have hd20_25 := DI.lo ho20.ltO hq25
  have hdd21_25 := DD.symm (DD.lo hn21 hq25)
  have hd22_25 := DI.lo ho22.ltO hq25
  have hdd23_25 := DD.symm (DD.lo hn23 hq25)
  have hB := hB.trans hXw21
  have ho1 := ho1.up hXw21
  have hn2 := hn2.up hXw21
  have ho3 := ho3.up hXw21
  have hn4 := hn4.up hXw21
  have ho5 := ho5.up hXw21
  have hn6 := hn6.up hXw21
  have ho7 := ho7.up hXw21
  have hn8 := hn8.up hXw21
  have ho9 := ho9.up hXw21
  have hn10 := hn10.up hXw21
  have ho11 := ho11.up hXw21
  have hn12 := hn12.up hXw21
  have ho13 := ho13.up hXw21
  have hn14 := hn14.up hXw21
  have ho15 := ho15.up hXw21
  have hn16 := hn16.up hXw21
  have ho20 := ho20.up hXw21
  have hn21 := hn21.up hXw21
  have ho22 := ho22.up hXw21
  have hn23 := hn23.up hXw21
  refine WL.pure rfl rfl rfl (PV.move rfl) ?_
  refine WL.pure rfl rfl rfl (PV.extract rfl rfl) ?_
  refine WL.pure rfl rfl rfl (PV.extract rfl rfl) ?_
  refine WL.pure rfl rfl rfl (PV.assign rfl) ?_
  refine WL.pure rfl rfl rfl (PV.assign rfl) ?_
  refine WL.nilS ?_
  refine CW.seq ?_
  refine CW.seq ?_
  refine CW.reg ?_
  refine WL.pure rfl rfl rfl (PV.move rfl) ?_
  refine WL.pure rfl rfl rfl (PV.move rfl) ?_
  refine WL.op rfl (OpK.callR rfl T.cf20 rfl (c_laws_eqInt64SS (by first | assumption | exact Rd.up (by assumption) hB | exact Osl.rd (by assumption) | exact Osn.rdR (by assumption) | exact NL.rd (by assumption) | exact rdII (by assumption) (by assumption) | exact Inn.rd (by assumption) (by omega)) (by first | assumption | exact Rd.up (by assumption) hB | exact Osl.rd (by assumption) | exact Osn.rdR (by assumption) | exact NL.rd (by assumption) | exact rdII (by assumption) (by assumption) | exact Inn.rd (by assumption) (by omega))) (fun w22 hXw22 => ?_))
  have hB := hB.trans hXw22
  have ho1 := ho1.up hXw22
  have hn2 := hn2.up hXw22
  have ho3 := ho3.up hXw22
  have hn4 := hn4.up hXw22
  have ho5 := ho5.up hXw22
  have hn6 := hn6.up hXw22
  have ho7 := ho7.up hXw22
  have hn8 := hn8.up hXw22
  have ho9 := ho9.up hXw22
  have hn10 := hn10.up hXw22
  have ho11 := ho11.up hXw22
  have hn12 := hn12.up hXw22
  have ho13 := ho13.up hXw22
  have hn14 := hn14.up hXw22
  have ho15 := ho15.up hXw22
  have hn16 := hn16.up hXw22
  have ho20 := ho20.up hXw22
  have hn21 := hn21.up hXw22
  have ho22 := ho22.up hXw22
  have hn23 := hn23.up hXw22
  have ho24 := ho24.up hXw22
  have hn25 := hn25.up hXw22
  refine WL.pure rfl rfl rfl (PV.not rfl) ?_
  refine WL.pure rfl rfl rfl (PV.move rfl) ?_
  refine WL.split (t := 116) rfl (fun hc12 => ?_) (fun hc12 => ?_)
  · skip
    try simp only [decide_eq_true_eq, decide_eq_false_iff_not, Bool.not_eq_true', Bool.not_eq_false', Bool.not_eq_eq_eq_not, Bool.not_true, Bool.not_false, Int.not_lt, Int.not_le, Classical.not_not, beq_iff_eq, beq_eq_false_iff_ne] at hc12
    refine WL.skip rfl rfl rfl rfl rfl ?_
    refine WL.skip rfl rfl rfl rfl rfl ?_
    refine WL.skip rfl rfl rfl rfl rfl ?_
    refine WL.pure rfl rfl rfl (PV.pickT rfl rfl) ?_
    refine WL.nilS ?_
    refine CW.condT rfl ?_
    refine CW.seq ?_
    refine CW.reg ?_
    refine WL.pure rfl rfl rfl (PV.assign rfl) ?_
    refine WL.nilS ?_
    refine CW.ret ?_
    refine RQ.then ?_
    refine RQ.r1 rfl ?_
    refine ⟨?_, hB⟩
    first | rfl | (exfalso; revert hc12; simp; done) | (exfalso; revert hc12; simp; omega) | (exfalso; omega) | first | rfl | exact bT (by omega) | exact bF (by omega) | exact bD (by omega) | exact iE (by omega) | (simp_all; done) | (simp_all; omega) | (simp_all; intros; omega)
  try simp only [decide_eq_true_eq, decide_eq_false_iff_not, Bool.not_eq_true', Bool.not_eq_false', Bool.not_eq_eq_eq_not, Bool.not_true, Bool.not_false, Int.not_lt, Int.not_le, Classical.not_not, beq_iff_eq, beq_eq_false_iff_ne] at hc12
  refine WL.pureG rfl rfl rfl rfl rfl (PV.move rfl) ?_
  refine WL.pureG rfl rfl rfl rfl rfl (PV.move rfl) ?_
  refine WL.pureG rfl rfl rfl rfl rfl (PV.neqB T.bl4 rfl rfl) ?_
  refine WL.pure rfl rfl rfl (PV.pickF rfl rfl) ?_
  refine WL.nilS ?_
  refine CW.cond rfl (fun hc13 => ?_) (fun hc13 => ?_)
  · skip
    try simp only [decide_eq_true_eq, decide_eq_false_iff_not, Bool.not_eq_true', Bool.not_eq_false', Bool.not_eq_eq_eq_not, Bool.not_true, Bool.not_false, Int.not_lt, Int.not_le, Classical.not_not, beq_iff_eq, beq_eq_false_iff_ne] at hc13
    refine CW.seq ?_
    refine CW.reg ?_
    refine WL.pure rfl rfl rfl (PV.assign rfl) ?_
    refine WL.nilS ?_
    refine CW.ret ?_
    refine RQ.then ?_
    refine RQ.r1 rfl ?_
    refine ⟨?_, hB⟩
    first | rfl | (exfalso; revert hc13; simp; done) | (exfalso; revert hc13; simp; omega) | (exfalso; omega) | first | rfl | exact bT (by omega) | exact bF (by omega) | exact bD (by omega) | exact iE (by omega) | (simp_all; done) | (simp_all; omega) | (simp_all; intros; omega)
  try simp only [decide_eq_true_eq, decide_eq_false_iff_not, Bool.not_eq_true', Bool.not_eq_false', Bool.not_eq_eq_eq_not, Bool.not_true, Bool.not_false, Int.not_lt, Int.not_le, Classical.not_not, beq_iff_eq, beq_eq_false_iff_ne] at hc13
  refine CW.skipS ?_
  refine CW.seq ?_
  refine CW.reg ?_
  refine WL.pure rfl rfl rfl (PV.assign rfl) ?_
  refine WL.nilS ?_
  refine CW.seq ?_
  refine CW.reg ?_
  refine WL.pure rfl rfl rfl (PV.move rfl) ?_
  refine WL.pure rfl rfl rfl (PV.move rfl) ?_
  refine WL.op rfl (OpK.callR rfl T.cf26 rfl (c_laws_heldInt64SS (by first | assumption | exact Rd.up (by assumption) hB | exact Osl.rd (by assumption) | exact Osn.rdR (by assumption) | exact NL.rd (by assumption) | exact rdII (by assumption) (by assumption) | exact Inn.rd (by assumption) (by omega)) (by first | assumption | omega | (simp only [marks_len, marksB_len, marksR_len, sumL_marksS]; omega))) (fun w23 hXw23 => ?_))
  have hB := hB.trans hXw23
  have ho1 := ho1.up hXw23
  have hn2 := hn2.up hXw23
  have ho3 := ho3.up hXw23
  have hn4 := hn4.up hXw23
  have ho5 := ho5.up hXw23
  have hn6 := hn6.up hXw23
  have ho7 := ho7.up hXw23
  have hn8 := hn8.up hXw23
  have ho9 := ho9.up hXw23
  have hn10 := hn10.up hXw23
  have ho11 := ho11.up hXw23
  have hn12 := hn12.up hXw23
  have ho13 := ho13.up hXw23
  have hn14 := hn14.up hXw23
  have ho15 := ho15.up hXw23
  have hn16 := hn16.up hXw23
  have ho20 := ho20.up hXw23
  have hn21 := hn21.up hXw23
  have ho22 := ho22.up hXw23
  have hn23 := hn23.up hXw23
  have ho24 := ho24.up hXw23
  have hn25 := hn25.up hXw23
  refine WL.pure rfl rfl rfl (PV.assign rfl) ?_
  refine WL.nilS ?_
  refine CW.seq ?_
  refine CW.seq ?_
  refine CW.reg ?_
  refine WL.pure rfl rfl rfl (PV.move rfl) ?_
  refine WL.pure rfl rfl rfl (PV.lss rfl rfl) ?_
  refine WL.nilS ?_
  refine CW.cond rfl (fun hc14 => ?_) (fun hc14 => ?_)
  · skip
    try simp only [decide_eq_true_eq, decide_eq_false_iff_not, Bool.not_eq_true', Bool.not_eq_false', Bool.not_eq_eq_eq_not, Bool.not_true, Bool.not_false, Int.not_lt, Int.not_le, Classical.not_not, beq_iff_eq, beq_eq_false_iff_ne] at hc14
    refine CW.seq ?_
    refine CW.reg ?_
    refine WL.pure rfl rfl rfl (PV.assign rfl) ?_
    refine WL.nilS ?_
    refine CW.ret ?_
    refine RQ.then ?_
    refine RQ.r1 rfl ?_
    refine ⟨?_, hB⟩
    first | rfl | (exfalso; revert hc14; simp; done) | (exfalso; revert hc14; simp; omega) | (exfalso; omega) | first | rfl | exact bT (by omega) | exact bF (by omega) | exact bD (by omega) | exact iE (by omega) | (simp_all; done) | (simp_all; omega) | (simp_all; intros; omega)
  try simp only [decide_eq_true_eq, decide_eq_false_iff_not, Bool.not_eq_true', Bool.not_eq_false', Bool.not_eq_eq_eq_not, Bool.not_true, Bool.not_false, Int.not_lt, Int.not_le, Classical.not_not, beq_iff_eq, beq_eq_false_iff_ne] at hc14
  refine CW.skipS ?_
  refine CW.seq ?_
  refine CW.seq ?_
  refine CW.reg ?_
  refine WL.pure rfl rfl rfl (PV.move rfl) ?_
  refine WL.pure rfl rfl rfl (PV.move rfl) ?_
  refine WL.pure rfl rfl rfl (PV.neq rfl rfl) ?_
  refine WL.nilS ?_
  refine CW.cond rfl (fun hc15 => ?_) (fun hc15 => ?_)
  · skip
    try simp only [decide_eq_true_eq, decide_eq_false_iff_not, Bool.not_eq_true', Bool.not_eq_false', Bool.not_eq_eq_eq_not, Bool.not_true, Bool.not_false, Int.not_lt, Int.not_le, Classical.not_not, beq_iff_eq, beq_eq_false_iff_ne] at hc15
    refine CW.seq ?_
    refine CW.reg ?_
    refine WL.pure rfl rfl rfl (PV.assign rfl) ?_
    refine WL.nilS ?_
    refine CW.ret ?_
    refine RQ.then ?_
    refine RQ.r1 rfl ?_
    refine ⟨?_, hB⟩
    first | rfl | (exfalso; revert hc15; simp; done) | (exfalso; revert hc15; simp; omega) | (exfalso; omega) | first | rfl | exact bT (by omega) | exact bF (by omega) | exact bD (by omega) | exact iE (by omega) | (simp_all; done) | (simp_all; omega) | (simp_all; intros; omega)
  try simp only [decide_eq_true_eq, decide_eq_false_iff_not, Bool.not_eq_true', Bool.not_eq_false', Bool.not_eq_eq_eq_not, Bool.not_true, Bool.not_false, Int.not_lt, Int.not_le, Classical.not_not, beq_iff_eq, beq_eq_false_iff_ne] at hc15
  refine CW.skipS ?_
  refine CW.seq ?_
  refine CW.reg ?_
  refine WL.pure rfl rfl rfl (PV.assign rfl) ?_
  refine WL.nilS ?_
  refine CW.ret ?_
  refine RQ.r1 rfl ?_
  refine ⟨?_, hB⟩
  first | rfl | (exfalso; revert hc15; simp; done) | (exfalso; revert hc15; simp; omega) | (exfalso; omega) | first | rfl | exact bT (by omega) | exact bF (by omega) | exact bD (by omega) | exact iE (by omega) | (simp_all; done) | (simp_all; omega) | (simp_all; intros; omega)

end Go.Proofs.Ythjeebjgdeldkaa
