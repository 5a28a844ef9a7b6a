/- Walks of the functions that the law FnExactLoosePairs reaches: each says what its function computes. No condition. -/
import Derived.Test.YthjeebjgdeldkaaProg
import Derived.Test.YthjeebjgdeldkaaLibM
import Derived.Test.YthjeebjgdeldkaaPlA
import Derived.Test.YthjeebjgdeldkaaLibT
import Derived.Test.YthjeebjgdeldkaaLibV
import Derived.Test.YthjeebjgdeldkaaPlK
import Derived.Test.YthjeebjgdeldkaaPlQ
import Derived.Test.YthjeebjgdeldkaaPlL
import Derived.Test.YthjeebjgdeldkaaPlO
import Derived.Test.YthjeebjgdeldkaaPlG
import Derived.Test.YthjeebjgdeldkaaLibW
import Derived.Test.YthjeebjgdeldkaaPlSo
import Derived.Test.YthjeebjgdeldkaaLibY
import Derived.Test.YthjeebjgdeldkaaPlLs
import Derived.Test.YthjeebjgdeldkaaWFnExactLoosePairsc
namespace Go.Proofs.Ythjeebjgdeldkaa
open Go Go.WX Go.Proofs
set_option linter.unusedSimpArgs false
set_option linter.unusedVariables false

theorem c_laws_FnExactLoosePairs {w : World} {va : Value} {cs : List C4} {L mo : Int} (ha : Rd ECh w va cs) : Calls Try.prog 4 #[va, .int .i64 L, .int .i64 mo] w (Ret1 (RQt (.bool true) w)) := by
  have hB : Ext w w := Ext.refl w
  have hla := ha.leI; have hsn := sumC_nn cs; have hel := lsR_len (cs := cs) (L := L) (M := mo); have hel2 := sumL_nn (onT (lsB cs L mo) (lsL cs mo.toNat))
  refine callsOf (vs := [_, _, _]) Try.func4 rfl Try.ntmps4 rfl rfl ?_
  refine CW.seq ?_
  refine CW.reg ?_
  refine WL.pure rfl rfl rfl (PV.assign rfl) ?_
  refine WL.nilS ?_
  refine CW.seq ?_
  refine CW.reg ?_
  refine WL.pure rfl rfl rfl (PV.assign rfl) ?_
  refine WL.nilS ?_
  refine CW.seq ?_
  refine CW.reg ?_
  refine WL.pure rfl rfl rfl (PV.move rfl) ?_
  refine WL.pure rfl rfl rfl (PV.move rfl) ?_
  refine WL.op rfl (OpK.callR rfl T.cf27 rfl (c_laws_szChangeS (by first | assumption | exact Rd.up (by assumption) hB | exact rdCh (by assumption) (by assumption)) (by first | assumption | omega | (simp only [marks_len, marksB_len, marksR_len, sumL_marksS, List.length_take]; omega))) (fun w1 hXw1 => ?_))
  have hB := hB.trans hXw1
  refine WL.pure rfl rfl rfl (PV.assign rfl) ?_
  refine WL.nilS ?_
  refine CW.seq ?_
  refine CW.seq ?_
  refine CW.reg ?_
  refine WL.pure rfl rfl rfl (PV.move rfl) ?_
  refine WL.pure rfl rfl rfl (PV.lss rfl rfl) ?_
  refine WL.nilS ?_
  refine CW.cond rfl (fun hc1 => ?_) (fun hc1 => ?_)
  · skip
    try simp only [decide_eq_true_eq, decide_eq_false_iff_not, Bool.not_eq_true', Bool.not_eq_false', Bool.not_eq_eq_eq_not, Bool.not_true, Bool.not_false, Int.not_lt, Int.not_le, Classical.not_not, beq_iff_eq, beq_eq_false_iff_ne] at hc1
    refine CW.seq ?_
    refine CW.reg ?_
    refine WL.pure rfl rfl rfl (PV.assign rfl) ?_
    refine WL.nilS ?_
    refine CW.ret ?_
    refine RQ.then ?_
    refine RQ.r1 rfl ?_
    refine ⟨?_, hB⟩
    first | rfl | (exfalso; revert hc1; simp; done) | (exfalso; revert hc1; simp; omega) | (exfalso; omega) | first | rfl | exact bT (by omega) | exact bF (by omega) | exact bD (by omega) | exact iE (by omega) | (simp_all; done) | (simp_all; omega) | (simp_all; intros; omega)
  try simp only [decide_eq_true_eq, decide_eq_false_iff_not, Bool.not_eq_true', Bool.not_eq_false', Bool.not_eq_eq_eq_not, Bool.not_true, Bool.not_false, Int.not_lt, Int.not_le, Classical.not_not, beq_iff_eq, beq_eq_false_iff_ne] at hc1
  refine CW.skipS ?_
  refine CW.seq ?_
  refine CW.reg ?_
  refine WL.pure rfl rfl rfl (PV.move rfl) ?_
  refine WL.op rfl (OpK.call rfl T.cf29 rfl (c_laws_toChangeS (by first | assumption | exact Rd.up (by assumption) hB | exact rdCh (by assumption) (by assumption)) (by first | assumption | omega | (simp only [marks_len, marksB_len, marksR_len, sumL_marksS, List.length_take]; omega)) (by first | assumption | omega | (simp only [marks_len, marksB_len, marksR_len, sumL_marksS, List.length_take]; omega))) (fun rv1 w2 hR => ?_))
  obtain ⟨hXw2, v1, og1, vs2, os2, rfl, ho1, hq1, hn2, hq2, hd1_2⟩ := hR
  have hl1 := Lo.up hq1 hB
  have hl2 := LoI.up hq2 hB
  have hlv2 := hn2.lv
  have hB := hB.trans hXw2
  refine WL.pure rfl rfl rfl (PV.move rfl) ?_
  refine WL.pure rfl rfl rfl (PV.move rfl) ?_
  refine WL.op rfl (OpK.call rfl T.cf28 rfl (c_spec_LoosePairs (by first | assumption | exact Rd.up (by assumption) hB | exact rdCh (by assumption) (by assumption))) (fun rv2 w3 hR => ?_))
  obtain ⟨hXw3, v3, og3, vs4, os4, rfl, ho3, hq3, hn4, hq4, hd3_4⟩ := hR
  have hl3 := Lo.up hq3 hB
  have hd1_3 := Dj.lo ho1.ltO hq3
  have hd2_3 := DI.fresh hn2 hq3
  have hl4 := LoI.up hq4 hB
  have hlv4 := hn4.lv
  have hd1_4 := DI.lo ho1.ltO hq4
  have hdd2_4 := DD.symm (DD.lo hn2 hq4)
  have hB := hB.trans hXw3
  have ho1 := ho1.up hXw3
  have hn2 := hn2.up hXw3
  refine WL.pure rfl rfl rfl (PV.move rfl) ?_
  refine WL.pure rfl rfl rfl (PV.extract rfl rfl) ?_
  refine WL.pure rfl rfl rfl (PV.extract rfl rfl) ?_
  refine WL.pure rfl rfl rfl (PV.assign rfl) ?_
  refine WL.pure rfl rfl rfl (PV.assign rfl) ?_
  refine WL.nilS ?_
  refine CW.seq ?_
  refine CW.reg ?_
  refine WL.pure rfl rfl rfl (PV.move rfl) ?_
  refine WL.op rfl (OpK.call rfl T.cf29 rfl (c_laws_toChangeS (by first | assumption | exact Rd.up (by assumption) hB | exact rdCh (by assumption) (by assumption)) (by first | assumption | omega | (simp only [marks_len, marksB_len, marksR_len, sumL_marksS, List.length_take]; omega)) (by first | assumption | omega | (simp only [marks_len, marksB_len, marksR_len, sumL_marksS, List.length_take]; omega))) (fun rv3 w4 hR => ?_))
  obtain ⟨hXw4, v5, og5, vs6, os6, rfl, ho5, hq5, hn6, hq6, hd5_6⟩ := hR
  have hl5 := Lo.up hq5 hB
  have hd1_5 := Dj.lo ho1.ltO hq5
  have hd2_5 := DI.fresh hn2 hq5
  have hd3_5 := Dj.lo ho3.ltO hq5
  have hd4_5 := DI.fresh hn4 hq5
  have hl6 := LoI.up hq6 hB
  have hlv6 := hn6.lv
  have hd1_6 := DI.lo ho1.ltO hq6
  have hdd2_6 := DD.symm (DD.lo hn2 hq6)
  have hd3_6 := DI.lo ho3.ltO hq6
  have hdd4_6 := DD.symm (DD.lo hn4 hq6)
  have hB := hB.trans hXw4
  have ho1 := ho1.up hXw4
  have hn2 := hn2.up hXw4
  have ho3 := ho3.up hXw4
  have hn4 := hn4.up hXw4
  refine WL.pure rfl rfl rfl (PV.assign rfl) ?_
  refine WL.nilS ?_
  refine CW.seq ?_
  refine CW.reg ?_
  refine WL.pure rfl rfl rfl (PV.move rfl) ?_
  refine WL.pure rfl rfl rfl (PV.move rfl) ?_
  refine WL.pure rfl rfl rfl (PV.move rfl) ?_
  refine WL.op rfl (OpK.call rfl T.cf30 rfl (c_impl_LoosePairs (by first | assumption | exact Rd.up (by assumption) hB | exact rdCh (by assumption) (by assumption))) (fun rv4 w5 hR => ?_))
  obtain ⟨hXw5, v7, og7, vs8, os8, rfl, ho7, hq7, hn8, hq8, hd7_8⟩ := hR
  have hl7 := Lo.up hq7 hB
  have hd1_7 := Dj.lo ho1.ltO hq7
  have hd2_7 := DI.fresh hn2 hq7
  have hd3_7 := Dj.lo ho3.ltO hq7
  have hd4_7 := DI.fresh hn4 hq7
  have hd5_7 := Dj.lo ho5.ltO hq7
  have hd6_7 := DI.fresh hn6 hq7
  have hl8 := LoI.up hq8 hB
  have hlv8 := hn8.lv
  have hd1_8 := DI.lo ho1.ltO hq8
  have hdd2_8 := DD.symm (DD.lo hn2 hq8)
  have hd3_8 := DI.lo ho3.ltO hq8
  have hdd4_8 := DD.symm (DD.lo hn4 hq8)
  have hd5_8 := DI.lo ho5.ltO hq8
  have hdd6_8 := DD.symm (DD.lo hn6 hq8)
  have hB := hB.trans hXw5
  have ho1 := ho1.up hXw5
  have hn2 := hn2.up hXw5
  have ho3 := ho3.up hXw5
  have hn4 := hn4.up hXw5
  have ho5 := ho5.up hXw5
  have hn6 := hn6.up hXw5
  refine WL.pure rfl rfl rfl (PV.move rfl) ?_
  refine WL.pure rfl rfl rfl (PV.extract rfl rfl) ?_
  refine WL.pure rfl rfl rfl (PV.extract rfl rfl) ?_
  refine WL.pure rfl rfl rfl (PV.assign rfl) ?_
  refine WL.pure rfl rfl rfl (PV.assign rfl) ?_
  refine WL.nilS ?_
  refine CW.seq ?_
  refine CW.seq ?_
  refine CW.reg ?_
  refine WL.pure rfl rfl rfl (PV.move rfl) ?_
  refine WL.pure rfl rfl rfl (PV.move rfl) ?_
  refine WL.op rfl (OpK.callR rfl T.cf20 rfl (c_laws_eqInt64SS (by first | assumption | exact Rd.up (by assumption) hB | exact Osl.rd (by assumption) | exact Osn.rdR (by assumption) | exact NL.rd (by assumption) | exact rdII (by assumption) (by assumption) | exact Inn.rd (by assumption) (by omega)) (by first | assumption | exact Rd.up (by assumption) hB | exact Osl.rd (by assumption) | exact Osn.rdR (by assumption) | exact NL.rd (by assumption) | exact rdII (by assumption) (by assumption) | exact Inn.rd (by assumption) (by omega))) (fun w6 hXw6 => ?_))
  have hB := hB.trans hXw6
  have ho1 := ho1.up hXw6
  have hn2 := hn2.up hXw6
  have ho3 := ho3.up hXw6
  have hn4 := hn4.up hXw6
  have ho5 := ho5.up hXw6
  have hn6 := hn6.up hXw6
  have ho7 := ho7.up hXw6
  have hn8 := hn8.up hXw6
  refine WL.pure rfl rfl rfl (PV.not rfl) ?_
  refine WL.pure rfl rfl rfl (PV.move rfl) ?_
  refine WL.split (t := 44) rfl (fun hc2 => ?_) (fun hc2 => ?_)
  · skip
    try simp only [decide_eq_true_eq, decide_eq_false_iff_not, Bool.not_eq_true', Bool.not_eq_false', Bool.not_eq_eq_eq_not, Bool.not_true, Bool.not_false, Int.not_lt, Int.not_le, Classical.not_not, beq_iff_eq, beq_eq_false_iff_ne] at hc2
    refine WL.skip rfl rfl rfl rfl rfl ?_
    refine WL.skip rfl rfl rfl rfl rfl ?_
    refine WL.skip rfl rfl rfl rfl rfl ?_
    refine WL.pure rfl rfl rfl (PV.pickT rfl rfl) ?_
    refine WL.nilS ?_
    refine CW.condT rfl ?_
    refine CW.seq ?_
    refine CW.reg ?_
    refine WL.pure rfl rfl rfl (PV.assign rfl) ?_
    refine WL.nilS ?_
    refine CW.ret ?_
    refine RQ.then ?_
    refine RQ.r1 rfl ?_
    refine ⟨?_, hB⟩
    first | rfl | (exfalso; revert hc2; simp; done) | (exfalso; revert hc2; simp; omega) | (exfalso; omega) | first | rfl | exact bT (by omega) | exact bF (by omega) | exact bD (by omega) | exact iE (by omega) | (simp_all; done) | (simp_all; omega) | (simp_all; intros; omega)
  try simp only [decide_eq_true_eq, decide_eq_false_iff_not, Bool.not_eq_true', Bool.not_eq_false', Bool.not_eq_eq_eq_not, Bool.not_true, Bool.not_false, Int.not_lt, Int.not_le, Classical.not_not, beq_iff_eq, beq_eq_false_iff_ne] at hc2
  refine WL.pureG rfl rfl rfl rfl rfl (PV.move rfl) ?_
  refine WL.pureG rfl rfl rfl rfl rfl (PV.move rfl) ?_
  refine WL.pureG rfl rfl rfl rfl rfl (PV.neqB T.bl4 rfl rfl) ?_
  refine WL.pure rfl rfl rfl (PV.pickF rfl rfl) ?_
  refine WL.nilS ?_
  refine CW.cond rfl (fun hc3 => ?_) (fun hc3 => ?_)
  · skip
    try simp only [decide_eq_true_eq, decide_eq_false_iff_not, Bool.not_eq_true', Bool.not_eq_false', Bool.not_eq_eq_eq_not, Bool.not_true, Bool.not_false, Int.not_lt, Int.not_le, Classical.not_not, beq_iff_eq, beq_eq_false_iff_ne] at hc3
    refine CW.seq ?_
    refine CW.reg ?_
    refine WL.pure rfl rfl rfl (PV.assign rfl) ?_
    refine WL.nilS ?_
    refine CW.ret ?_
    refine RQ.then ?_
    refine RQ.r1 rfl ?_
    refine ⟨?_, hB⟩
    first | rfl | (exfalso; revert hc3; simp; done) | (exfalso; revert hc3; simp; omega) | (exfalso; omega) | first | rfl | exact bT (by omega) | exact bF (by omega) | exact bD (by omega) | exact iE (by omega) | (simp_all; done) | (simp_all; omega) | (simp_all; intros; omega)
  try simp only [decide_eq_true_eq, decide_eq_false_iff_not, Bool.not_eq_true', Bool.not_eq_false', Bool.not_eq_eq_eq_not, Bool.not_true, Bool.not_false, Int.not_lt, Int.not_le, Classical.not_not, beq_iff_eq, beq_eq_false_iff_ne] at hc3
  refine CW.skipS ?_
  refine CW.seq ?_
  refine CW.seq ?_
  refine CW.reg ?_
  refine WL.pure rfl rfl rfl (PV.move rfl) ?_
  refine WL.pure rfl rfl rfl (PV.move rfl) ?_
  refine WL.op rfl (OpK.call rfl T.cf29 rfl (c_laws_toChangeS (by first | assumption | exact Rd.up (by assumption) hB | exact rdCh (by assumption) (by assumption)) (by first | assumption | omega | (simp only [marks_len, marksB_len, marksR_len, sumL_marksS, List.length_take]; omega)) (by first | assumption | omega | (simp only [marks_len, marksB_len, marksR_len, sumL_marksS, List.length_take]; omega))) (fun rv5 w7 hR => ?_))
  obtain ⟨hXw7, v9, og9, vs10, os10, rfl, ho9, hq9, hn10, hq10, hd9_10⟩ := hR
  have hl9 := Lo.up hq9 hB
  have hd1_9 := Dj.lo ho1.ltO hq9
  have hd2_9 := DI.fresh hn2 hq9
  have hd3_9 := Dj.lo ho3.ltO hq9
  have hd4_9 := DI.fresh hn4 hq9
  have hd5_9 := Dj.lo ho5.ltO hq9
  have hd6_9 := DI.fresh hn6 hq9
  have hd7_9 := Dj.lo ho7.ltO hq9
  have hd8_9 := DI.fresh hn8 hq9
  have hl10 := LoI.up hq10 hB
  have hlv10 := hn10.lv
  have hd1_10 := DI.lo ho1.ltO hq10
  have hdd2_10 := DD.symm (DD.lo hn2 hq10)
  have hd3_10 := DI.lo ho3.ltO hq10
  have hdd4_10 := DD.symm (DD.lo hn4 hq10)
  have hd5_10 := DI.lo ho5.ltO hq10
  have hdd6_10 := DD.symm (DD.lo hn6 hq10)
  have hd7_10 := DI.lo ho7.ltO hq10
  have hdd8_10 := DD.symm (DD.lo hn8 hq10)
  have hB := hB.trans hXw7
  have ho1 := ho1.up hXw7
  have hn2 := hn2.up hXw7
  have ho3 := ho3.up hXw7
  have hn4 := hn4.up hXw7
  have ho5 := ho5.up hXw7
  have hn6 := hn6.up hXw7
  have ho7 := ho7.up hXw7
  have hn8 := hn8.up hXw7
  refine WL.op rfl (OpK.callR rfl T.cf31 rfl (c_laws_eqChangeS (by first | assumption | exact Rd.up (by assumption) hB | exact rdCh (by assumption) (by assumption)) (by first | assumption | exact Rd.up (by assumption) hB | exact rdCh (by assumption) (by assumption))) (fun w8 hXw8 => ?_))
  have hB := hB.trans hXw8
  have ho1 := ho1.up hXw8
  have hn2 := hn2.up hXw8
  have ho3 := ho3.up hXw8
  have hn4 := hn4.up hXw8
  have ho5 := ho5.up hXw8
  have hn6 := hn6.up hXw8
  have ho7 := ho7.up hXw8
  have hn8 := hn8.up hXw8
  have ho9 := ho9.up hXw8
  have hn10 := hn10.up hXw8
  refine WL.pure rfl rfl rfl (PV.not rfl) ?_
  refine WL.nilS ?_
  refine CW.cond rfl (fun hc4 => ?_) (fun hc4 => ?_)
  · skip
    try simp only [decide_eq_true_eq, decide_eq_false_iff_not, Bool.not_eq_true', Bool.not_eq_false', Bool.not_eq_eq_eq_not, Bool.not_true, Bool.not_false, Int.not_lt, Int.not_le, Classical.not_not, beq_iff_eq, beq_eq_false_iff_ne] at hc4
    refine CW.seq ?_
    refine CW.reg ?_
    refine WL.pure rfl rfl rfl (PV.assign rfl) ?_
    refine WL.nilS ?_
    refine CW.ret ?_
    refine RQ.then ?_
    refine RQ.r1 rfl ?_
    refine ⟨?_, hB⟩
    first | rfl | (exfalso; revert hc4; simp; done) | (exfalso; revert hc4; simp; omega) | (exfalso; omega) | first | rfl | exact bT (by omega) | exact bF (by omega) | exact bD (by omega) | exact iE (by omega) | (simp_all; done) | (simp_all; omega) | (simp_all; intros; omega)
  try simp only [decide_eq_true_eq, decide_eq_false_iff_not, Bool.not_eq_true', Bool.not_eq_false', Bool.not_eq_eq_eq_not, Bool.not_true, Bool.not_false, Int.not_lt, Int.not_le, Classical.not_not, beq_iff_eq, beq_eq_false_iff_ne] at hc4
  refine CW.skipS ?_
  refine CW.seq ?_
  refine CW.reg ?_
  refine WL.pure rfl rfl rfl (PV.assign rfl) ?_
  refine WL.nilS ?_
  refine CW.seq ?_
  refine CW.reg ?_
  refine WL.pure rfl rfl rfl (PV.move rfl) ?_
  refine WL.pure rfl rfl rfl (PV.move rfl) ?_
  refine WL.op rfl (OpK.call rfl T.cf32 rfl (c_laws_markChangeS ho5 hn6 hd5_6 (by first | assumption | omega | (simp only [marks_len, marksB_len, marksR_len, sumL_marksS, List.length_take]; omega))) (fun rv6 w9 hR => ?_))
  obtain ⟨rfl, hUC11, hinC11⟩ := hR
  have ho1 := ho1.loop hUC11 (DI.all hd1_6)
  have hn2 := hn2.loop hUC11 (DD.all (DD.symm hdd2_6))
  have ho3 := ho3.loop hUC11 (DI.all hd3_6)
  have hn4 := hn4.loop hUC11 (DD.all (DD.symm hdd4_6))
  have ho5 := ho5.loop hUC11 (DI.all hd5_6)
  have ho7 := ho7.loop hUC11 (DI.all hd6_7)
  have hn8 := hn8.loop hUC11 (DD.all hdd6_8)
  have ho9 := ho9.loop hUC11 (DI.all hd6_9)
  have hn10 := hn10.loop hUC11 (DD.all hdd6_10)
  have hB := hB.loop hUC11 (LoI.all hl6)
  have hn6 := hinC11; have hlv6 := hn6.lv
  refine WL.pure rfl rfl rfl (PV.assign rfl) ?_
  refine WL.nilS ?_
  refine CW.seq ?_
  refine CW.seq ?_
  refine CW.reg ?_
  refine WL.pure rfl rfl rfl (PV.move rfl) ?_
  refine WL.pure rfl rfl rfl (PV.lss rfl rfl) ?_
  refine WL.pure rfl rfl rfl (PV.move rfl) ?_
  refine WL.split (t := 59) rfl (fun hc5 => ?_) (fun hc5 => ?_)
  · skip
    try simp only [decide_eq_true_eq, decide_eq_false_iff_not, Bool.not_eq_true', Bool.not_eq_false', Bool.not_eq_eq_eq_not, Bool.not_true, Bool.not_false, Int.not_lt, Int.not_le, Classical.not_not, beq_iff_eq, beq_eq_false_iff_ne] at hc5
    refine WL.skip rfl rfl rfl rfl rfl ?_
    refine WL.skip rfl rfl rfl rfl rfl ?_
    refine WL.skip rfl rfl rfl rfl rfl ?_
    refine WL.skip rfl rfl rfl rfl rfl ?_
    refine WL.pure rfl rfl rfl (PV.pickT rfl rfl) ?_
    refine WL.pure rfl rfl rfl (PV.move rfl) ?_
    refine WL.skip rfl rfl rfl rfl rfl ?_
    refine WL.skip rfl rfl rfl rfl rfl ?_
    refine WL.skip rfl rfl rfl rfl rfl ?_
    refine WL.pure rfl rfl rfl (PV.pickT rfl rfl) ?_
    refine WL.nilS ?_
    refine CW.condT rfl ?_
    refine CW.seq ?_
    refine CW.reg ?_
    refine WL.pure rfl rfl rfl (PV.assign rfl) ?_
    refine WL.nilS ?_
    refine CW.ret ?_
    refine RQ.then ?_
    refine RQ.r1 rfl ?_
    refine ⟨?_, hB⟩
    first | rfl | (exfalso; revert hc5; simp; done) | (exfalso; revert hc5; simp; omega) | (exfalso; omega) | first | rfl | exact bT (by omega) | exact bF (by omega) | exact bD (by omega) | exact iE (by omega) | (simp_all; done) | (simp_all; omega) | (simp_all; intros; omega)
  try simp only [decide_eq_true_eq, decide_eq_false_iff_not, Bool.not_eq_true', Bool.not_eq_false', Bool.not_eq_eq_eq_not, Bool.not_true, Bool.not_false, Int.not_lt, Int.not_le, Classical.not_not, beq_iff_eq, beq_eq_false_iff_ne] at hc5
  refine WL.pureG rfl rfl rfl rfl rfl (PV.move rfl) ?_
  refine WL.pureG rfl rfl rfl rfl rfl (PV.move rfl) ?_
  refine WL.opG rfl rfl rfl (OpK.callR rfl T.cf20 rfl (c_laws_eqInt64SS (by first | assumption | exact Rd.up (by assumption) hB | exact Osl.rd (by assumption) | exact Osn.rdR (by assumption) | exact NL.rd (by assumption) | exact rdII (by assumption) (by assumption) | exact Inn.rd (by assumption) (by omega)) (by first | assumption | exact Rd.up (by assumption) hB | exact Osl.rd (by assumption) | exact Osn.rdR (by assumption) | exact NL.rd (by assumption) | exact rdII (by assumption) (by assumption) | exact Inn.rd (by assumption) (by omega))) (fun w10 hXw10 => ?_))
  have hB := hB.trans hXw10
  have ho1 := ho1.up hXw10
  have hn2 := hn2.up hXw10
  have ho3 := ho3.up hXw10
  have hn4 := hn4.up hXw10
  have ho5 := ho5.up hXw10
  have hn6 := hn6.up hXw10
  have ho7 := ho7.up hXw10
  have hn8 := hn8.up hXw10
  have ho9 := ho9.up hXw10
  have hn10 := hn10.up hXw10
  refine WL.pureG rfl rfl rfl rfl rfl (PV.not rfl) ?_
  refine WL.pure rfl rfl rfl (PV.pickF rfl rfl) ?_
  refine WL.pure rfl rfl rfl (PV.move rfl) ?_
  refine WL.split (t := 65) rfl (fun hc6 => ?_) (fun hc6 => ?_)
  · skip
    try simp only [decide_eq_true_eq, decide_eq_false_iff_not, Bool.not_eq_true', Bool.not_eq_false', Bool.not_eq_eq_eq_not, Bool.not_true, Bool.not_false, Int.not_lt, Int.not_le, Classical.not_not, beq_iff_eq, beq_eq_false_iff_ne] at hc6
    refine WL.skip rfl rfl rfl rfl rfl ?_
    refine WL.skip rfl rfl rfl rfl rfl ?_
    refine WL.skip rfl rfl rfl rfl rfl ?_
    refine WL.pure rfl rfl rfl (PV.pickT rfl rfl) ?_
    refine WL.nilS ?_
    refine CW.condT rfl ?_
    refine CW.seq ?_
    refine CW.reg ?_
    refine WL.pure rfl rfl rfl (PV.assign rfl) ?_
    refine WL.nilS ?_
    refine CW.ret ?_
    refine RQ.then ?_
    refine RQ.r1 rfl ?_
    refine ⟨?_, hB⟩
    first | rfl | (exfalso; revert hc6; simp; done) | (exfalso; revert hc6; simp; omega) | (exfalso; omega) | first | rfl | exact bT (by omega) | exact bF (by omega) | exact bD (by omega) | exact iE (by omega) | (simp_all; done) | (simp_all; omega) | (simp_all; intros; omega)
  try simp only [decide_eq_true_eq, decide_eq_false_iff_not, Bool.not_eq_true', Bool.not_eq_false', Bool.not_eq_eq_eq_not, Bool.not_true, Bool.not_false, Int.not_lt, Int.not_le, Classical.not_not, beq_iff_eq, beq_eq_false_iff_ne] at hc6
  refine WL.pureG rfl rfl rfl rfl rfl (PV.move rfl) ?_
  refine WL.pureG rfl rfl rfl rfl rfl (PV.move rfl) ?_
  refine WL.pureG rfl rfl rfl rfl rfl (PV.neqB T.bl4 rfl rfl) ?_
  refine WL.pure rfl rfl rfl (PV.pickF rfl rfl) ?_
  refine WL.nilS ?_
  refine CW.cond rfl (fun hc7 => ?_) (fun hc7 => ?_)
  · skip
    try simp only [decide_eq_true_eq, decide_eq_false_iff_not, Bool.not_eq_true', Bool.not_eq_false', Bool.not_eq_eq_eq_not, Bool.not_true, Bool.not_false, Int.not_lt, Int.not_le, Classical.not_not, beq_iff_eq, beq_eq_false_iff_ne] at hc7
    refine CW.seq ?_
    refine CW.reg ?_
    refine WL.pure rfl rfl rfl (PV.assign rfl) ?_
    refine WL.nilS ?_
    refine CW.ret ?_
    refine RQ.then ?_
    refine RQ.r1 rfl ?_
    refine ⟨?_, hB⟩
    first | rfl | (exfalso; revert hc7; simp; done) | (exfalso; revert hc7; simp; omega) | (exfalso; omega) | first | rfl | exact bT (by omega) | exact bF (by omega) | exact bD (by omega) | exact iE (by omega) | (simp_all; done) | (simp_all; omega) | (simp_all; intros; omega)
  try simp only [decide_eq_true_eq, decide_eq_false_iff_not, Bool.not_eq_true', Bool.not_eq_false', Bool.not_eq_eq_eq_not, Bool.not_true, Bool.not_false, Int.not_lt, Int.not_le, Classical.not_not, beq_iff_eq, beq_eq_false_iff_ne] at hc7
  refine CW.skipS ?_
  refine CW.seq ?_
  refine CW.reg ?_
  refine WL.pure rfl rfl rfl (PV.assign rfl) ?_
  refine WL.nilS ?_
  refine CW.seq ?_
  refine CW.reg ?_
  refine WL.pure rfl rfl rfl (PV.move rfl) ?_
  refine WL.pure rfl rfl rfl (PV.move rfl) ?_
  refine WL.op rfl (OpK.call rfl T.cf25 rfl (c_laws_markInt64SS ho7 hn8 hd7_8 (by first | assumption | omega | (simp only [marks_len, marksB_len, marksR_len, sumL_marksS, List.length_take]; omega))) (fun rv7 w11 hR => ?_))
  obtain ⟨rfl, hUC12, hinC12⟩ := hR
  have ho1 := ho1.loop hUC12 (DI.all hd1_8)
  have hn2 := hn2.loop hUC12 (DD.all (DD.symm hdd2_8))
  have ho3 := ho3.loop hUC12 (DI.all hd3_8)
  have hn4 := hn4.loop hUC12 (DD.all (DD.symm hdd4_8))
  have ho5 := ho5.loop hUC12 (DI.all hd5_8)
  have hn6 := hn6.loop hUC12 (DD.all (DD.symm hdd6_8))
  have ho7 := ho7.loop hUC12 (DI.all hd7_8)
  have ho9 := ho9.loop hUC12 (DI.all hd8_9)
  have hn10 := hn10.loop hUC12 (DD.all hdd8_10)
  have hB := hB.loop hUC12 (LoI.all hl8)
  have hn8 := hinC12; have hlv8 := hn8.lv
  refine WL.pure rfl rfl rfl (PV.assign rfl) ?_
  refine WL.nilS ?_
  refine CW.seq ?_
  refine CW.reg ?_
  refine WL.pure rfl rfl rfl (PV.assign rfl) ?_
  refine WL.nilS ?_
  refine CW.seq ?_
  refine CW.reg ?_
  refine WL.pure rfl rfl rfl (PV.move rfl) ?_
  refine WL.pure rfl rfl rfl (PV.move rfl) ?_
  refine WL.op rfl (OpK.callR rfl T.cf26 rfl (c_laws_heldInt64SS (by first | assumption | exact Rd.up (by assumption) hB | exact Osl.rd (by assumption) | exact Osn.rdR (by assumption) | exact NL.rd (by assumption) | exact rdII (by assumption) (by assumption) | exact Inn.rd (by assumption) (by omega)) (by first | assumption | omega | (simp only [marks_len, marksB_len, marksR_len, sumL_marksS, List.length_take]; omega))) (fun w12 hXw12 => ?_))
  have hB := hB.trans hXw12
  have ho1 := ho1.up hXw12
  have hn2 := hn2.up hXw12
  have ho3 := ho3.up hXw12
  have hn4 := hn4.up hXw12
  have ho5 := ho5.up hXw12
  have hn6 := hn6.up hXw12
  have ho7 := ho7.up hXw12
  have hn8 := hn8.up hXw12
  have ho9 := ho9.up hXw12
  have hn10 := hn10.up hXw12
  refine WL.pure rfl rfl rfl (PV.assign rfl) ?_
  refine WL.nilS ?_
  refine CW.seq ?_
  refine CW.seq ?_
  refine CW.reg ?_
  refine WL.pure rfl rfl rfl (PV.move rfl) ?_
  refine WL.pure rfl rfl rfl (PV.lss rfl rfl) ?_
  refine WL.nilS ?_
  refine CW.cond rfl (fun hc8 => ?_) (fun hc8 => ?_)
  · skip
    try simp only [decide_eq_true_eq, decide_eq_false_iff_not, Bool.not_eq_true', Bool.not_eq_false', Bool.not_eq_eq_eq_not, Bool.not_true, Bool.not_false, Int.not_lt, Int.not_le, Classical.not_not, beq_iff_eq, beq_eq_false_iff_ne] at hc8
    refine CW.seq ?_
    refine CW.reg ?_
    refine WL.pure rfl rfl rfl (PV.assign rfl) ?_
    refine WL.nilS ?_
    refine CW.ret ?_
    refine RQ.then ?_
    refine RQ.r1 rfl ?_
    refine ⟨?_, hB⟩
    first | rfl | (exfalso; revert hc8; simp; done) | (exfalso; revert hc8; simp; omega) | (exfalso; omega) | first | rfl | exact bT (by omega) | exact bF (by omega) | exact bD (by omega) | exact iE (by omega) | (simp_all; done) | (simp_all; omega) | (simp_all; intros; omega)
  try simp only [decide_eq_true_eq, decide_eq_false_iff_not, Bool.not_eq_true', Bool.not_eq_false', Bool.not_eq_eq_eq_not, Bool.not_true, Bool.not_false, Int.not_lt, Int.not_le, Classical.not_not, beq_iff_eq, beq_eq_false_iff_ne] at hc8
  refine CW.skipS ?_
  refine CW.seq ?_
  refine CW.seq ?_
  refine CW.reg ?_
  refine WL.pure rfl rfl rfl (PV.move rfl) ?_
  refine WL.pure rfl rfl rfl (PV.move rfl) ?_
  refine WL.pure rfl rfl rfl (PV.neq rfl rfl) ?_
  refine WL.nilS ?_
  refine CW.cond rfl (fun hc9 => ?_) (fun hc9 => ?_)
  · skip
    try simp only [decide_eq_true_eq, decide_eq_false_iff_not, Bool.not_eq_true', Bool.not_eq_false', Bool.not_eq_eq_eq_not, Bool.not_true, Bool.not_false, Int.not_lt, Int.not_le, Classical.not_not, beq_iff_eq, beq_eq_false_iff_ne] at hc9
    refine CW.seq ?_
    refine CW.reg ?_
    refine WL.pure rfl rfl rfl (PV.assign rfl) ?_
    refine WL.nilS ?_
    refine CW.ret ?_
    refine RQ.then ?_
    refine RQ.r1 rfl ?_
    refine ⟨?_, hB⟩
    first | rfl | (exfalso; revert hc9; simp; done) | (exfalso; revert hc9; simp; omega) | (exfalso; omega) | first | rfl | exact bT (by omega) | exact bF (by omega) | exact bD (by omega) | exact iE (by omega) | (simp_all; done) | (simp_all; omega) | (simp_all; intros; omega)
  try simp only [decide_eq_true_eq, decide_eq_false_iff_not, Bool.not_eq_true', Bool.not_eq_false', Bool.not_eq_eq_eq_not, Bool.not_true, Bool.not_false, Int.not_lt, Int.not_le, Classical.not_not, beq_iff_eq, beq_eq_false_iff_ne] at hc9
  refine CW.skipS ?_
  refine CW.seq ?_
  refine CW.reg ?_
  refine WL.pure rfl rfl rfl (PV.move rfl) ?_
  refine WL.op rfl (OpK.call rfl T.cf29 rfl (c_laws_toChangeS (by first | assumption | exact Rd.up (by assumption) hB | exact rdCh (by assumption) (by assumption)) (by first | assumption | omega | (simp only [marks_len, marksB_len, marksR_len, sumL_marksS, List.length_take]; omega)) (by first | assumption | omega | (simp only [marks_len, marksB_len, marksR_len, sumL_marksS, List.length_take]; omega))) (fun rv8 w13 hR => ?_))
  obtain ⟨hXw13, v13, og13, vs14, os14, rfl, ho13, hq13, hn14, hq14, hd13_14⟩ := hR
  have hl13 := Lo.up hq13 hB
  have hd1_13 := Dj.lo ho1.ltO hq13
  have hd2_13 := DI.fresh hn2 hq13
  have hd3_13 := Dj.lo ho3.ltO hq13
  have hd4_13 := DI.fresh hn4 hq13
  have hd5_13 := Dj.lo ho5.ltO hq13
  have hd6_13 := DI.fresh hn6 hq13
  have hd7_13 := Dj.lo ho7.ltO hq13
  have hd8_13 := DI.fresh hn8 hq13
  have hd9_13 := Dj.lo ho9.ltO hq13
  have hd10_13 := DI.fresh hn10 hq13
  have hl14 := LoI.up hq14 hB
  have hlv14 := hn14.lv
  have hd1_14 := DI.lo ho1.ltO hq14
  have hdd2_14 := DD.symm (DD.lo hn2 hq14)
  have hd3_14 := DI.lo ho3.ltO hq14
  have hdd4_14 := DD.symm (DD.lo hn4 hq14)
  have hd5_14 := DI.lo ho5.ltO hq14
  have hdd6_14 := DD.symm (DD.lo hn6 hq14)
  have hd7_14 := DI.lo ho7.ltO hq14
  have hdd8_14 := DD.symm (DD.lo hn8 hq14)
  have hd9_14 := DI.lo ho9.ltO hq14
  have hdd10_14 := DD.symm (DD.lo hn10 hq14)
  have hB := hB.trans hXw13
  have ho1 := ho1.up hXw13
  have hn2 := hn2.up hXw13
  have ho3 := ho3.up hXw13
  have hn4 := hn4.up hXw13
  have ho5 := ho5.up hXw13
  have hn6 := hn6.up hXw13
  have ho7 := ho7.up hXw13
  have hn8 := hn8.up hXw13
  have ho9 := ho9.up hXw13
  have hn10 := hn10.up hXw13
  refine WL.pure rfl rfl rfl (PV.move rfl) ?_
  refine WL.pure rfl rfl rfl (PV.move rfl) ?_
  refine WL.op rfl (OpK.call rfl T.cf30 rfl (c_impl_LoosePairs (by first | assumption | exact Rd.up (by assumption) hB | exact rdCh (by assumption) (by assumption))) (fun rv9 w14 hR => ?_))
  obtain ⟨hXw14, v15, og15, vs16, os16, rfl, ho15, hq15, hn16, hq16, hd15_16⟩ := hR
  have hl15 := Lo.up hq15 hB
  have hd1_15 := Dj.lo ho1.ltO hq15
  have hd2_15 := DI.fresh hn2 hq15
  have hd3_15 := Dj.lo ho3.ltO hq15
  have hd4_15 := DI.fresh hn4 hq15
  have hd5_15 := Dj.lo ho5.ltO hq15
  have hd6_15 := DI.fresh hn6 hq15
  have hd7_15 := Dj.lo ho7.ltO hq15
  have hd8_15 := DI.fresh hn8 hq15
  have hd9_15 := Dj.lo ho9.ltO hq15
  have hd10_15 := DI.fresh hn10 hq15
  have hd13_15 := Dj.lo ho13.ltO hq15
  have hd14_15 := DI.fresh hn14 hq15
  have hl16 := LoI.up hq16 hB
  have hlv16 := hn16.lv
  have hd1_16 := DI.lo ho1.ltO hq16
  have hdd2_16 := DD.symm (DD.lo hn2 hq16)
  have hd3_16 := DI.lo ho3.ltO hq16
  have hdd4_16 := DD.symm (DD.lo hn4 hq16)
  have hd5_16 := DI.lo ho5.ltO hq16
  have hdd6_16 := DD.symm (DD.lo hn6 hq16)
  have hd7_16 := DI.lo ho7.ltO hq16
  have hdd8_16 := DD.symm (DD.lo hn8 hq16)
  have hd9_16 := DI.lo ho9.ltO hq16
  have hdd10_16 := DD.symm (DD.lo hn10 hq16)
  have hd13_16 := DI.lo ho13.ltO hq16
  have hdd14_16 := DD.symm (DD.lo hn14 hq16)
  have hB := hB.trans hXw14
  have ho1 := ho1.up hXw14
  have hn2 := hn2.up hXw14
  have ho3 := ho3.up hXw14
  have hn4 := hn4.up hXw14
  have ho5 := ho5.up hXw14
  have hn6 := hn6.up hXw14
  have ho7 := ho7.up hXw14
  have hn8 := hn8.up hXw14
  have ho9 := ho9.up hXw14
  have hn10 := hn10.up hXw14
  have ho13 := ho13.up hXw14
  have hn14 := hn14.up hXw14
  refine WL.pure rfl rfl rfl (PV.move rfl) ?_
  refine WL.pure rfl rfl rfl (PV.extract rfl rfl) ?_
  refine WL.pure rfl rfl rfl (PV.extract rfl rfl) ?_
  refine WL.pure rfl rfl rfl (PV.assign rfl) ?_
  refine WL.pure rfl rfl rfl (PV.assign rfl) ?_
  refine WL.nilS ?_
  refine CW.seq ?_
  refine CW.seq ?_
  refine CW.reg ?_
  refine WL.pure rfl rfl rfl (PV.move rfl) ?_
  refine WL.pure rfl rfl rfl (PV.move rfl) ?_
  refine WL.op rfl (OpK.callR rfl T.cf20 rfl (c_laws_eqInt64SS (by first | assumption | exact Rd.up (by assumption) hB | exact Osl.rd (by assumption) | exact Osn.rdR (by assumption) | exact NL.rd (by assumption) | exact rdII (by assumption) (by assumption) | exact Inn.rd (by assumption) (by omega)) (by first | assumption | exact Rd.up (by assumption) hB | exact Osl.rd (by assumption) | exact Osn.rdR (by assumption) | exact NL.rd (by assumption) | exact rdII (by assumption) (by assumption) | exact Inn.rd (by assumption) (by omega))) (fun w15 hXw15 => ?_))
  have hB := hB.trans hXw15
  have ho1 := ho1.up hXw15
  have hn2 := hn2.up hXw15
  have ho3 := ho3.up hXw15
  have hn4 := hn4.up hXw15
  have ho5 := ho5.up hXw15
  have hn6 := hn6.up hXw15
  have ho7 := ho7.up hXw15
  have hn8 := hn8.up hXw15
  have ho9 := ho9.up hXw15
  have hn10 := hn10.up hXw15
  have ho13 := ho13.up hXw15
  have hn14 := hn14.up hXw15
  have ho15 := ho15.up hXw15
  have hn16 := hn16.up hXw15
  refine WL.pure rfl rfl rfl (PV.not rfl) ?_
  refine WL.pure rfl rfl rfl (PV.move rfl) ?_
  refine WL.split (t := 93) rfl (fun hc10 => ?_) (fun hc10 => ?_)
  · skip
    try simp only [decide_eq_true_eq, decide_eq_false_iff_not, Bool.not_eq_true', Bool.not_eq_false', Bool.not_eq_eq_eq_not, Bool.not_true, Bool.not_false, Int.not_lt, Int.not_le, Classical.not_not, beq_iff_eq, beq_eq_false_iff_ne] at hc10
    refine WL.skip rfl rfl rfl rfl rfl ?_
    refine WL.skip rfl rfl rfl rfl rfl ?_
    refine WL.skip rfl rfl rfl rfl rfl ?_
    refine WL.pure rfl rfl rfl (PV.pickT rfl rfl) ?_
    refine WL.nilS ?_
    refine CW.condT rfl ?_
    refine CW.seq ?_
    refine CW.reg ?_
    refine WL.pure rfl rfl rfl (PV.assign rfl) ?_
    refine WL.nilS ?_
    refine CW.ret ?_
    refine RQ.then ?_
    refine RQ.r1 rfl ?_
    refine ⟨?_, hB⟩
    first | rfl | (exfalso; revert hc10; simp; done) | (exfalso; revert hc10; simp; omega) | (exfalso; omega) | first | rfl | exact bT (by omega) | exact bF (by omega) | exact bD (by omega) | exact iE (by omega) | (simp_all; done) | (simp_all; omega) | (simp_all; intros; omega)
  try simp only [decide_eq_true_eq, decide_eq_false_iff_not, Bool.not_eq_true', Bool.not_eq_false', Bool.not_eq_eq_eq_not, Bool.not_true, Bool.not_false, Int.not_lt, Int.not_le, Classical.not_not, beq_iff_eq, beq_eq_false_iff_ne] at hc10
  refine WL.pureG rfl rfl rfl rfl rfl (PV.move rfl) ?_
  refine WL.pureG rfl rfl rfl rfl rfl (PV.move rfl) ?_
  refine WL.pureG rfl rfl rfl rfl rfl (PV.neqB T.bl4 rfl rfl) ?_
  refine WL.pure rfl rfl rfl (PV.pickF rfl rfl) ?_
  refine WL.nilS ?_
  refine CW.cond rfl (fun hc11 => ?_) (fun hc11 => ?_)
  · skip
    try simp only [decide_eq_true_eq, decide_eq_false_iff_not, Bool.not_eq_true', Bool.not_eq_false', Bool.not_eq_eq_eq_not, Bool.not_true, Bool.not_false, Int.not_lt, Int.not_le, Classical.not_not, beq_iff_eq, beq_eq_false_iff_ne] at hc11
    refine CW.seq ?_
    refine CW.reg ?_
    refine WL.pure rfl rfl rfl (PV.assign rfl) ?_
    refine WL.nilS ?_
    refine CW.ret ?_
    refine RQ.then ?_
    refine RQ.r1 rfl ?_
    refine ⟨?_, hB⟩
    first | rfl | (exfalso; revert hc11; simp; done) | (exfalso; revert hc11; simp; omega) | (exfalso; omega) | first | rfl | exact bT (by omega) | exact bF (by omega) | exact bD (by omega) | exact iE (by omega) | (simp_all; done) | (simp_all; omega) | (simp_all; intros; omega)
  try simp only [decide_eq_true_eq, decide_eq_false_iff_not, Bool.not_eq_true', Bool.not_eq_false', Bool.not_eq_eq_eq_not, Bool.not_true, Bool.not_false, Int.not_lt, Int.not_le, Classical.not_not, beq_iff_eq, beq_eq_false_iff_ne] at hc11
  refine CW.skipS ?_
  refine CW.seq ?_
  refine CW.reg ?_
  refine WL.pure rfl rfl rfl (PV.assign rfl) ?_
  refine WL.nilS ?_
  refine CW.seq ?_
  refine CW.reg ?_
  refine WL.pure rfl rfl rfl (PV.move rfl) ?_
  refine WL.pure rfl rfl rfl (PV.move rfl) ?_
  refine WL.op rfl (OpK.callR rfl T.cf26 rfl (c_laws_heldInt64SS (by first | assumption | exact Rd.up (by assumption) hB | exact Osl.rd (by assumption) | exact Osn.rdR (by assumption) | exact NL.rd (by assumption) | exact rdII (by assumption) (by assumption) | exact Inn.rd (by assumption) (by omega)) (by first | assumption | omega | (simp only [marks_len, marksB_len, marksR_len, sumL_marksS, List.length_take]; omega))) (fun w16 hXw16 => ?_))
  have hB := hB.trans hXw16
  have ho1 := ho1.up hXw16
  have hn2 := hn2.up hXw16
  have ho3 := ho3.up hXw16
  have hn4 := hn4.up hXw16
  have ho5 := ho5.up hXw16
  have hn6 := hn6.up hXw16
  have ho7 := ho7.up hXw16
  have hn8 := hn8.up hXw16
  have ho9 := ho9.up hXw16
  have hn10 := hn10.up hXw16
  have ho13 := ho13.up hXw16
  have hn14 := hn14.up hXw16
  have ho15 := ho15.up hXw16
  have hn16 := hn16.up hXw16
  refine WL.pure rfl rfl rfl (PV.assign rfl) ?_
  refine WL.nilS ?_
  refine CW.seq ?_
  refine CW.seq ?_
  refine CW.reg ?_
  refine WL.pure rfl rfl rfl (PV.move rfl) ?_
  refine WL.pure rfl rfl rfl (PV.lss rfl rfl) ?_
  refine WL.nilS ?_
  refine CW.cond rfl (fun hc12 => ?_) (fun hc12 => ?_)
  · skip
    try simp only [decide_eq_true_eq, decide_eq_false_iff_not, Bool.not_eq_true', Bool.not_eq_false', Bool.not_eq_eq_eq_not, Bool.not_true, Bool.not_false, Int.not_lt, Int.not_le, Classical.not_not, beq_iff_eq, beq_eq_false_iff_ne] at hc12
    refine CW.seq ?_
    refine CW.reg ?_
    refine WL.pure rfl rfl rfl (PV.assign rfl) ?_
    refine WL.nilS ?_
    refine CW.ret ?_
    refine RQ.then ?_
    refine RQ.r1 rfl ?_
    refine ⟨?_, hB⟩
    first | rfl | (exfalso; revert hc12; simp; done) | (exfalso; revert hc12; simp; omega) | (exfalso; omega) | first | rfl | exact bT (by omega) | exact bF (by omega) | exact bD (by omega) | exact iE (by omega) | (simp_all; done) | (simp_all; omega) | (simp_all; intros; omega)
  try simp only [decide_eq_true_eq, decide_eq_false_iff_not, Bool.not_eq_true', Bool.not_eq_false', Bool.not_eq_eq_eq_not, Bool.not_true, Bool.not_false, Int.not_lt, Int.not_le, Classical.not_not, beq_iff_eq, beq_eq_false_iff_ne] at hc12
  refine CW.skipS ?_
  refine CW.seq ?_
  refine CW.seq ?_
  refine CW.reg ?_
  refine WL.pure rfl rfl rfl (PV.move rfl) ?_
  refine WL.pure rfl rfl rfl (PV.move rfl) ?_
  refine WL.pure rfl rfl rfl (PV.neq rfl rfl) ?_
  refine WL.nilS ?_
  refine CW.cond rfl (fun hc13 => ?_) (fun hc13 => ?_)
  · skip
    try simp only [decide_eq_true_eq, decide_eq_false_iff_not, Bool.not_eq_true', Bool.not_eq_false', Bool.not_eq_eq_eq_not, Bool.not_true, Bool.not_false, Int.not_lt, Int.not_le, Classical.not_not, beq_iff_eq, beq_eq_false_iff_ne] at hc13
    refine CW.seq ?_
    refine CW.reg ?_
    refine WL.pure rfl rfl rfl (PV.assign rfl) ?_
    refine WL.nilS ?_
    refine CW.ret ?_
    refine RQ.then ?_
    refine RQ.r1 rfl ?_
    refine ⟨?_, hB⟩
    first | rfl | (exfalso; revert hc13; simp; done) | (exfalso; revert hc13; simp; omega) | (exfalso; omega) | first | rfl | exact bT (by omega) | exact bF (by omega) | exact bD (by omega) | exact iE (by omega) | (simp_all; done) | (simp_all; omega) | (simp_all; intros; omega)
  try simp only [decide_eq_true_eq, decide_eq_false_iff_not, Bool.not_eq_true', Bool.not_eq_false', Bool.not_eq_eq_eq_not, Bool.not_true, Bool.not_false, Int.not_lt, Int.not_le, Classical.not_not, beq_iff_eq, beq_eq_false_iff_ne] at hc13
  refine CW.skipS ?_
  refine CW.seq ?_
  refine CW.reg ?_
  refine WL.pure rfl rfl rfl (PV.assign rfl) ?_
  refine WL.nilS ?_
  refine CW.ret ?_
  refine RQ.r1 rfl ?_
  refine ⟨?_, hB⟩
  first | rfl | (exfalso; revert hc13; simp; done) | (exfalso; revert hc13; simp; omega) | (exfalso; omega) | first | rfl | exact bT (by omega) | exact bF (by omega) | exact bD (by omega) | exact iE (by omega) | (simp_all; done) | (simp_all; omega) | (simp_all; intros; omega)

end Go.Proofs.Ythjeebjgdeldkaa
