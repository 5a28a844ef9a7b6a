/- Walks of the functions that the law FnExactLeastTrees reaches: each says what its function computes. No condition. -/
import Derived.Test.YtfnmkcncofjjkaaProg
import Derived.Test.YtfnmkcncofjjkaaLibM
import Derived.Test.YtfnmkcncofjjkaaPlA
import Derived.Test.YtfnmkcncofjjkaaPlM
import Derived.Test.YtfnmkcncofjjkaaLibN
import Derived.Test.YtfnmkcncofjjkaaLibO
import Derived.Test.YtfnmkcncofjjkaaLibG2
import Derived.Test.YtfnmkcncofjjkaaPlG
import Derived.Test.YtfnmkcncofjjkaaLibR
import Derived.Test.YtfnmkcncofjjkaaPlFt
import Derived.Test.YtfnmkcncofjjkaaLibKp
import Derived.Test.YtfnmkcncofjjkaaLibKa
import Derived.Test.YtfnmkcncofjjkaaPlCl
import Derived.Test.YtfnmkcncofjjkaaPlR
namespace Go.Proofs.Ytfnmkcncofjjkaa.T
open Go Go.WX Go.Proofs

theorem sl22 : slOf Try.prog 22 = some (2, 1, 8) := by kernel_rfl
theorem sl31 : slOf Try.prog 31 = some (4, 1, 1) := by kernel_rfl
theorem fl33_2 : flOf Try.prog 33 2 = some (2, 22, 1) := by kernel_rfl
theorem na22 : naOf Try.prog 22 = true := by kernel_rfl
theorem cf63 : cfOf Try.prog 63 = true := by kernel_rfl
theorem fl33_3 : flOf Try.prog 33 3 = some (3, 22, 1) := by kernel_rfl
theorem fl33_4 : flOf Try.prog 33 4 = some (4, 31, 1) := by kernel_rfl
theorem na31 : naOf Try.prog 31 = true := by kernel_rfl
theorem cf64 : cfOf Try.prog 64 = true := by kernel_rfl
theorem zv2 : zvOf Try.prog 2 = some (.int .i64 0) := by kernel_rfl
theorem na2 : naOf Try.prog 2 = true := by kernel_rfl
theorem sz2 : szOf Try.prog 2 = some 1 := by kernel_rfl
theorem zv4 : zvOf Try.prog 4 = some (.bool false) := by kernel_rfl
theorem na4 : naOf Try.prog 4 = true := by kernel_rfl
theorem sz4 : szOf Try.prog 4 = some 1 := by kernel_rfl
theorem zv36 : zvOf Try.prog 36 = some (.agg #[.int .i64 0, .int .i64 0, .slice none 0 0, .slice none 0 0, .slice none 0 0]) := by kernel_rfl
theorem fl33_0 : flOf Try.prog 33 0 = some (0, 2, 1) := by kernel_rfl
theorem fl36_0 : flOf Try.prog 36 0 = some (0, 2, 1) := by kernel_rfl
theorem fl33_1 : flOf Try.prog 33 1 = some (1, 2, 1) := by kernel_rfl
theorem fl36_1 : flOf Try.prog 36 1 = some (1, 2, 1) := by kernel_rfl
theorem cf16 : cfOf Try.prog 16 = true := by kernel_rfl
theorem fl36_2 : flOf Try.prog 36 2 = some (2, 22, 1) := by kernel_rfl
theorem sz22 : szOf Try.prog 22 = some 1 := by kernel_rfl
theorem fl36_3 : flOf Try.prog 36 3 = some (3, 22, 1) := by kernel_rfl
theorem cf67 : cfOf Try.prog 67 = true := by kernel_rfl
theorem fl36_4 : flOf Try.prog 36 4 = some (4, 31, 1) := by kernel_rfl
theorem sz31 : szOf Try.prog 31 = some 1 := by kernel_rfl
theorem ag36 : agOf Try.prog 36 = some 5 := by kernel_rfl
theorem sz36 : szOf Try.prog 36 = some 5 := by kernel_rfl
theorem mixed : Try.prog.follows .mixedOrders = true := by kernel_rfl
theorem cf72 : cfOf Try.prog 72 = true := by kernel_rfl
theorem sl83 : slOf Try.prog 83 = some (22, 1, 24) := by kernel_rfl
theorem zv22 : zvOf Try.prog 22 = some (.slice none 0 0) := by kernel_rfl
theorem cf78 : cfOf Try.prog 78 = true := by kernel_rfl
theorem cf109 : cfOf Try.prog 109 = true := by kernel_rfl
theorem cf110 : cfOf Try.prog 110 = true := by kernel_rfl
theorem cf65 : cfOf Try.prog 65 = true := by kernel_rfl
theorem bu36 : buOf Try.prog 36 = some ([.int .i64 0, .int .i64 0, .slice none 0 0, .slice none 0 0, .slice none 0 0], [(0, 1), (1, 1), (2, 1), (3, 1), (4, 1)]) := by kernel_rfl
theorem cf74 : cfOf Try.prog 74 = true := by kernel_rfl
theorem cf77 : cfOf Try.prog 77 = true := by kernel_rfl
theorem cf73 : cfOf Try.prog 73 = true := by kernel_rfl
theorem cf105 : cfOf Try.prog 105 = true := by kernel_rfl
theorem fl91_0 : flOf Try.prog 91 0 = some (0, 2, 1) := by kernel_rfl
theorem sl88 : slOf Try.prog 88 = some (91, 4, 32) := by kernel_rfl
theorem ag91 : agOf Try.prog 91 = some 4 := by kernel_rfl
theorem cf108 : cfOf Try.prog 108 = true := by kernel_rfl
theorem cf123 : cfOf Try.prog 123 = true := by kernel_rfl
theorem na88 : naOf Try.prog 88 = true := by kernel_rfl
theorem cf107 : cfOf Try.prog 107 = true := by kernel_rfl
theorem zv91 : zvOf Try.prog 91 = some (.agg #[.int .i64 0, .int .i64 0, .int .i64 0, .int .i64 0]) := by kernel_rfl
theorem sz88 : szOf Try.prog 88 = some 1 := by kernel_rfl
theorem zv88 : zvOf Try.prog 88 = some (.slice none 0 0) := by kernel_rfl
theorem bu91 : buOf Try.prog 91 = some ([.int .i64 0, .int .i64 0, .int .i64 0, .int .i64 0], [(0, 1), (1, 1), (2, 1), (3, 1)]) := by kernel_rfl
theorem cf106 : cfOf Try.prog 106 = true := by kernel_rfl
theorem cf70 : cfOf Try.prog 70 = true := by kernel_rfl
theorem cf127 : cfOf Try.prog 127 = true := by kernel_rfl
theorem us3 : (Try.prog.underlying 3).isSome = true := by kernel_rfl
theorem ik121 : ikOf Try.prog 121 = some .u64 := by kernel_rfl
theorem cf125 : cfOf Try.prog 125 = true := by kernel_rfl
theorem us121 : (Try.prog.underlying 121).isSome = true := by kernel_rfl
theorem ik3 : ikOf Try.prog 3 = some .i64 := by kernel_rfl
theorem cf124 : cfOf Try.prog 124 = true := by kernel_rfl
theorem cf111 : cfOf Try.prog 111 = true := by kernel_rfl
theorem sz91 : szOf Try.prog 91 = some 4 := by kernel_rfl
theorem az145 : azOf Try.prog 145 = some (List.replicate 33 (VI 0)) := by kernel_rfl
theorem ar145 : arOf Try.prog 145 = some (33, 2, 1) := by kernel_rfl
theorem sz145 : szOf Try.prog 145 = some 33 := by kernel_rfl
theorem ag145 : agOf Try.prog 145 = some 33 := by kernel_rfl
theorem ik2 : ikOf Try.prog 2 = some .i64 := by kernel_rfl
theorem cf68 : cfOf Try.prog 68 = true := by kernel_rfl
theorem cf75 : cfOf Try.prog 75 = true := by kernel_rfl
theorem cf79 : cfOf Try.prog 79 = true := by kernel_rfl
theorem cf69 : cfOf Try.prog 69 = true := by kernel_rfl
theorem bl4 : blOf Try.prog 4 = true := by kernel_rfl
theorem cf18 : cfOf Try.prog 18 = true := by kernel_rfl
theorem cf71 : cfOf Try.prog 71 = true := by kernel_rfl
theorem cf21 : cfOf Try.prog 21 = true := by kernel_rfl
theorem cf76 : cfOf Try.prog 76 = true := by kernel_rfl
theorem cf22 : cfOf Try.prog 22 = true := by kernel_rfl
theorem cf80 : cfOf Try.prog 80 = true := by kernel_rfl
theorem ag33 : agOf Try.prog 33 = some 5 := by kernel_rfl
theorem cf23 : cfOf Try.prog 23 = true := by kernel_rfl
theorem cf25 : cfOf Try.prog 25 = true := by kernel_rfl
theorem cf35 : cfOf Try.prog 35 = true := by kernel_rfl
theorem cf36 : cfOf Try.prog 36 = true := by kernel_rfl
theorem cf27 : cfOf Try.prog 27 = true := by kernel_rfl
theorem cf34 : cfOf Try.prog 34 = true := by kernel_rfl
theorem cf37 : cfOf Try.prog 37 = true := by kernel_rfl

end Go.Proofs.Ytfnmkcncofjjkaa.T
namespace Go.Proofs.Ytfnmkcncofjjkaa
open Go Go.WX Go.Proofs
set_option linter.unusedSimpArgs false
set_option linter.unusedVariables false

theorem c_laws_szInt64S {w : World} {va : Value} {xs : List Int} {left : Int} (ha : Rd EI w va xs) (hlf : left ≤ 1048576 ∧ -1 ≤ left) : Calls Try.prog 63 #[va, .int .i64 left] w (Ret1 (RQt (.int .i64 (max (-1) (left - xs.length))) w)) := by
  have hB : Ext w w := Ext.refl w
  have hla := ha.leI
  refine callsOf (vs := [_, _]) Try.func63 rfl Try.ntmps63 rfl rfl ?_
  refine CW.seq ?_
  refine CW.reg ?_
  refine WL.asg rfl rfl ?_
  refine WL.nilS ?_
  refine CW.seq ?_
  refine CW.reg ?_
  refine WL.mv rfl rfl ?_
  refine WL.mv rfl rfl ?_
  refine WL.pure rfl rfl rfl ((by first | exact PV.len rfl (by assumption) T.sl22 | exact PV.lenOs rfl (by assumption) T.sl22 | exact PV.len rfl (NL.rd (by assumption)) T.sl22 | exact PV.len rfl (Inn.rd (by assumption) (by omega)) T.sl22)) ?_
  refine WL.pure rfl rfl rfl (PV.sub rfl rfl (by constructor <;> omega)) ?_
  refine WL.asg rfl rfl ?_
  refine WL.nilS ?_
  refine CW.seq ?_
  refine CW.seq ?_
  refine CW.reg ?_
  refine WL.mv rfl rfl ?_
  refine WL.pure rfl rfl rfl (PV.lss rfl rfl) ?_
  refine WL.nilS ?_
  refine CW.cond rfl (fun hc1 => ?_) (fun hc1 => ?_)
  · skip
    try simp only [nq] at hc1
    refine CW.seq ?_
    refine CW.reg ?_
    refine WL.asg rfl rfl ?_
    refine WL.nilS ?_
    refine CW.ret ?_
    refine RQ.then ?_
    refine RQ.r1 rfl ?_
    refine ⟨?_, hB⟩
    exact iE (by omega)
  try simp only [nq] at hc1
  refine CW.skipS ?_
  refine CW.seq ?_
  refine CW.reg ?_
  refine WL.mv rfl rfl ?_
  refine WL.asg rfl rfl ?_
  refine WL.nilS ?_
  refine CW.ret ?_
  refine RQ.r1 rfl ?_
  refine ⟨?_, hB⟩
  exact iE (by omega)
theorem c_laws_szBoolS {w : World} {va : Value} {xs : List Bool} {left : Int} (ha : Rd EB w va xs) (hlf : left ≤ 1048576 ∧ -1 ≤ left) : Calls Try.prog 64 #[va, .int .i64 left] w (Ret1 (RQt (.int .i64 (max (-1) (left - xs.length))) w)) := by
  have hB : Ext w w := Ext.refl w
  have hla := ha.leI
  refine callsOf (vs := [_, _]) Try.func64 rfl Try.ntmps64 rfl rfl ?_
  refine CW.seq ?_
  refine CW.reg ?_
  refine WL.asg rfl rfl ?_
  refine WL.nilS ?_
  refine CW.seq ?_
  refine CW.reg ?_
  refine WL.mv rfl rfl ?_
  refine WL.mv rfl rfl ?_
  refine WL.pure rfl rfl rfl ((by first | exact PV.len rfl (by assumption) T.sl31 | exact PV.lenOs rfl (by assumption) T.sl31 | exact PV.len rfl (NL.rd (by assumption)) T.sl31 | exact PV.len rfl (Inn.rd (by assumption) (by omega)) T.sl31)) ?_
  refine WL.pure rfl rfl rfl (PV.sub rfl rfl (by constructor <;> omega)) ?_
  refine WL.asg rfl rfl ?_
  refine WL.nilS ?_
  refine CW.seq ?_
  refine CW.seq ?_
  refine CW.reg ?_
  refine WL.mv rfl rfl ?_
  refine WL.pure rfl rfl rfl (PV.lss rfl rfl) ?_
  refine WL.nilS ?_
  refine CW.cond rfl (fun hc1 => ?_) (fun hc1 => ?_)
  · skip
    try simp only [nq] at hc1
    refine CW.seq ?_
    refine CW.reg ?_
    refine WL.asg rfl rfl ?_
    refine WL.nilS ?_
    refine CW.ret ?_
    refine RQ.then ?_
    refine RQ.r1 rfl ?_
    refine ⟨?_, hB⟩
    exact iE (by omega)
  try simp only [nq] at hc1
  refine CW.skipS ?_
  refine CW.seq ?_
  refine CW.reg ?_
  refine WL.mv rfl rfl ?_
  refine WL.asg rfl rfl ?_
  refine WL.nilS ?_
  refine CW.ret ?_
  refine RQ.r1 rfl ?_
  refine ⟨?_, hB⟩
  exact iE (by omega)
theorem c_laws_szTreeMachine {w : World} {a0 : Int} {a1 : Int} {va2 : Value} {xa2 : List Int} {va3 : Value} {xa3 : List Int} {va4 : Value} {xa4 : List Bool} {left : Int} (ha2 : Rd EI w va2 xa2) (ha3 : Rd EI w va3 xa3) (ha4 : Rd EB w va4 xa4) (hlf : left ≤ 1048576 ∧ -1 ≤ left) : Calls Try.prog 23 #[.agg #[.int .i64 a0, .int .i64 a1, va2, va3, va4], .int .i64 left] w (Ret1 (RQt (.int .i64 (max (-1) (left - (xa2.length + xa3.length + xa4.length)))) w)) := by
  have hB : Ext w w := Ext.refl w
  have hla2 := ha2.leI; have hla3 := ha3.leI; have hla4 := ha4.leI
  refine callsOf (vs := [_, _]) Try.func23 rfl Try.ntmps23 rfl rfl ?_
  refine CW.seq ?_
  refine CW.reg ?_
  refine WL.op rfl (OpK.box rfl rfl (by first | exact Rd.cells1 (by assumption) | exact Osl.cells1 (by assumption) | exact Osn.cells1 (by assumption) | exact Rd.cells1 (NL.rd (by assumption)) | exact Inn.cell1 (by assumption) (by omega) | assumption | rfl) (fun b1 w1 hXw1 hb1 hge1 => ?_))
  have hl1 := Lo.new hB hge1
  have hB := hB.trans hXw1
  refine WL.asg rfl rfl ?_
  refine WL.nilS ?_
  refine CW.seq ?_
  refine CW.reg ?_
  refine WL.pure rfl rfl rfl (PV.fieldAddr T.fl33_2 rfl hb1.cells) ?_
  refine WL.pure rfl rfl rfl (PV.load1 T.na22 rfl hb1.cells (Ext.refl _) rfl) ?_
  refine WL.mv rfl rfl ?_
  refine WL.op rfl (OpK.callR rfl T.cf63 rfl (c_laws_szInt64S (by first | assumption | exact Rd.up (by assumption) hB | exact Osl.rd (by assumption) | exact Osn.rdR (by assumption) | exact NL.rd (by assumption) | exact rdII (by assumption) (by assumption) | exact Inn.rd (by assumption) (by omega)) (by first | assumption | omega | (simp only [marks_len, marksB_len, marksR_len]; omega))) (fun w2 hXw2 => ?_))
  have hB := hB.trans hXw2
  have hb1 := hb1.up hXw2
  refine WL.asg rfl rfl ?_
  refine WL.nilS ?_
  refine CW.seq ?_
  refine CW.seq ?_
  refine CW.reg ?_
  refine WL.mv rfl rfl ?_
  refine WL.pure rfl rfl rfl (PV.lss rfl rfl) ?_
  refine WL.nilS ?_
  refine CW.cond rfl (fun hc1 => ?_) (fun hc1 => ?_)
  · skip
    try simp only [nq] at hc1
    refine CW.seq ?_
    refine CW.reg ?_
    refine WL.asg rfl rfl ?_
    refine WL.nilS ?_
    refine CW.ret ?_
    refine RQ.then ?_
    refine RQ.r1 rfl ?_
    refine ⟨?_, hB⟩
    exact iE (by omega)
  try simp only [nq] at hc1
  refine CW.skipS ?_
  refine CW.seq ?_
  refine CW.reg ?_
  refine WL.pure rfl rfl rfl (PV.fieldAddr T.fl33_3 rfl hb1.cells) ?_
  refine WL.pure rfl rfl rfl (PV.load1 T.na22 rfl hb1.cells (Ext.refl _) rfl) ?_
  refine WL.mv rfl rfl ?_
  refine WL.op rfl (OpK.callR rfl T.cf63 rfl (c_laws_szInt64S (by first | assumption | exact Rd.up (by assumption) hB | exact Osl.rd (by assumption) | exact Osn.rdR (by assumption) | exact NL.rd (by assumption) | exact rdII (by assumption) (by assumption) | exact Inn.rd (by assumption) (by omega)) (by first | assumption | omega | (simp only [marks_len, marksB_len, marksR_len]; omega))) (fun w3 hXw3 => ?_))
  have hB := hB.trans hXw3
  have hb1 := hb1.up hXw3
  refine WL.asg rfl rfl ?_
  refine WL.nilS ?_
  refine CW.seq ?_
  refine CW.seq ?_
  refine CW.reg ?_
  refine WL.mv rfl rfl ?_
  refine WL.pure rfl rfl rfl (PV.lss rfl rfl) ?_
  refine WL.nilS ?_
  refine CW.cond rfl (fun hc2 => ?_) (fun hc2 => ?_)
  · skip
    try simp only [nq] at hc2
    refine CW.seq ?_
    refine CW.reg ?_
    refine WL.asg rfl rfl ?_
    refine WL.nilS ?_
    refine CW.ret ?_
    refine RQ.then ?_
    refine RQ.r1 rfl ?_
    refine ⟨?_, hB⟩
    exact iE (by omega)
  try simp only [nq] at hc2
  refine CW.skipS ?_
  refine CW.seq ?_
  refine CW.reg ?_
  refine WL.pure rfl rfl rfl (PV.fieldAddr T.fl33_4 rfl hb1.cells) ?_
  refine WL.pure rfl rfl rfl (PV.load1 T.na31 rfl hb1.cells (Ext.refl _) rfl) ?_
  refine WL.mv rfl rfl ?_
  refine WL.op rfl (OpK.callR rfl T.cf64 rfl (c_laws_szBoolS (by first | assumption | exact Rd.up (by assumption) hB | exact Osl.rd (by assumption) | exact Osn.rdR (by assumption) | exact NL.rd (by assumption) | exact rdII (by assumption) (by assumption) | exact Inn.rd (by assumption) (by omega)) (by first | assumption | omega | (simp only [marks_len, marksB_len, marksR_len]; omega))) (fun w4 hXw4 => ?_))
  have hB := hB.trans hXw4
  have hb1 := hb1.up hXw4
  refine WL.asg rfl rfl ?_
  refine WL.nilS ?_
  refine CW.seq ?_
  refine CW.seq ?_
  refine CW.reg ?_
  refine WL.mv rfl rfl ?_
  refine WL.pure rfl rfl rfl (PV.lss rfl rfl) ?_
  refine WL.nilS ?_
  refine CW.cond rfl (fun hc3 => ?_) (fun hc3 => ?_)
  · skip
    try simp only [nq] at hc3
    refine CW.seq ?_
    refine CW.reg ?_
    refine WL.asg rfl rfl ?_
    refine WL.nilS ?_
    refine CW.ret ?_
    refine RQ.then ?_
    refine RQ.r1 rfl ?_
    refine ⟨?_, hB⟩
    exact iE (by omega)
  try simp only [nq] at hc3
  refine CW.skipS ?_
  refine CW.seq ?_
  refine CW.reg ?_
  refine WL.mv rfl rfl ?_
  refine WL.asg rfl rfl ?_
  refine WL.nilS ?_
  refine CW.ret ?_
  refine RQ.r1 rfl ?_
  refine ⟨?_, hB⟩
  exact iE (by omega)
theorem c_laws_toInt64S {w : World} {va : Value} {xs : List Int} (ha : Rd EI w va xs) (hN : xs.length ≤ 1048576) : Calls Try.prog 16 #[va] w (Ret1 (fun v w' => Ext w w' ∧ ∃ v1 og_v1, v = v1 ∧ Osl VI w' og_v1 v1 (xs) ∧ Lo w og_v1)) := by
  have hB : Ext w w := Ext.refl w
  have hla := ha.leI
  refine callsOf (vs := [_]) Try.func16 rfl Try.ntmps16 rfl rfl ?_
  refine CW.seq ?_
  refine CW.reg ?_
  refine WL.asg rfl rfl ?_
  refine WL.nilS ?_
  refine CW.seq ?_
  refine CW.reg ?_
  refine WL.mv rfl rfl ?_
  refine WL.pure rfl rfl rfl ((by first | exact PV.len rfl (by assumption) T.sl22 | exact PV.lenOs rfl (by assumption) T.sl22 | exact PV.len rfl (NL.rd (by assumption)) T.sl22 | exact PV.len rfl (Inn.rd (by assumption) (by omega)) T.sl22)) ?_
  first
    | refine WL.op rfl (OpK.makeS VI (0) rfl T.sl22 T.zv2 rfl rfl rfl (by constructor <;> omega) (fun v1 g1 w1 hXw1 ho1 hge1 => ?_))
    | refine WL.op rfl (OpK.makeSZ VI (0) rfl T.sl22 T.zv2 rfl rfl rfl (by omega) (by constructor <;> omega) (fun v1 g1 w1 hXw1 ho1 hge1 => ?_))
  have hl1 := Lo.new hB hge1
  have hB := hB.trans hXw1
  refine WL.asg rfl rfl ?_
  refine WL.nilS ?_
  refine CW.seq ?_
  refine CW.seq ?_
  refine CW.reg ?_
  refine WL.asg rfl rfl ?_
  refine WL.nilS ?_
  refine CW.block ?_
  have hlt1 := ho1.ltO
  refine CW.loop (σk := [(0, _), (3, _)]) (fun ρ wz m => ∃ (k : Nat), ρ = [(4, .int .i64 (k : Nat))] ∧ m = xs.length - k ∧ UpdL [(some g1)] w1 wz ∧ Osl VI wz (some g1) v1 (xs.take k ++ List.replicate (xs.length - k) (0 : Int)) ∧ (k ≤ xs.length)) (ρ₀ := [(4, _)]) (m₀ := _) ⟨rfl, rfl, rfl, trivial⟩ ⟨0, rfl, rfl, (UpdL.refl _ _), osE ho1 (by first | rfl | (simp_all; done) | (simp_all; omega)), (by first | omega | rfl | (simp; done) | assumption | (simp_all; done))⟩ ?_
  rintro _ wl1 _ ⟨k, rfl, rfl, hU0, ho1, hk⟩
  have hk0_1 : OkB [(some g1)] w1 (some g1) := OkB.mem (by simp)
  have hB := hB.loop hU0 ⟨hl1, trivial⟩
  refine CW.seq ?_
  refine CW.seq ?_
  refine CW.reg ?_
  refine WL.mv rfl rfl ?_
  refine WL.mv rfl rfl ?_
  refine WL.pure rfl rfl rfl ((by first | exact PV.len rfl (by assumption) T.sl22 | exact PV.lenOs rfl (by assumption) T.sl22 | exact PV.len rfl (NL.rd (by assumption)) T.sl22 | exact PV.len rfl (Inn.rd (by assumption) (by omega)) T.sl22)) ?_
  refine WL.pure rfl rfl rfl (PV.lss rfl rfl) ?_
  refine WL.nilS ?_
  refine CW.cond rfl (fun hc1 => ?_) (fun hc1 => ?_)
  · skip
    try simp only [nq] at hc1
    refine CW.skipS ?_
    refine CW.seq ?_
    refine CW.block ?_
    refine CW.reg ?_
    refine WL.mv rfl rfl ?_
    refine WL.mv rfl rfl ?_
    refine WL.mv rfl rfl ?_
    refine WL.mv rfl rfl ?_
    first
      | refine WL.at (x := .tmp 16) (y := .tmp 17) (E := EI) (0) rfl rfl (by first | assumption | exact Inn.rd (by assumption) (by omega)) (by first | omega | (simp only [List.length_set]; omega) | (simp only [List.length_append, List.length_take, List.length_replicate, List.length_drop]; omega)) (fun p1 csp1 hpp1 hcp1 hq => ?_)
      | refine WL.atZ (x := .tmp 16) (y := .tmp 17) (E := EI) (0) rfl rfl (by first | assumption | exact Inn.rd (by assumption) (by omega)) (by first | omega | (simp only [List.length_set]; omega) | (simp only [List.length_append, List.length_take, List.length_replicate, List.length_drop]; omega)) (fun p1 csp1 hpp1 hzp1 hcp1 hq => ?_)
    cases hq
    refine WL.pure rfl rfl rfl ((by first | exact PV.indexAddr hpp1 rfl rfl T.sl22 | exact PV.indexAddr hpp1 rfl (by rw [← hzp1]; rfl) T.sl22)) ?_
    refine WL.pure rfl rfl rfl ((by first | exact PV.load0 T.na2 rfl (by first | exact Cells.up (by assumption) hB | exact Bx.cells (by assumption) | assumption) (Ext.refl _) rfl | exact PV.load1 T.na2 rfl (by first | exact Cells.up (by assumption) hB | exact Bx.cells (by assumption) | assumption) (Ext.refl _) rfl)) ?_
    first
      | refine WL.atO (x := .tmp 14) (y := .tmp 15) (f := VI) (0) rfl rfl ho1 (by first | omega | (simp only [List.length_set]; omega) | (simp only [List.length_append, List.length_take, List.length_replicate, List.length_drop]; omega)) (fun p2 hpp2 hcp2 => ?_)
      | refine WL.atOZ (x := .tmp 14) (y := .tmp 15) (f := VI) (0) rfl rfl ho1 (by first | omega | (simp only [List.length_set]; omega) | (simp only [List.length_append, List.length_take, List.length_replicate, List.length_drop]; omega)) (fun p2 hpp2 hzp2 hcp2 => ?_)
    refine WL.pure rfl rfl rfl ((by first | exact PV.indexAddr hpp2 rfl rfl T.sl22 | exact PV.indexAddr hpp2 rfl (by rw [← hzp2]; rfl) T.sl22)) ?_
    refine WL.op rfl (OpK.storeS VI T.sz2 rfl rfl rfl hpp2 ho1 (fun w2 hXw2 ho1 => ?_))
    have hB := hB.updL hXw2 hl1
    have hU0 := hU0.step hXw2 hk0_1
    refine WL.nil ?_
    refine NQ.block ?_
    refine NQ.then ?_
    refine CW.reg ?_
    refine WL.mv rfl rfl ?_
    refine WL.pure rfl rfl rfl (PV.add rfl rfl (by constructor <;> omega)) ?_
    refine WL.asg rfl rfl ?_
    refine WL.nil ?_
    refine NQ.next (ρ := [(4, _)]) ⟨rfl, rfl, rfl, trivial⟩ ?_
    exact ⟨_, ⟨k + 1, rfl, rfl, hU0, osE ho1 (by exact set_fill (by omega) _ _), (by first | omega | assumption | (simp_all; done) | (simp_all; omega))⟩, by omega⟩
  try simp only [nq] at hc1
  refine CW.exit ?_
  refine XQ.then ?_
  refine XQ.then ?_
  refine XQ.here ?_
  refine NQ.then ?_
  refine CW.seq ?_
  refine CW.reg ?_
  refine WL.mv rfl rfl ?_
  refine WL.asg rfl rfl ?_
  refine WL.nilS ?_
  refine CW.ret ?_
  refine RQ.r1 rfl ?_
  refine ⟨hB, v1, (some g1), ?_, osE ho1 ?_, hl1⟩
  · skip
    rfl
  · skip
    exact fill_done (by omega) _
theorem c_laws_toBoolS {w : World} {va : Value} {xs : List Bool} (ha : Rd EB w va xs) (hN : xs.length ≤ 1048576) : Calls Try.prog 67 #[va] w (Ret1 (fun v w' => Ext w w' ∧ ∃ v1 og_v1, v = v1 ∧ Osl VB w' og_v1 v1 (xs) ∧ Lo w og_v1)) := by
  have hB : Ext w w := Ext.refl w
  have hla := ha.leI
  refine callsOf (vs := [_]) Try.func67 rfl Try.ntmps67 rfl rfl ?_
  refine CW.seq ?_
  refine CW.reg ?_
  refine WL.asg rfl rfl ?_
  refine WL.nilS ?_
  refine CW.seq ?_
  refine CW.reg ?_
  refine WL.mv rfl rfl ?_
  refine WL.pure rfl rfl rfl ((by first | exact PV.len rfl (by assumption) T.sl31 | exact PV.lenOs rfl (by assumption) T.sl31 | exact PV.len rfl (NL.rd (by assumption)) T.sl31 | exact PV.len rfl (Inn.rd (by assumption) (by omega)) T.sl31)) ?_
  first
    | refine WL.op rfl (OpK.makeS VB (false) rfl T.sl31 T.zv4 rfl rfl rfl (by constructor <;> omega) (fun v1 g1 w1 hXw1 ho1 hge1 => ?_))
    | refine WL.op rfl (OpK.makeSZ VB (false) rfl T.sl31 T.zv4 rfl rfl rfl (by omega) (by constructor <;> omega) (fun v1 g1 w1 hXw1 ho1 hge1 => ?_))
  have hl1 := Lo.new hB hge1
  have hB := hB.trans hXw1
  refine WL.asg rfl rfl ?_
  refine WL.nilS ?_
  refine CW.seq ?_
  refine CW.seq ?_
  refine CW.reg ?_
  refine WL.asg rfl rfl ?_
  refine WL.nilS ?_
  refine CW.block ?_
  have hlt1 := ho1.ltO
  refine CW.loop (σk := [(0, _), (3, _)]) (fun ρ wz m => ∃ (k : Nat), ρ = [(4, .int .i64 (k : Nat))] ∧ m = xs.length - k ∧ UpdL [(some g1)] w1 wz ∧ Osl VB wz (some g1) v1 (xs.take k ++ List.replicate (xs.length - k) false) ∧ (k ≤ xs.length)) (ρ₀ := [(4, _)]) (m₀ := _) ⟨rfl, rfl, rfl, trivial⟩ ⟨0, rfl, rfl, (UpdL.refl _ _), osE ho1 (by first | rfl | (simp_all; done) | (simp_all; omega)), (by first | omega | rfl | (simp; done) | assumption | (simp_all; done))⟩ ?_
  rintro _ wl1 _ ⟨k, rfl, rfl, hU0, ho1, hk⟩
  have hk0_1 : OkB [(some g1)] w1 (some g1) := OkB.mem (by simp)
  have hB := hB.loop hU0 ⟨hl1, trivial⟩
  refine CW.seq ?_
  refine CW.seq ?_
  refine CW.reg ?_
  refine WL.mv rfl rfl ?_
  refine WL.mv rfl rfl ?_
  refine WL.pure rfl rfl rfl ((by first | exact PV.len rfl (by assumption) T.sl31 | exact PV.lenOs rfl (by assumption) T.sl31 | exact PV.len rfl (NL.rd (by assumption)) T.sl31 | exact PV.len rfl (Inn.rd (by assumption) (by omega)) T.sl31)) ?_
  refine WL.pure rfl rfl rfl (PV.lss rfl rfl) ?_
  refine WL.nilS ?_
  refine CW.cond rfl (fun hc1 => ?_) (fun hc1 => ?_)
  · skip
    try simp only [nq] at hc1
    refine CW.skipS ?_
    refine CW.seq ?_
    refine CW.block ?_
    refine CW.reg ?_
    refine WL.mv rfl rfl ?_
    refine WL.mv rfl rfl ?_
    refine WL.mv rfl rfl ?_
    refine WL.mv rfl rfl ?_
    first
      | refine WL.at (x := .tmp 16) (y := .tmp 17) (E := EB) (false) rfl rfl (by first | assumption | exact Inn.rd (by assumption) (by omega)) (by first | omega | (simp only [List.length_set]; omega) | (simp only [List.length_append, List.length_take, List.length_replicate, List.length_drop]; omega)) (fun p1 csp1 hpp1 hcp1 hq => ?_)
      | refine WL.atZ (x := .tmp 16) (y := .tmp 17) (E := EB) (false) rfl rfl (by first | assumption | exact Inn.rd (by assumption) (by omega)) (by first | omega | (simp only [List.length_set]; omega) | (simp only [List.length_append, List.length_take, List.length_replicate, List.length_drop]; omega)) (fun p1 csp1 hpp1 hzp1 hcp1 hq => ?_)
    cases hq
    refine WL.pure rfl rfl rfl ((by first | exact PV.indexAddr hpp1 rfl rfl T.sl31 | exact PV.indexAddr hpp1 rfl (by rw [← hzp1]; rfl) T.sl31)) ?_
    refine WL.pure rfl rfl rfl ((by first | exact PV.load0 T.na4 rfl (by first | exact Cells.up (by assumption) hB | exact Bx.cells (by assumption) | assumption) (Ext.refl _) rfl | exact PV.load1 T.na4 rfl (by first | exact Cells.up (by assumption) hB | exact Bx.cells (by assumption) | assumption) (Ext.refl _) rfl)) ?_
    first
      | refine WL.atO (x := .tmp 14) (y := .tmp 15) (f := VB) (false) rfl rfl ho1 (by first | omega | (simp only [List.length_set]; omega) | (simp only [List.length_append, List.length_take, List.length_replicate, List.length_drop]; omega)) (fun p2 hpp2 hcp2 => ?_)
      | refine WL.atOZ (x := .tmp 14) (y := .tmp 15) (f := VB) (false) rfl rfl ho1 (by first | omega | (simp only [List.length_set]; omega) | (simp only [List.length_append, List.length_take, List.length_replicate, List.length_drop]; omega)) (fun p2 hpp2 hzp2 hcp2 => ?_)
    refine WL.pure rfl rfl rfl ((by first | exact PV.indexAddr hpp2 rfl rfl T.sl31 | exact PV.indexAddr hpp2 rfl (by rw [← hzp2]; rfl) T.sl31)) ?_
    refine WL.op rfl (OpK.storeS VB T.sz4 rfl rfl rfl hpp2 ho1 (fun w2 hXw2 ho1 => ?_))
    have hB := hB.updL hXw2 hl1
    have hU0 := hU0.step hXw2 hk0_1
    refine WL.nil ?_
    refine NQ.block ?_
    refine NQ.then ?_
    refine CW.reg ?_
    refine WL.mv rfl rfl ?_
    refine WL.pure rfl rfl rfl (PV.add rfl rfl (by constructor <;> omega)) ?_
    refine WL.asg rfl rfl ?_
    refine WL.nil ?_
    refine NQ.next (ρ := [(4, _)]) ⟨rfl, rfl, rfl, trivial⟩ ?_
    exact ⟨_, ⟨k + 1, rfl, rfl, hU0, osE ho1 (by exact set_fill (by omega) _ _), (by first | omega | assumption | (simp_all; done) | (simp_all; omega))⟩, by omega⟩
  try simp only [nq] at hc1
  refine CW.exit ?_
  refine XQ.then ?_
  refine XQ.then ?_
  refine XQ.here ?_
  refine NQ.then ?_
  refine CW.seq ?_
  refine CW.reg ?_
  refine WL.mv rfl rfl ?_
  refine WL.asg rfl rfl ?_
  refine WL.nilS ?_
  refine CW.ret ?_
  refine RQ.r1 rfl ?_
  refine ⟨hB, v1, (some g1), ?_, osE ho1 ?_, hl1⟩
  · skip
    rfl
  · skip
    exact fill_done (by omega) _
theorem c_laws_toTreeMachine {w : World} {a0 : Int} {a1 : Int} {va2 : Value} {xa2 : List Int} {va3 : Value} {xa3 : List Int} {va4 : Value} {xa4 : List Bool}  (ha2 : Rd EI w va2 xa2) (ha3 : Rd EI w va3 xa3) (ha4 : Rd EB w va4 xa4) (hNa2 : xa2.length ≤ 1048576) (hNa3 : xa3.length ≤ 1048576) (hNa4 : xa4.length ≤ 1048576) : Calls Try.prog 25 #[.agg #[.int .i64 a0, .int .i64 a1, va2, va3, va4]] w (Ret1 (fun v w' => Ext w w' ∧ ∃ u2 og_u2 u3 og_u3 u4 og_u4, v = .agg #[.int .i64 a0, .int .i64 a1, u2, u3, u4] ∧ Osl VI w' og_u2 u2 (xa2) ∧ Lo w og_u2 ∧ Osl VI w' og_u3 u3 (xa3) ∧ Lo w og_u3 ∧ Osl VB w' og_u4 u4 (xa4) ∧ Lo w og_u4 ∧ Dj og_u2 og_u3 ∧ Dj og_u2 og_u4 ∧ Dj og_u3 og_u4)) := by
  have hB : Ext w w := Ext.refl w
  have hla2 := ha2.leI; have hla3 := ha3.leI; have hla4 := ha4.leI
  refine callsOf (vs := [_]) Try.func25 rfl Try.ntmps25 rfl rfl ?_
  refine CW.seq ?_
  refine CW.reg ?_
  refine WL.op rfl (OpK.box rfl rfl (by first | exact Rd.cells1 (by assumption) | exact Osl.cells1 (by assumption) | exact Osn.cells1 (by assumption) | exact Rd.cells1 (NL.rd (by assumption)) | exact Inn.cell1 (by assumption) (by omega) | assumption | rfl) (fun b1 w1 hXw1 hb1 hge1 => ?_))
  have hl1 := Lo.new hB hge1
  have hB := hB.trans hXw1
  refine WL.op rfl (OpK.alloc rfl T.zv36 rfl (fun b2 w2 hXw2 hb2 hge2 => ?_))
  have hl2 := Lo.new hB hge2
  have hd1_2 := Dj.new hb1.ltO hge2
  have hB := hB.trans hXw2
  have hb1 := hb1.up hXw2
  refine WL.nilS ?_
  refine CW.seq ?_
  refine CW.reg ?_
  refine WL.op rfl (OpK.alloc rfl T.zv36 rfl (fun b3 w3 hXw3 hb3 hge3 => ?_))
  have hl3 := Lo.new hB hge3
  have hd1_3 := Dj.new hb1.ltO hge3
  have hd2_3 := Dj.new hb2.ltO hge3
  have hB := hB.trans hXw3
  have hb1 := hb1.up hXw3
  have hb2 := hb2.up hXw3
  refine WL.nilS ?_
  refine CW.seq ?_
  refine CW.reg ?_
  refine WL.pure rfl rfl rfl (PV.fieldAddr T.fl33_0 rfl hb1.cells) ?_
  refine WL.pure rfl rfl rfl (PV.load1 T.na2 rfl hb1.cells (Ext.refl _) rfl) ?_
  refine WL.pure rfl rfl rfl (PV.fieldAddr T.fl36_0 rfl hb3.cells) ?_
  refine WL.op rfl (OpK.storeB T.sz2 rfl rfl (by first | rfl | exact Inn.one1 (by assumption) (by omega) | exact Osl.oneCell (by assumption) | exact Osn.oneCell (by assumption) | exact Rd.oneCell (by assumption) | exact Rd.oneCell (NL.rd (by assumption)) | assumption) hb3 rfl (fun w4 hXw4 hb3 => ?_))
  have hB := hB.updL hXw4 hl3
  have hb1 := hb1.updD hXw4 hd1_3
  have hb2 := hb2.updD hXw4 hd2_3
  refine WL.nilS ?_
  refine CW.seq ?_
  refine CW.reg ?_
  refine WL.pure rfl rfl rfl (PV.fieldAddr T.fl33_1 rfl hb1.cells) ?_
  refine WL.pure rfl rfl rfl (PV.load1 T.na2 rfl hb1.cells (Ext.refl _) rfl) ?_
  refine WL.pure rfl rfl rfl (PV.fieldAddr T.fl36_1 rfl hb3.cells) ?_
  refine WL.op rfl (OpK.storeB T.sz2 rfl rfl (by first | rfl | exact Inn.one1 (by assumption) (by omega) | exact Osl.oneCell (by assumption) | exact Osn.oneCell (by assumption) | exact Rd.oneCell (by assumption) | exact Rd.oneCell (NL.rd (by assumption)) | assumption) hb3 rfl (fun w5 hXw5 hb3 => ?_))
  have hB := hB.updL hXw5 hl3
  have hb1 := hb1.updD hXw5 hd1_3
  have hb2 := hb2.updD hXw5 hd2_3
  refine WL.nilS ?_
  refine CW.seq ?_
  refine CW.reg ?_
  refine WL.pure rfl rfl rfl (PV.fieldAddr T.fl33_2 rfl hb1.cells) ?_
  refine WL.pure rfl rfl rfl (PV.load1 T.na22 rfl hb1.cells (Ext.refl _) rfl) ?_
  refine WL.op rfl (OpK.call rfl T.cf16 rfl (c_laws_toInt64S (by first | assumption | exact Rd.up (by assumption) hB | exact Osl.rd (by assumption) | exact Osn.rdR (by assumption) | exact NL.rd (by assumption) | exact rdII (by assumption) (by assumption) | exact Inn.rd (by assumption) (by omega)) (by first | assumption | omega | (simp only [marks_len, marksB_len, marksR_len]; omega))) (fun rv1 w6 hR => ?_))
  obtain ⟨hXw6, v4, og4, rfl, ho4, hq4⟩ := hR
  have hl4 := Lo.up hq4 hB
  have hd1_4 := Dj.lo hb1.ltO hq4
  have hd2_4 := Dj.lo hb2.ltO hq4
  have hd3_4 := Dj.lo hb3.ltO hq4
  have hB := hB.trans hXw6
  have hb1 := hb1.up hXw6
  have hb2 := hb2.up hXw6
  have hb3 := hb3.up hXw6
  refine WL.pure rfl rfl rfl (PV.fieldAddr T.fl36_2 rfl hb3.cells) ?_
  refine WL.op rfl (OpK.storeB T.sz22 rfl rfl (by first | rfl | exact Inn.one1 (by assumption) (by omega) | exact Osl.oneCell (by assumption) | exact Osn.oneCell (by assumption) | exact Rd.oneCell (by assumption) | exact Rd.oneCell (NL.rd (by assumption)) | assumption) hb3 rfl (fun w7 hXw7 hb3 => ?_))
  have hB := hB.updL hXw7 hl3
  have hb1 := hb1.updD hXw7 hd1_3
  have hb2 := hb2.updD hXw7 hd2_3
  have ho4 := ho4.updD hXw7 (Dj.symm hd3_4)
  refine WL.nilS ?_
  refine CW.seq ?_
  refine CW.reg ?_
  refine WL.pure rfl rfl rfl (PV.fieldAddr T.fl33_3 rfl hb1.cells) ?_
  refine WL.pure rfl rfl rfl (PV.load1 T.na22 rfl hb1.cells (Ext.refl _) rfl) ?_
  refine WL.op rfl (OpK.call rfl T.cf16 rfl (c_laws_toInt64S (by first | assumption | exact Rd.up (by assumption) hB | exact Osl.rd (by assumption) | exact Osn.rdR (by assumption) | exact NL.rd (by assumption) | exact rdII (by assumption) (by assumption) | exact Inn.rd (by assumption) (by omega)) (by first | assumption | omega | (simp only [marks_len, marksB_len, marksR_len]; omega))) (fun rv2 w8 hR => ?_))
  obtain ⟨hXw8, v5, og5, rfl, ho5, hq5⟩ := hR
  have hl5 := Lo.up hq5 hB
  have hd1_5 := Dj.lo hb1.ltO hq5
  have hd2_5 := Dj.lo hb2.ltO hq5
  have hd3_5 := Dj.lo hb3.ltO hq5
  have hd4_5 := Dj.lo ho4.ltO hq5
  have hB := hB.trans hXw8
  have hb1 := hb1.up hXw8
  have hb2 := hb2.up hXw8
  have hb3 := hb3.up hXw8
  have ho4 := ho4.up hXw8
  refine WL.pure rfl rfl rfl (PV.fieldAddr T.fl36_3 rfl hb3.cells) ?_
  refine WL.op rfl (OpK.storeB T.sz22 rfl rfl (by first | rfl | exact Inn.one1 (by assumption) (by omega) | exact Osl.oneCell (by assumption) | exact Osn.oneCell (by assumption) | exact Rd.oneCell (by assumption) | exact Rd.oneCell (NL.rd (by assumption)) | assumption) hb3 rfl (fun w9 hXw9 hb3 => ?_))
  have hB := hB.updL hXw9 hl3
  have hb1 := hb1.updD hXw9 hd1_3
  have hb2 := hb2.updD hXw9 hd2_3
  have ho4 := ho4.updD hXw9 (Dj.symm hd3_4)
  have ho5 := ho5.updD hXw9 (Dj.symm hd3_5)
  refine WL.nilS ?_
  refine CW.seq ?_
  refine CW.reg ?_
  refine WL.pure rfl rfl rfl (PV.fieldAddr T.fl33_4 rfl hb1.cells) ?_
  refine WL.pure rfl rfl rfl (PV.load1 T.na31 rfl hb1.cells (Ext.refl _) rfl) ?_
  refine WL.op rfl (OpK.call rfl T.cf67 rfl (c_laws_toBoolS (by first | assumption | exact Rd.up (by assumption) hB | exact Osl.rd (by assumption) | exact Osn.rdR (by assumption) | exact NL.rd (by assumption) | exact rdII (by assumption) (by assumption) | exact Inn.rd (by assumption) (by omega)) (by first | assumption | omega | (simp only [marks_len, marksB_len, marksR_len]; omega))) (fun rv3 w10 hR => ?_))
  obtain ⟨hXw10, v6, og6, rfl, ho6, hq6⟩ := hR
  have hl6 := Lo.up hq6 hB
  have hd1_6 := Dj.lo hb1.ltO hq6
  have hd2_6 := Dj.lo hb2.ltO hq6
  have hd3_6 := Dj.lo hb3.ltO hq6
  have hd4_6 := Dj.lo ho4.ltO hq6
  have hd5_6 := Dj.lo ho5.ltO hq6
  have hB := hB.trans hXw10
  have hb1 := hb1.up hXw10
  have hb2 := hb2.up hXw10
  have hb3 := hb3.up hXw10
  have ho4 := ho4.up hXw10
  have ho5 := ho5.up hXw10
  refine WL.pure rfl rfl rfl (PV.fieldAddr T.fl36_4 rfl hb3.cells) ?_
  refine WL.op rfl (OpK.storeB T.sz31 rfl rfl (by first | rfl | exact Inn.one1 (by assumption) (by omega) | exact Osl.oneCell (by assumption) | exact Osn.oneCell (by assumption) | exact Rd.oneCell (by assumption) | exact Rd.oneCell (NL.rd (by assumption)) | assumption) hb3 rfl (fun w11 hXw11 hb3 => ?_))
  have hB := hB.updL hXw11 hl3
  have hb1 := hb1.updD hXw11 hd1_3
  have hb2 := hb2.updD hXw11 hd2_3
  have ho4 := ho4.updD hXw11 (Dj.symm hd3_4)
  have ho5 := ho5.updD hXw11 (Dj.symm hd3_5)
  have ho6 := ho6.updD hXw11 (Dj.symm hd3_6)
  refine WL.nilS ?_
  refine CW.seq ?_
  refine CW.reg ?_
  refine WL.pure rfl rfl rfl (PV.loadA T.ag36 rfl hb3.cells (Ext.refl _) rfl) ?_
  refine WL.op rfl (OpK.storeA T.sz36 rfl rfl rfl rfl (by simp [Value.oneCell'] <;> first | done | (repeat' apply And.intro) <;> first | rfl | exact Inn.one1 (by assumption) (by omega) | exact Osl.oneCell (by assumption) | exact Osn.oneCell (by assumption) | exact Rd.oneCell (by assumption) | exact Rd.oneCell (NL.rd (by assumption)) | assumption) hb2 (fun w12 hXw12 hb2 => ?_))
  have hB := hB.updL hXw12 hl2
  have hb1 := hb1.updD hXw12 hd1_2
  have hb3 := hb3.updD hXw12 (Dj.symm hd2_3)
  have ho4 := ho4.updD hXw12 (Dj.symm hd2_4)
  have ho5 := ho5.updD hXw12 (Dj.symm hd2_5)
  have ho6 := ho6.updD hXw12 (Dj.symm hd2_6)
  refine WL.nilS ?_
  refine CW.ret ?_
  refine RQ.rc0 T.ag36 rfl (by first | exact Cells.up (by assumption) hB | exact Bx.cells (by assumption) | assumption) rfl ?_
  refine ⟨hB, rv1, og4, rv2, og5, rv3, og6, ?_, osE ho4 ?_, hl4, osE ho5 ?_, hl5, osE ho6 ?_, hl6, hd4_5, hd4_6, hd5_6⟩
  · skip
    rfl
  · skip
    rfl
  · skip
    rfl
  · skip
    rfl
theorem c_spec_l00In {w : World} {n lo hi : Int} : Calls Try.prog 72 #[.int .i64 n, .int .i64 lo, .int .i64 hi] w (Ret1 (RQt (.bool (decide (lo ≤ n ∧ n ≤ hi))) w)) := by
  have hB : Ext w w := Ext.refl w
  refine callsOf (vs := [_, _, _]) Try.func72 rfl Try.ntmps72 rfl rfl ?_
  refine CW.seq ?_
  refine CW.reg ?_
  refine WL.asg rfl rfl ?_
  refine WL.nilS ?_
  refine CW.seq ?_
  refine CW.reg ?_
  refine WL.mv rfl rfl ?_
  refine WL.mv rfl rfl ?_
  refine WL.pure rfl rfl rfl (PV.geq rfl rfl) ?_
  refine WL.mv rfl rfl ?_
  refine WL.split (t := 10) rfl (fun hc1 => ?_) (fun hc1 => ?_)
  rotate_left
  · skip
    try simp only [nq] at hc1
    refine WL.skip rfl rfl rfl rfl rfl ?_
    refine WL.skip rfl rfl rfl rfl rfl ?_
    refine WL.skip rfl rfl rfl rfl rfl ?_
    refine WL.pure rfl rfl rfl (PV.pickF rfl rfl) ?_
    refine WL.asg rfl rfl ?_
    refine WL.nilS ?_
    refine CW.ret ?_
    refine RQ.r1 rfl ?_
    refine ⟨?_, hB⟩
    first | rfl | exact bT (by omega) | exact bF (by omega) | exact bD (by omega) | exact iE (by omega) | (simp_all; done) | (simp_all; omega) | (simp_all; intros; omega)
  try simp only [nq] at hc1
  refine WL.pureG rfl rfl rfl rfl rfl (PV.move rfl) ?_
  refine WL.pureG rfl rfl rfl rfl rfl (PV.move rfl) ?_
  refine WL.pureG rfl rfl rfl rfl rfl (PV.leq rfl rfl) ?_
  refine WL.pure rfl rfl rfl (PV.pickT rfl rfl) ?_
  refine WL.asg rfl rfl ?_
  refine WL.nilS ?_
  refine CW.ret ?_
  refine RQ.r1 rfl ?_
  refine ⟨?_, hB⟩
  first | rfl | exact bT (by omega) | exact bF (by omega) | exact bD (by omega) | exact iE (by omega) | (simp_all; done) | (simp_all; omega) | (simp_all; intros; omega)
theorem c_spec_l06Trees {w : World} {pa : Addr} {a0 : Int} {a1 : Int} {va2 : Value} {xa2 : List Int} {va3 : Value} {xa3 : List Int} {va4 : Value} {xa4 : List Bool}  (hba : Cells w pa [.int .i64 a0, .int .i64 a1, va2, va3, va4]) (ha2 : Rd EI w va2 xa2) (ha3 : Rd EI w va3 xa3) (ha4 : Rd EB w va4 xa4) : Calls Try.prog 65 #[.pointer (some pa)] w (Ret1 (RQt (.bool (decide ((1 ≤ a0 ∧ a0 ≤ 16) ∧ (1 ≤ a1 ∧ a1 ≤ 4) ∧ (xa2.length : Int) = a1 ∧ (xa3.length : Int) = a0 * a0 ∧ (xa4.length : Int) = a0 ∧ allIn xa2 0 (a0 - 1) = true ∧ allIn xa3 0 (a0 - 1) = true))) w)) := by
  have hB : Ext w w := Ext.refl w
  have hla2 := ha2.leI; have hla3 := ha3.leI; have hla4 := ha4.leI
  refine callsOf (vs := [_]) Try.func65 rfl Try.ntmps65 rfl rfl ?_
  refine CW.seq ?_
  refine CW.reg ?_
  refine WL.asg rfl rfl ?_
  refine WL.nilS ?_
  refine CW.seq ?_
  refine CW.seq ?_
  refine CW.draw T.mixed (by kernel_rfl) (fun _ _ _ _ _ h => h) (fun w8 w9 => Upd none w8 w9) 55 (.take 0 (.take 1 (.take 2 (.take 3 (.must 4 (.take 5 (.take 6 (.split (.take 7 (.take 8 (.take 9 (.take 10 (.take 11 (.take 12 (.take 13 (.take 14 (.take 15 (.take 16 (.take 17 (.take 18 (.take 19 (.take 20 (.take 21 (.take 22 (.take 23 (.take 24 (.take 25 (.take 26 (.take 27 (.take 28 (.take 29 (.take 30 (.take 31 (.take 32 (.take 33 (.take 34 (.take 35 (.take 36 (.take 37 (.take 38 (.take 39 (.take 40 (.take 41 (.take 42 (.take 43 (.take 44 (.take 45 (.take 46 (.take 47 (.take 48 (.take 49 (.take 50 (.take 51 (.take 52 (.take 53 (.take 54 .done)))))))))))))))))))))))))))))))))))))))))))))))) (.take 7 (.take 8 (.take 9 (.take 10 (.must 11 (.take 12 (.take 13 (.take 14 (.split (.take 15 (.take 16 (.take 17 (.take 18 (.take 19 (.take 20 (.take 21 (.take 22 (.take 23 (.take 24 (.take 25 (.take 26 (.take 27 (.take 28 (.take 29 (.take 30 (.take 31 (.take 32 (.take 33 (.take 34 (.take 35 (.take 36 (.take 37 (.take 38 (.take 39 (.take 40 (.take 41 (.take 42 (.take 43 (.take 44 (.take 45 (.take 46 (.take 47 (.take 48 (.take 49 (.take 50 (.take 51 (.take 52 (.take 53 (.take 54 .done)))))))))))))))))))))))))))))))))))))))) (.take 15 (.take 16 (.take 17 (.take 18 (.take 19 (.take 20 (.take 21 (.take 22 (.take 23 (.take 24 (.take 25 (.take 26 (.split (.take 27 (.take 28 (.take 29 (.take 30 (.take 31 (.take 32 (.take 33 (.take 34 (.take 35 (.take 36 (.take 37 (.take 38 (.take 39 (.take 40 (.take 41 (.take 42 (.take 43 (.take 44 (.take 45 (.take 46 (.take 47 (.take 48 (.take 49 (.take 50 (.take 51 (.take 52 (.take 53 (.take 54 .done)))))))))))))))))))))))))))) (.take 27 (.take 28 (.take 29 (.take 30 (.take 31 (.take 32 (.take 33 (.take 34 (.take 35 (.take 36 (.take 37 (.take 38 (.take 39 (.take 40 (.take 41 (.take 42 (.take 43 (.split (.take 44 (.take 45 (.take 46 (.take 47 (.take 48 (.take 49 (.take 50 (.take 51 (.take 52 (.take 53 (.take 54 .done))))))))))) (.take 44 (.take 45 (.take 46 (.take 47 (.take 48 (.take 49 (.take 50 (.take 51 (.take 52 (.take 53 (.take 54 .done))))))))))))))))))))))))))))))))))))))))))))))))))))))))))) (by kernel_rfl) (fun w1 hXd => ?_)
  have hB := hB.trans hXd
  have hBr := hB
  have hS : Upd none w1 w1 := Ext.toUpd (Ext.refl _)
  refine HP.take rfl rfl rfl rfl hS (fun wS hS1 => PV.move rfl) ?_
  refine HP.take rfl rfl rfl rfl hS (fun wS hS1 => PV.nilCheck rfl) ?_
  refine HP.take rfl rfl rfl rfl hS (fun wS hS1 => (by first | exact PV.fieldAddr T.fl36_0 rfl (by first | assumption | exact Bx.cells (by assumption)) | exact PV.fieldAddrP T.fl36_0 rfl rfl)) ?_
  refine HP.take rfl rfl rfl rfl hS (fun wS hS1 => (by first | exact PV.load0 T.na2 rfl (by first | exact Cells.up (by assumption) (hBr.trans hS1) | exact Bx.cells (Bx.updD (by assumption) hS1 (Dj.nlR _)) | exact Cells.upd (by assumption) hS1 (by simp)) (Ext.refl _) rfl | exact PV.load1 T.na2 rfl (by first | exact Cells.up (by assumption) (hBr.trans hS1) | exact Bx.cells (Bx.updD (by assumption) hS1 (Dj.nlR _)) | exact Cells.upd (by assumption) hS1 (by simp)) (Ext.refl _) rfl)) ?_
  refine HP.must rfl rfl (OpK.callR rfl T.cf72 rfl (c_spec_l00In) (fun w2 hXw2 => ?_))
  refine ⟨Upd.trans hS hXw2, ?_⟩
  have hS := Upd.trans hS hXw2
  have hB := hB.trans hXw2
  refine HP.take rfl rfl rfl rfl hS (fun wS hS1 => PV.not rfl) ?_
  refine HP.take rfl rfl rfl rfl hS (fun wS hS1 => PV.move rfl) ?_
  refine HP.split (t := 11) rfl (fun hc1 => ?_) (fun hc1 => ?_)
  · skip
    try simp only [nq] at hc1
    refine HP.skip rfl rfl rfl rfl rfl rfl hS ?_
    refine HP.skip rfl rfl rfl rfl rfl rfl hS ?_
    refine HP.skip rfl rfl rfl rfl rfl rfl hS ?_
    refine HP.skip rfl rfl rfl rfl rfl rfl hS ?_
    refine HP.skip rfl rfl rfl rfl rfl rfl hS ?_
    refine HP.skip rfl rfl rfl rfl rfl rfl hS ?_
    refine HP.take rfl rfl rfl rfl hS (fun wS hS1 => PV.pickT rfl rfl) ?_
    refine HP.take rfl rfl rfl rfl hS (fun wS hS1 => PV.move rfl) ?_
    refine HP.skip rfl rfl rfl rfl rfl rfl hS ?_
    refine HP.skip rfl rfl rfl rfl rfl rfl hS ?_
    refine HP.skip rfl rfl rfl rfl rfl rfl hS ?_
    refine HP.skip rfl rfl rfl rfl rfl rfl hS ?_
    refine HP.skip rfl rfl rfl rfl rfl rfl hS ?_
    refine HP.skip rfl rfl rfl rfl rfl rfl hS ?_
    refine HP.skip rfl rfl rfl rfl rfl rfl hS ?_
    refine HP.skip rfl rfl rfl rfl rfl rfl hS ?_
    refine HP.skip rfl rfl rfl rfl rfl rfl hS ?_
    refine HP.skip rfl rfl rfl rfl rfl rfl hS ?_
    refine HP.take rfl rfl rfl rfl hS (fun wS hS1 => PV.pickT rfl rfl) ?_
    refine HP.take rfl rfl rfl rfl hS (fun wS hS1 => PV.move rfl) ?_
    refine HP.skip rfl rfl rfl rfl rfl rfl hS ?_
    refine HP.skip rfl rfl rfl rfl rfl rfl hS ?_
    refine HP.skip rfl rfl rfl rfl rfl rfl hS ?_
    refine HP.skip rfl rfl rfl rfl rfl rfl hS ?_
    refine HP.skip rfl rfl rfl rfl rfl rfl hS ?_
    refine HP.skip rfl rfl rfl rfl rfl rfl hS ?_
    refine HP.skip rfl rfl rfl rfl rfl rfl hS ?_
    refine HP.skip rfl rfl rfl rfl rfl rfl hS ?_
    refine HP.skip rfl rfl rfl rfl rfl rfl hS ?_
    refine HP.skip rfl rfl rfl rfl rfl rfl hS ?_
    refine HP.skip rfl rfl rfl rfl rfl rfl hS ?_
    refine HP.skip rfl rfl rfl rfl rfl rfl hS ?_
    refine HP.skip rfl rfl rfl rfl rfl rfl hS ?_
    refine HP.skip rfl rfl rfl rfl rfl rfl hS ?_
    refine HP.skip rfl rfl rfl rfl rfl rfl hS ?_
    refine HP.take rfl rfl rfl rfl hS (fun wS hS1 => PV.pickT rfl rfl) ?_
    refine HP.take rfl rfl rfl rfl hS (fun wS hS1 => PV.move rfl) ?_
    refine HP.skip rfl rfl rfl rfl rfl rfl hS ?_
    refine HP.skip rfl rfl rfl rfl rfl rfl hS ?_
    refine HP.skip rfl rfl rfl rfl rfl rfl hS ?_
    refine HP.skip rfl rfl rfl rfl rfl rfl hS ?_
    refine HP.skip rfl rfl rfl rfl rfl rfl hS ?_
    refine HP.skip rfl rfl rfl rfl rfl rfl hS ?_
    refine HP.skip rfl rfl rfl rfl rfl rfl hS ?_
    refine HP.skip rfl rfl rfl rfl rfl rfl hS ?_
    refine HP.skip rfl rfl rfl rfl rfl rfl hS ?_
    refine HP.skip rfl rfl rfl rfl rfl rfl hS ?_
    refine HP.take rfl rfl rfl rfl hS (fun wS hS1 => PV.pickT rfl rfl) ?_
    refine HP.doneS ?_
    refine CW.condT rfl ?_
    refine CW.seq ?_
    refine CW.reg ?_
    refine WL.asg rfl rfl ?_
    refine WL.nilS ?_
    refine CW.ret ?_
    refine RQ.then ?_
    refine RQ.r1 rfl ?_
    refine ⟨?_, hB⟩
    exact bF (by rintro ⟨h1, h2, h3, h4, h5, _⟩; omega)
  try simp only [nq] at hc1
  refine HP.takeG rfl rfl rfl rfl rfl rfl hS (fun wS hS1 => PV.move rfl) ?_
  refine HP.takeG rfl rfl rfl rfl rfl rfl hS (fun wS hS1 => PV.nilCheck rfl) ?_
  refine HP.takeG rfl rfl rfl rfl rfl rfl hS (fun wS hS1 => (by first | exact PV.fieldAddr T.fl36_1 rfl (by first | assumption | exact Bx.cells (by assumption)) | exact PV.fieldAddrP T.fl36_1 rfl rfl)) ?_
  refine HP.takeG rfl rfl rfl rfl rfl rfl hS (fun wS hS1 => (by first | exact PV.load0 T.na2 rfl (by first | exact Cells.up (by assumption) (hBr.trans hS1) | exact Bx.cells (Bx.updD (by assumption) hS1 (Dj.nlR _)) | exact Cells.upd (by assumption) hS1 (by simp)) (Ext.refl _) rfl | exact PV.load1 T.na2 rfl (by first | exact Cells.up (by assumption) (hBr.trans hS1) | exact Bx.cells (Bx.updD (by assumption) hS1 (Dj.nlR _)) | exact Cells.upd (by assumption) hS1 (by simp)) (Ext.refl _) rfl)) ?_
  refine HP.mustG rfl rfl rfl rfl (OpK.callR rfl T.cf72 rfl (c_spec_l00In) (fun w3 hXw3 => ?_))
  refine ⟨Upd.trans hS hXw3, ?_⟩
  have hS := Upd.trans hS hXw3
  have hB := hB.trans hXw3
  refine HP.takeG rfl rfl rfl rfl rfl rfl hS (fun wS hS1 => PV.not rfl) ?_
  refine HP.take rfl rfl rfl rfl hS (fun wS hS1 => PV.pickF rfl rfl) ?_
  refine HP.take rfl rfl rfl rfl hS (fun wS hS1 => PV.move rfl) ?_
  refine HP.split (t := 19) rfl (fun hc2 => ?_) (fun hc2 => ?_)
  · skip
    try simp only [nq] at hc2
    refine HP.skip rfl rfl rfl rfl rfl rfl hS ?_
    refine HP.skip rfl rfl rfl rfl rfl rfl hS ?_
    refine HP.skip rfl rfl rfl rfl rfl rfl hS ?_
    refine HP.skip rfl rfl rfl rfl rfl rfl hS ?_
    refine HP.skip rfl rfl rfl rfl rfl rfl hS ?_
    refine HP.skip rfl rfl rfl rfl rfl rfl hS ?_
    refine HP.skip rfl rfl rfl rfl rfl rfl hS ?_
    refine HP.skip rfl rfl rfl rfl rfl rfl hS ?_
    refine HP.skip rfl rfl rfl rfl rfl rfl hS ?_
    refine HP.skip rfl rfl rfl rfl rfl rfl hS ?_
    refine HP.take rfl rfl rfl rfl hS (fun wS hS1 => PV.pickT rfl rfl) ?_
    refine HP.take rfl rfl rfl rfl hS (fun wS hS1 => PV.move rfl) ?_
    refine HP.skip rfl rfl rfl rfl rfl rfl hS ?_
    refine HP.skip rfl rfl rfl rfl rfl rfl hS ?_
    refine HP.skip rfl rfl rfl rfl rfl rfl hS ?_
    refine HP.skip rfl rfl rfl rfl rfl rfl hS ?_
    refine HP.skip rfl rfl rfl rfl rfl rfl hS ?_
    refine HP.skip rfl rfl rfl rfl rfl rfl hS ?_
    refine HP.skip rfl rfl rfl rfl rfl rfl hS ?_
    refine HP.skip rfl rfl rfl rfl rfl rfl hS ?_
    refine HP.skip rfl rfl rfl rfl rfl rfl hS ?_
    refine HP.skip rfl rfl rfl rfl rfl rfl hS ?_
    refine HP.skip rfl rfl rfl rfl rfl rfl hS ?_
    refine HP.skip rfl rfl rfl rfl rfl rfl hS ?_
    refine HP.skip rfl rfl rfl rfl rfl rfl hS ?_
    refine HP.skip rfl rfl rfl rfl rfl rfl hS ?_
    refine HP.skip rfl rfl rfl rfl rfl rfl hS ?_
    refine HP.take rfl rfl rfl rfl hS (fun wS hS1 => PV.pickT rfl rfl) ?_
    refine HP.take rfl rfl rfl rfl hS (fun wS hS1 => PV.move rfl) ?_
    refine HP.skip rfl rfl rfl rfl rfl rfl hS ?_
    refine HP.skip rfl rfl rfl rfl rfl rfl hS ?_
    refine HP.skip rfl rfl rfl rfl rfl rfl hS ?_
    refine HP.skip rfl rfl rfl rfl rfl rfl hS ?_
    refine HP.skip rfl rfl rfl rfl rfl rfl hS ?_
    refine HP.skip rfl rfl rfl rfl rfl rfl hS ?_
    refine HP.skip rfl rfl rfl rfl rfl rfl hS ?_
    refine HP.skip rfl rfl rfl rfl rfl rfl hS ?_
    refine HP.skip rfl rfl rfl rfl rfl rfl hS ?_
    refine HP.skip rfl rfl rfl rfl rfl rfl hS ?_
    refine HP.take rfl rfl rfl rfl hS (fun wS hS1 => PV.pickT rfl rfl) ?_
    refine HP.doneS ?_
    refine CW.condT rfl ?_
    refine CW.seq ?_
    refine CW.reg ?_
    refine WL.asg rfl rfl ?_
    refine WL.nilS ?_
    refine CW.ret ?_
    refine RQ.then ?_
    refine RQ.r1 rfl ?_
    refine ⟨?_, hB⟩
    exact bF (by rintro ⟨h1, h2, h3, h4, h5, _⟩; omega)
  try simp only [nq] at hc2
  refine HP.takeG rfl rfl rfl rfl rfl rfl hS (fun wS hS1 => PV.move rfl) ?_
  refine HP.takeG rfl rfl rfl rfl rfl rfl hS (fun wS hS1 => PV.nilCheck rfl) ?_
  refine HP.takeG rfl rfl rfl rfl rfl rfl hS (fun wS hS1 => (by first | exact PV.fieldAddr T.fl36_2 rfl (by first | assumption | exact Bx.cells (by assumption)) | exact PV.fieldAddrP T.fl36_2 rfl rfl)) ?_
  refine HP.takeG rfl rfl rfl rfl rfl rfl hS (fun wS hS1 => (by first | exact PV.load0 T.na22 rfl (by first | exact Cells.up (by assumption) (hBr.trans hS1) | exact Bx.cells (Bx.updD (by assumption) hS1 (Dj.nlR _)) | exact Cells.upd (by assumption) hS1 (by simp)) (Ext.refl _) rfl | exact PV.load1 T.na22 rfl (by first | exact Cells.up (by assumption) (hBr.trans hS1) | exact Bx.cells (Bx.updD (by assumption) hS1 (Dj.nlR _)) | exact Cells.upd (by assumption) hS1 (by simp)) (Ext.refl _) rfl)) ?_
  refine HP.takeG rfl rfl rfl rfl rfl rfl hS (fun wS hS1 => (by first | exact PV.len rfl (by assumption) T.sl22 | exact PV.lenOs rfl (by assumption) T.sl22 | exact PV.len rfl (NL.rd (by assumption)) T.sl22 | exact PV.len rfl (Inn.rd (by assumption) (by omega)) T.sl22)) ?_
  refine HP.takeG rfl rfl rfl rfl rfl rfl hS (fun wS hS1 => PV.move rfl) ?_
  refine HP.takeG rfl rfl rfl rfl rfl rfl hS (fun wS hS1 => PV.nilCheck rfl) ?_
  refine HP.takeG rfl rfl rfl rfl rfl rfl hS (fun wS hS1 => (by first | exact PV.fieldAddr T.fl36_1 rfl (by first | assumption | exact Bx.cells (by assumption)) | exact PV.fieldAddrP T.fl36_1 rfl rfl)) ?_
  refine HP.takeG rfl rfl rfl rfl rfl rfl hS (fun wS hS1 => (by first | exact PV.load0 T.na2 rfl (by first | exact Cells.up (by assumption) (hBr.trans hS1) | exact Bx.cells (Bx.updD (by assumption) hS1 (Dj.nlR _)) | exact Cells.upd (by assumption) hS1 (by simp)) (Ext.refl _) rfl | exact PV.load1 T.na2 rfl (by first | exact Cells.up (by assumption) (hBr.trans hS1) | exact Bx.cells (Bx.updD (by assumption) hS1 (Dj.nlR _)) | exact Cells.upd (by assumption) hS1 (by simp)) (Ext.refl _) rfl)) ?_
  refine HP.takeG rfl rfl rfl rfl rfl rfl hS (fun wS hS1 => PV.neq rfl rfl) ?_
  refine HP.take rfl rfl rfl rfl hS (fun wS hS1 => PV.pickF rfl rfl) ?_
  refine HP.take rfl rfl rfl rfl hS (fun wS hS1 => PV.move rfl) ?_
  refine HP.split (t := 31) rfl (fun hc3 => ?_) (fun hc3 => ?_)
  · skip
    try simp only [nq] at hc3
    refine HP.skip rfl rfl rfl rfl rfl rfl hS ?_
    refine HP.skip rfl rfl rfl rfl rfl rfl hS ?_
    refine HP.skip rfl rfl rfl rfl rfl rfl hS ?_
    refine HP.skip rfl rfl rfl rfl rfl rfl hS ?_
    refine HP.skip rfl rfl rfl rfl rfl rfl hS ?_
    refine HP.skip rfl rfl rfl rfl rfl rfl hS ?_
    refine HP.skip rfl rfl rfl rfl rfl rfl hS ?_
    refine HP.skip rfl rfl rfl rfl rfl rfl hS ?_
    refine HP.skip rfl rfl rfl rfl rfl rfl hS ?_
    refine HP.skip rfl rfl rfl rfl rfl rfl hS ?_
    refine HP.skip rfl rfl rfl rfl rfl rfl hS ?_
    refine HP.skip rfl rfl rfl rfl rfl rfl hS ?_
    refine HP.skip rfl rfl rfl rfl rfl rfl hS ?_
    refine HP.skip rfl rfl rfl rfl rfl rfl hS ?_
    refine HP.skip rfl rfl rfl rfl rfl rfl hS ?_
    refine HP.take rfl rfl rfl rfl hS (fun wS hS1 => PV.pickT rfl rfl) ?_
    refine HP.take rfl rfl rfl rfl hS (fun wS hS1 => PV.move rfl) ?_
    refine HP.skip rfl rfl rfl rfl rfl rfl hS ?_
    refine HP.skip rfl rfl rfl rfl rfl rfl hS ?_
    refine HP.skip rfl rfl rfl rfl rfl rfl hS ?_
    refine HP.skip rfl rfl rfl rfl rfl rfl hS ?_
    refine HP.skip rfl rfl rfl rfl rfl rfl hS ?_
    refine HP.skip rfl rfl rfl rfl rfl rfl hS ?_
    refine HP.skip rfl rfl rfl rfl rfl rfl hS ?_
    refine HP.skip rfl rfl rfl rfl rfl rfl hS ?_
    refine HP.skip rfl rfl rfl rfl rfl rfl hS ?_
    refine HP.skip rfl rfl rfl rfl rfl rfl hS ?_
    refine HP.take rfl rfl rfl rfl hS (fun wS hS1 => PV.pickT rfl rfl) ?_
    refine HP.doneS ?_
    refine CW.condT rfl ?_
    refine CW.seq ?_
    refine CW.reg ?_
    refine WL.asg rfl rfl ?_
    refine WL.nilS ?_
    refine CW.ret ?_
    refine RQ.then ?_
    refine RQ.r1 rfl ?_
    refine ⟨?_, hB⟩
    exact bF (by rintro ⟨h1, h2, h3, h4, h5, _⟩; omega)
  try simp only [nq] at hc3
  refine HP.takeG rfl rfl rfl rfl rfl rfl hS (fun wS hS1 => PV.move rfl) ?_
  refine HP.takeG rfl rfl rfl rfl rfl rfl hS (fun wS hS1 => PV.nilCheck rfl) ?_
  refine HP.takeG rfl rfl rfl rfl rfl rfl hS (fun wS hS1 => (by first | exact PV.fieldAddr T.fl36_3 rfl (by first | assumption | exact Bx.cells (by assumption)) | exact PV.fieldAddrP T.fl36_3 rfl rfl)) ?_
  refine HP.takeG rfl rfl rfl rfl rfl rfl hS (fun wS hS1 => (by first | exact PV.load0 T.na22 rfl (by first | exact Cells.up (by assumption) (hBr.trans hS1) | exact Bx.cells (Bx.updD (by assumption) hS1 (Dj.nlR _)) | exact Cells.upd (by assumption) hS1 (by simp)) (Ext.refl _) rfl | exact PV.load1 T.na22 rfl (by first | exact Cells.up (by assumption) (hBr.trans hS1) | exact Bx.cells (Bx.updD (by assumption) hS1 (Dj.nlR _)) | exact Cells.upd (by assumption) hS1 (by simp)) (Ext.refl _) rfl)) ?_
  refine HP.takeG rfl rfl rfl rfl rfl rfl hS (fun wS hS1 => (by first | exact PV.len rfl (by assumption) T.sl22 | exact PV.lenOs rfl (by assumption) T.sl22 | exact PV.len rfl (NL.rd (by assumption)) T.sl22 | exact PV.len rfl (Inn.rd (by assumption) (by omega)) T.sl22)) ?_
  refine HP.takeG rfl rfl rfl rfl rfl rfl hS (fun wS hS1 => PV.move rfl) ?_
  refine HP.takeG rfl rfl rfl rfl rfl rfl hS (fun wS hS1 => PV.nilCheck rfl) ?_
  refine HP.takeG rfl rfl rfl rfl rfl rfl hS (fun wS hS1 => (by first | exact PV.fieldAddr T.fl36_0 rfl (by first | assumption | exact Bx.cells (by assumption)) | exact PV.fieldAddrP T.fl36_0 rfl rfl)) ?_
  refine HP.takeG rfl rfl rfl rfl rfl rfl hS (fun wS hS1 => (by first | exact PV.load0 T.na2 rfl (by first | exact Cells.up (by assumption) (hBr.trans hS1) | exact Bx.cells (Bx.updD (by assumption) hS1 (Dj.nlR _)) | exact Cells.upd (by assumption) hS1 (by simp)) (Ext.refl _) rfl | exact PV.load1 T.na2 rfl (by first | exact Cells.up (by assumption) (hBr.trans hS1) | exact Bx.cells (Bx.updD (by assumption) hS1 (Dj.nlR _)) | exact Cells.upd (by assumption) hS1 (by simp)) (Ext.refl _) rfl)) ?_
  refine HP.takeG rfl rfl rfl rfl rfl rfl hS (fun wS hS1 => PV.move rfl) ?_
  refine HP.takeG rfl rfl rfl rfl rfl rfl hS (fun wS hS1 => PV.nilCheck rfl) ?_
  refine HP.takeG rfl rfl rfl rfl rfl rfl hS (fun wS hS1 => (by first | exact PV.fieldAddr T.fl36_0 rfl (by first | assumption | exact Bx.cells (by assumption)) | exact PV.fieldAddrP T.fl36_0 rfl rfl)) ?_
  refine HP.takeG rfl rfl rfl rfl rfl rfl hS (fun wS hS1 => (by first | exact PV.load0 T.na2 rfl (by first | exact Cells.up (by assumption) (hBr.trans hS1) | exact Bx.cells (Bx.updD (by assumption) hS1 (Dj.nlR _)) | exact Cells.upd (by assumption) hS1 (by simp)) (Ext.refl _) rfl | exact PV.load1 T.na2 rfl (by first | exact Cells.up (by assumption) (hBr.trans hS1) | exact Bx.cells (Bx.updD (by assumption) hS1 (Dj.nlR _)) | exact Cells.upd (by assumption) hS1 (by simp)) (Ext.refl _) rfl)) ?_
  refine HP.takeG rfl rfl rfl rfl rfl rfl hS (fun wS hS1 => PV.mul rfl rfl (by constructor <;> (have hsq := sq16 (s := a0) (by omega); omega))) ?_
  refine HP.takeG rfl rfl rfl rfl rfl rfl hS (fun wS hS1 => PV.neq rfl rfl) ?_
  refine HP.take rfl rfl rfl rfl hS (fun wS hS1 => PV.pickF rfl rfl) ?_
  refine HP.take rfl rfl rfl rfl hS (fun wS hS1 => PV.move rfl) ?_
  refine HP.split (t := 48) rfl (fun hc4 => ?_) (fun hc4 => ?_)
  · skip
    try simp only [nq] at hc4
    refine HP.skip rfl rfl rfl rfl rfl rfl hS ?_
    refine HP.skip rfl rfl rfl rfl rfl rfl hS ?_
    refine HP.skip rfl rfl rfl rfl rfl rfl hS ?_
    refine HP.skip rfl rfl rfl rfl rfl rfl hS ?_
    refine HP.skip rfl rfl rfl rfl rfl rfl hS ?_
    refine HP.skip rfl rfl rfl rfl rfl rfl hS ?_
    refine HP.skip rfl rfl rfl rfl rfl rfl hS ?_
    refine HP.skip rfl rfl rfl rfl rfl rfl hS ?_
    refine HP.skip rfl rfl rfl rfl rfl rfl hS ?_
    refine HP.skip rfl rfl rfl rfl rfl rfl hS ?_
    refine HP.take rfl rfl rfl rfl hS (fun wS hS1 => PV.pickT rfl rfl) ?_
    refine HP.doneS ?_
    refine CW.condT rfl ?_
    refine CW.seq ?_
    refine CW.reg ?_
    refine WL.asg rfl rfl ?_
    refine WL.nilS ?_
    refine CW.ret ?_
    refine RQ.then ?_
    refine RQ.r1 rfl ?_
    refine ⟨?_, hB⟩
    exact bF (by rintro ⟨h1, h2, h3, h4, h5, _⟩; omega)
  try simp only [nq] at hc4
  refine HP.takeG rfl rfl rfl rfl rfl rfl hS (fun wS hS1 => PV.move rfl) ?_
  refine HP.takeG rfl rfl rfl rfl rfl rfl hS (fun wS hS1 => PV.nilCheck rfl) ?_
  refine HP.takeG rfl rfl rfl rfl rfl rfl hS (fun wS hS1 => (by first | exact PV.fieldAddr T.fl36_4 rfl (by first | assumption | exact Bx.cells (by assumption)) | exact PV.fieldAddrP T.fl36_4 rfl rfl)) ?_
  refine HP.takeG rfl rfl rfl rfl rfl rfl hS (fun wS hS1 => (by first | exact PV.load0 T.na31 rfl (by first | exact Cells.up (by assumption) (hBr.trans hS1) | exact Bx.cells (Bx.updD (by assumption) hS1 (Dj.nlR _)) | exact Cells.upd (by assumption) hS1 (by simp)) (Ext.refl _) rfl | exact PV.load1 T.na31 rfl (by first | exact Cells.up (by assumption) (hBr.trans hS1) | exact Bx.cells (Bx.updD (by assumption) hS1 (Dj.nlR _)) | exact Cells.upd (by assumption) hS1 (by simp)) (Ext.refl _) rfl)) ?_
  refine HP.takeG rfl rfl rfl rfl rfl rfl hS (fun wS hS1 => (by first | exact PV.len rfl (by assumption) T.sl31 | exact PV.lenOs rfl (by assumption) T.sl31 | exact PV.len rfl (NL.rd (by assumption)) T.sl31 | exact PV.len rfl (Inn.rd (by assumption) (by omega)) T.sl31)) ?_
  refine HP.takeG rfl rfl rfl rfl rfl rfl hS (fun wS hS1 => PV.move rfl) ?_
  refine HP.takeG rfl rfl rfl rfl rfl rfl hS (fun wS hS1 => PV.nilCheck rfl) ?_
  refine HP.takeG rfl rfl rfl rfl rfl rfl hS (fun wS hS1 => (by first | exact PV.fieldAddr T.fl36_0 rfl (by first | assumption | exact Bx.cells (by assumption)) | exact PV.fieldAddrP T.fl36_0 rfl rfl)) ?_
  refine HP.takeG rfl rfl rfl rfl rfl rfl hS (fun wS hS1 => (by first | exact PV.load0 T.na2 rfl (by first | exact Cells.up (by assumption) (hBr.trans hS1) | exact Bx.cells (Bx.updD (by assumption) hS1 (Dj.nlR _)) | exact Cells.upd (by assumption) hS1 (by simp)) (Ext.refl _) rfl | exact PV.load1 T.na2 rfl (by first | exact Cells.up (by assumption) (hBr.trans hS1) | exact Bx.cells (Bx.updD (by assumption) hS1 (Dj.nlR _)) | exact Cells.upd (by assumption) hS1 (by simp)) (Ext.refl _) rfl)) ?_
  refine HP.takeG rfl rfl rfl rfl rfl rfl hS (fun wS hS1 => PV.neq rfl rfl) ?_
  refine HP.take rfl rfl rfl rfl hS (fun wS hS1 => PV.pickF rfl rfl) ?_
  refine HP.doneS ?_
  refine CW.cond rfl (fun hc5 => ?_) (fun hc5 => ?_)
  · skip
    try simp only [nq] at hc5
    refine CW.seq ?_
    refine CW.reg ?_
    refine WL.asg rfl rfl ?_
    refine WL.nilS ?_
    refine CW.ret ?_
    refine RQ.then ?_
    refine RQ.r1 rfl ?_
    refine ⟨?_, hB⟩
    exact bF (by rintro ⟨h1, h2, h3, h4, h5, _⟩; omega)
  try simp only [nq] at hc5
  refine CW.skipS ?_
  refine CW.seq ?_
  refine CW.seq ?_
  refine CW.reg ?_
  refine WL.asg rfl rfl ?_
  refine WL.nilS ?_
  refine CW.block ?_
  refine CW.loop (σk := [(0, _)]) (fun ρ wz m => ∃ (k : Nat), ρ = [(3, .int .i64 (k : Nat))] ∧ m = xa2.length - k ∧ UpdL [] w3 wz ∧ (k ≤ xa2.length) ∧ (allIn (xa2.take k) 0 (a0 - 1) = true)) (ρ₀ := [(3, _)]) (m₀ := _) ⟨rfl, rfl, trivial⟩ ⟨0, rfl, rfl, (UpdL.refl _ _), (by first | omega | rfl | (simp; done) | assumption | (simp_all; done)), (by exact allIn_zero _ _ _)⟩ ?_
  rintro _ wl1 _ ⟨k, rfl, rfl, hU0, hk, he⟩
  have hB := hB.loop hU0 trivial
  refine CW.seq ?_
  refine CW.seq ?_
  refine CW.reg ?_
  refine WL.mv rfl rfl ?_
  refine WL.mv rfl rfl ?_
  refine WL.pure rfl rfl rfl (PV.nilCheck rfl) ?_
  refine WL.pure rfl rfl rfl ((by first | exact PV.fieldAddr T.fl36_2 rfl (by first | assumption | exact Bx.cells (by assumption)) | exact PV.fieldAddrP T.fl36_2 rfl rfl)) ?_
  refine WL.pure rfl rfl rfl ((by first | exact PV.load0 T.na22 rfl (by first | exact Cells.up (by assumption) hB | exact Bx.cells (by assumption) | assumption) (Ext.refl _) rfl | exact PV.load1 T.na22 rfl (by first | exact Cells.up (by assumption) hB | exact Bx.cells (by assumption) | assumption) (Ext.refl _) rfl)) ?_
  refine WL.pure rfl rfl rfl ((by first | exact PV.len rfl (by assumption) T.sl22 | exact PV.lenOs rfl (by assumption) T.sl22 | exact PV.len rfl (NL.rd (by assumption)) T.sl22 | exact PV.len rfl (Inn.rd (by assumption) (by omega)) T.sl22)) ?_
  refine WL.pure rfl rfl rfl (PV.lss rfl rfl) ?_
  refine WL.nilS ?_
  refine CW.cond rfl (fun hc6 => ?_) (fun hc6 => ?_)
  · skip
    try simp only [nq] at hc6
    refine CW.skipS ?_
    refine CW.seq ?_
    refine CW.block ?_
    refine CW.seq ?_
    refine CW.draw T.mixed (by kernel_rfl) (fun _ _ _ _ _ h => h) (fun w8 w9 => Upd none w8 w9) 14 (.take 0 (.take 1 (.take 2 (.take 3 (.take 4 (.take 5 (.take 6 (.take 7 (.take 8 (.take 9 (.take 10 (.take 11 (.must 12 (.take 13 .done)))))))))))))) (by kernel_rfl) (fun w4 hXd => ?_)
    have hB := hB.trans hXd
    have hU0 := hU0.ext hXd
    have hBr := hB
    have hS : Upd none w4 w4 := Ext.toUpd (Ext.refl _)
    refine HP.take rfl rfl rfl rfl hS (fun wS hS1 => PV.move rfl) ?_
    refine HP.take rfl rfl rfl rfl hS (fun wS hS1 => PV.nilCheck rfl) ?_
    refine HP.take rfl rfl rfl rfl hS (fun wS hS1 => (by first | exact PV.fieldAddr T.fl36_2 rfl (by first | assumption | exact Bx.cells (by assumption)) | exact PV.fieldAddrP T.fl36_2 rfl rfl)) ?_
    refine HP.take rfl rfl rfl rfl hS (fun wS hS1 => (by first | exact PV.load0 T.na22 rfl (by first | exact Cells.up (by assumption) (hBr.trans hS1) | exact Bx.cells (Bx.updD (by assumption) hS1 (Dj.nlR _)) | exact Cells.upd (by assumption) hS1 (by simp)) (Ext.refl _) rfl | exact PV.load1 T.na22 rfl (by first | exact Cells.up (by assumption) (hBr.trans hS1) | exact Bx.cells (Bx.updD (by assumption) hS1 (Dj.nlR _)) | exact Cells.upd (by assumption) hS1 (by simp)) (Ext.refl _) rfl)) ?_
    refine HP.take rfl rfl rfl rfl hS (fun wS hS1 => PV.move rfl) ?_
    first
      | refine HP.at (x := .tmp 72) (y := .tmp 73) (E := EI) (0) rfl rfl (by first | assumption | exact Inn.rd (by assumption) (by omega)) (by first | omega | (simp only [List.length_set]; omega) | (simp only [List.length_append, List.length_take, List.length_replicate, List.length_drop]; omega)) (fun p1 csp1 hpp1 hcp1 hq => ?_)
      | refine HP.atZ (x := .tmp 72) (y := .tmp 73) (E := EI) (0) rfl rfl (by first | assumption | exact Inn.rd (by assumption) (by omega)) (by first | omega | (simp only [List.length_set]; omega) | (simp only [List.length_append, List.length_take, List.length_replicate, List.length_drop]; omega)) (fun p1 csp1 hpp1 hzp1 hcp1 hq => ?_)
    cases hq
    refine HP.take rfl rfl rfl rfl hS (fun wS hS1 => (by first | exact PV.indexAddr hpp1 rfl rfl T.sl22 | exact PV.indexAddr hpp1 rfl (by rw [← hzp1]; rfl) T.sl22)) ?_
    refine HP.take rfl rfl rfl rfl hS (fun wS hS1 => (by first | exact PV.load0 T.na2 rfl (by first | exact Cells.up (by assumption) (hBr.trans hS1) | exact Bx.cells (Bx.updD (by assumption) hS1 (Dj.nlR _)) | exact Cells.upd (by assumption) hS1 (by simp)) (Ext.refl _) rfl | exact PV.load1 T.na2 rfl (by first | exact Cells.up (by assumption) (hBr.trans hS1) | exact Bx.cells (Bx.updD (by assumption) hS1 (Dj.nlR _)) | exact Cells.upd (by assumption) hS1 (by simp)) (Ext.refl _) rfl)) ?_
    refine HP.take rfl rfl rfl rfl hS (fun wS hS1 => PV.move rfl) ?_
    refine HP.take rfl rfl rfl rfl hS (fun wS hS1 => PV.nilCheck rfl) ?_
    refine HP.take rfl rfl rfl rfl hS (fun wS hS1 => (by first | exact PV.fieldAddr T.fl36_0 rfl (by first | assumption | exact Bx.cells (by assumption)) | exact PV.fieldAddrP T.fl36_0 rfl rfl)) ?_
    refine HP.take rfl rfl rfl rfl hS (fun wS hS1 => (by first | exact PV.load0 T.na2 rfl (by first | exact Cells.up (by assumption) (hBr.trans hS1) | exact Bx.cells (Bx.updD (by assumption) hS1 (Dj.nlR _)) | exact Cells.upd (by assumption) hS1 (by simp)) (Ext.refl _) rfl | exact PV.load1 T.na2 rfl (by first | exact Cells.up (by assumption) (hBr.trans hS1) | exact Bx.cells (Bx.updD (by assumption) hS1 (Dj.nlR _)) | exact Cells.upd (by assumption) hS1 (by simp)) (Ext.refl _) rfl)) ?_
    refine HP.take rfl rfl rfl rfl hS (fun wS hS1 => PV.sub rfl rfl (by constructor <;> omega)) ?_
    refine HP.must rfl rfl (OpK.callR rfl T.cf72 rfl (c_spec_l00In) (fun w5 hXw5 => ?_))
    refine ⟨Upd.trans hS hXw5, ?_⟩
    have hS := Upd.trans hS hXw5
    have hB := hB.trans hXw5
    have hU0 := hU0.ext hXw5
    refine HP.take rfl rfl rfl rfl hS (fun wS hS1 => PV.not rfl) ?_
    refine HP.doneS ?_
    refine CW.cond rfl (fun hc7 => ?_) (fun hc7 => ?_)
    · skip
      try simp only [nq] at hc7
      refine CW.seq ?_
      refine CW.reg ?_
      refine WL.asg rfl rfl ?_
      refine WL.nilS ?_
      refine CW.ret ?_
      refine RQ.block ?_
      refine RQ.then ?_
      refine RQ.then ?_
      refine RQ.block ?_
      refine RQ.then ?_
      refine RQ.r1 rfl ?_
      refine ⟨?_, hB⟩
      exact bF (by rintro ⟨h1, h2, h3, h4, h5, h6, _⟩; rw [allIn_bad (k := k) (by omega) (by assumption)] at h6; cases h6)
    try simp only [nq] at hc7
    refine CW.skip ?_
    refine NQ.block ?_
    refine NQ.then ?_
    refine CW.reg ?_
    refine WL.mv rfl rfl ?_
    refine WL.pure rfl rfl rfl (PV.add rfl rfl (by constructor <;> omega)) ?_
    refine WL.asg rfl rfl ?_
    refine WL.nil ?_
    refine NQ.next (ρ := [(3, _)]) ⟨rfl, rfl, trivial⟩ ?_
    exact ⟨_, ⟨k + 1, rfl, rfl, hU0, (by first | omega | assumption | (simp_all; done) | (simp_all; omega)), (by exact allIn_step (by omega) he (by assumption))⟩, by omega⟩
  try simp only [nq] at hc6
  refine CW.exit ?_
  refine XQ.then ?_
  refine XQ.then ?_
  refine XQ.here ?_
  refine NQ.then ?_
  refine CW.seq ?_
  refine CW.seq ?_
  refine CW.reg ?_
  try have hal2 := allIn_all (k := k) (xs := xa2) (by omega) he
  refine WL.asg rfl rfl ?_
  refine WL.nilS ?_
  refine CW.block ?_
  refine CW.loop (σk := [(0, _)]) (fun ρ wz m => ∃ (k : Nat), ρ = [(4, .int .i64 (k : Nat))] ∧ m = xa3.length - k ∧ UpdL [] wl1 wz ∧ (k ≤ xa3.length) ∧ (allIn (xa3.take k) 0 (a0 - 1) = true)) (ρ₀ := [(4, _)]) (m₀ := _) ⟨rfl, rfl, trivial⟩ ⟨0, rfl, rfl, (UpdL.refl _ _), (by first | omega | rfl | (simp; done) | assumption | (simp_all; done)), (by exact allIn_zero _ _ _)⟩ ?_
  rintro _ wl2 _ ⟨k, rfl, rfl, hU1, hk, he⟩
  have hB := hB.loop hU1 trivial
  refine CW.seq ?_
  refine CW.seq ?_
  refine CW.reg ?_
  refine WL.mv rfl rfl ?_
  refine WL.mv rfl rfl ?_
  refine WL.pure rfl rfl rfl (PV.nilCheck rfl) ?_
  refine WL.pure rfl rfl rfl ((by first | exact PV.fieldAddr T.fl36_3 rfl (by first | assumption | exact Bx.cells (by assumption)) | exact PV.fieldAddrP T.fl36_3 rfl rfl)) ?_
  refine WL.pure rfl rfl rfl ((by first | exact PV.load0 T.na22 rfl (by first | exact Cells.up (by assumption) hB | exact Bx.cells (by assumption) | assumption) (Ext.refl _) rfl | exact PV.load1 T.na22 rfl (by first | exact Cells.up (by assumption) hB | exact Bx.cells (by assumption) | assumption) (Ext.refl _) rfl)) ?_
  refine WL.pure rfl rfl rfl ((by first | exact PV.len rfl (by assumption) T.sl22 | exact PV.lenOs rfl (by assumption) T.sl22 | exact PV.len rfl (NL.rd (by assumption)) T.sl22 | exact PV.len rfl (Inn.rd (by assumption) (by omega)) T.sl22)) ?_
  refine WL.pure rfl rfl rfl (PV.lss rfl rfl) ?_
  refine WL.nilS ?_
  refine CW.cond rfl (fun hc8 => ?_) (fun hc8 => ?_)
  · skip
    try simp only [nq] at hc8
    refine CW.skipS ?_
    refine CW.seq ?_
    refine CW.block ?_
    refine CW.seq ?_
    refine CW.draw T.mixed (by kernel_rfl) (fun _ _ _ _ _ h => h) (fun w8 w9 => Upd none w8 w9) 14 (.take 0 (.take 1 (.take 2 (.take 3 (.take 4 (.take 5 (.take 6 (.take 7 (.take 8 (.take 9 (.take 10 (.take 11 (.must 12 (.take 13 .done)))))))))))))) (by kernel_rfl) (fun w6 hXd => ?_)
    have hB := hB.trans hXd
    have hU1 := hU1.ext hXd
    have hBr := hB
    have hS : Upd none w6 w6 := Ext.toUpd (Ext.refl _)
    refine HP.take rfl rfl rfl rfl hS (fun wS hS1 => PV.move rfl) ?_
    refine HP.take rfl rfl rfl rfl hS (fun wS hS1 => PV.nilCheck rfl) ?_
    refine HP.take rfl rfl rfl rfl hS (fun wS hS1 => (by first | exact PV.fieldAddr T.fl36_3 rfl (by first | assumption | exact Bx.cells (by assumption)) | exact PV.fieldAddrP T.fl36_3 rfl rfl)) ?_
    refine HP.take rfl rfl rfl rfl hS (fun wS hS1 => (by first | exact PV.load0 T.na22 rfl (by first | exact Cells.up (by assumption) (hBr.trans hS1) | exact Bx.cells (Bx.updD (by assumption) hS1 (Dj.nlR _)) | exact Cells.upd (by assumption) hS1 (by simp)) (Ext.refl _) rfl | exact PV.load1 T.na22 rfl (by first | exact Cells.up (by assumption) (hBr.trans hS1) | exact Bx.cells (Bx.updD (by assumption) hS1 (Dj.nlR _)) | exact Cells.upd (by assumption) hS1 (by simp)) (Ext.refl _) rfl)) ?_
    refine HP.take rfl rfl rfl rfl hS (fun wS hS1 => PV.move rfl) ?_
    first
      | refine HP.at (x := .tmp 95) (y := .tmp 96) (E := EI) (0) rfl rfl (by first | assumption | exact Inn.rd (by assumption) (by omega)) (by first | omega | (simp only [List.length_set]; omega) | (simp only [List.length_append, List.length_take, List.length_replicate, List.length_drop]; omega)) (fun p2 csp2 hpp2 hcp2 hq => ?_)
      | refine HP.atZ (x := .tmp 95) (y := .tmp 96) (E := EI) (0) rfl rfl (by first | assumption | exact Inn.rd (by assumption) (by omega)) (by first | omega | (simp only [List.length_set]; omega) | (simp only [List.length_append, List.length_take, List.length_replicate, List.length_drop]; omega)) (fun p2 csp2 hpp2 hzp2 hcp2 hq => ?_)
    cases hq
    refine HP.take rfl rfl rfl rfl hS (fun wS hS1 => (by first | exact PV.indexAddr hpp2 rfl rfl T.sl22 | exact PV.indexAddr hpp2 rfl (by rw [← hzp2]; rfl) T.sl22)) ?_
    refine HP.take rfl rfl rfl rfl hS (fun wS hS1 => (by first | exact PV.load0 T.na2 rfl (by first | exact Cells.up (by assumption) (hBr.trans hS1) | exact Bx.cells (Bx.updD (by assumption) hS1 (Dj.nlR _)) | exact Cells.upd (by assumption) hS1 (by simp)) (Ext.refl _) rfl | exact PV.load1 T.na2 rfl (by first | exact Cells.up (by assumption) (hBr.trans hS1) | exact Bx.cells (Bx.updD (by assumption) hS1 (Dj.nlR _)) | exact Cells.upd (by assumption) hS1 (by simp)) (Ext.refl _) rfl)) ?_
    refine HP.take rfl rfl rfl rfl hS (fun wS hS1 => PV.move rfl) ?_
    refine HP.take rfl rfl rfl rfl hS (fun wS hS1 => PV.nilCheck rfl) ?_
    refine HP.take rfl rfl rfl rfl hS (fun wS hS1 => (by first | exact PV.fieldAddr T.fl36_0 rfl (by first | assumption | exact Bx.cells (by assumption)) | exact PV.fieldAddrP T.fl36_0 rfl rfl)) ?_
    refine HP.take rfl rfl rfl rfl hS (fun wS hS1 => (by first | exact PV.load0 T.na2 rfl (by first | exact Cells.up (by assumption) (hBr.trans hS1) | exact Bx.cells (Bx.updD (by assumption) hS1 (Dj.nlR _)) | exact Cells.upd (by assumption) hS1 (by simp)) (Ext.refl _) rfl | exact PV.load1 T.na2 rfl (by first | exact Cells.up (by assumption) (hBr.trans hS1) | exact Bx.cells (Bx.updD (by assumption) hS1 (Dj.nlR _)) | exact Cells.upd (by assumption) hS1 (by simp)) (Ext.refl _) rfl)) ?_
    refine HP.take rfl rfl rfl rfl hS (fun wS hS1 => PV.sub rfl rfl (by constructor <;> omega)) ?_
    refine HP.must rfl rfl (OpK.callR rfl T.cf72 rfl (c_spec_l00In) (fun w7 hXw7 => ?_))
    refine ⟨Upd.trans hS hXw7, ?_⟩
    have hS := Upd.trans hS hXw7
    have hB := hB.trans hXw7
    have hU1 := hU1.ext hXw7
    refine HP.take rfl rfl rfl rfl hS (fun wS hS1 => PV.not rfl) ?_
    refine HP.doneS ?_
    refine CW.cond rfl (fun hc9 => ?_) (fun hc9 => ?_)
    · skip
      try simp only [nq] at hc9
      refine CW.seq ?_
      refine CW.reg ?_
      refine WL.asg rfl rfl ?_
      refine WL.nilS ?_
      refine CW.ret ?_
      refine RQ.block ?_
      refine RQ.then ?_
      refine RQ.then ?_
      refine RQ.block ?_
      refine RQ.then ?_
      refine RQ.r1 rfl ?_
      refine ⟨?_, hB⟩
      exact bF (by rintro ⟨h1, h2, h3, h4, h5, h6, h7⟩; rw [allIn_bad (k := k) (by omega) (by assumption)] at h7; cases h7)
    try simp only [nq] at hc9
    refine CW.skip ?_
    refine NQ.block ?_
    refine NQ.then ?_
    refine CW.reg ?_
    refine WL.mv rfl rfl ?_
    refine WL.pure rfl rfl rfl (PV.add rfl rfl (by constructor <;> omega)) ?_
    try have hal2 := allIn_all (k := k) (xs := xa2) (by omega) he
    refine WL.asg rfl rfl ?_
    refine WL.nil ?_
    refine NQ.next (ρ := [(4, _)]) ⟨rfl, rfl, trivial⟩ ?_
    exact ⟨_, ⟨k + 1, rfl, rfl, hU1, (by first | omega | assumption | (simp_all; done) | (simp_all; omega)), (by exact allIn_step (by omega) he (by assumption))⟩, by omega⟩
  try simp only [nq] at hc8
  refine CW.exit ?_
  refine XQ.then ?_
  refine XQ.then ?_
  refine XQ.here ?_
  refine NQ.then ?_
  refine CW.seq ?_
  refine CW.reg ?_
  refine WL.asg rfl rfl ?_
  refine WL.nilS ?_
  refine CW.ret ?_
  refine RQ.r1 rfl ?_
  refine ⟨?_, hB⟩
  exact bT ⟨by omega, by omega, by omega, by omega, by omega, hal2, allIn_all (k := k) (by omega) he⟩
theorem c_spec_l02Index_in {w : World} {vx : Value} {xs : List Int} {x : Int} (ha : Rd EI w vx xs) (hx : x ∈ xs) : Calls Try.prog 78 #[vx, .int .i64 x] w (Ret1 (RQt (.tuple #[.int .i64 (ixI xs x), vx]) w)) := by
  have hB : Ext w w := Ext.refl w
  have hla := ha.leI
  refine callsOf (vs := [_, _]) Try.func78 rfl Try.ntmps78 rfl rfl ?_
  refine CW.seq ?_
  refine CW.reg ?_
  refine WL.asg rfl rfl ?_
  refine WL.asg rfl rfl ?_
  refine WL.nilS ?_
  refine CW.seq ?_
  refine CW.seq ?_
  refine CW.reg ?_
  refine WL.asg rfl rfl ?_
  refine WL.nilS ?_
  refine CW.block ?_
  refine CW.loop (σk := [(0, _), (1, _)]) (fun ρ wz m => ∃ (k : Nat), ρ = [(6, .int .i64 (k : Nat))] ∧ m = xs.length - k ∧ UpdL [] w wz ∧ (k ≤ xs.length) ∧ (∀ j : Nat, j < k → xs.getD j 0 ≠ x)) (ρ₀ := [(6, _)]) (m₀ := _) ⟨rfl, rfl, rfl, trivial⟩ ⟨0, rfl, rfl, (UpdL.refl _ _), (by first | omega | rfl | (simp; done) | assumption | (simp_all; done)), (by intro j h; omega)⟩ ?_
  rintro _ wl1 _ ⟨k, rfl, rfl, hU0, hk, hno⟩
  have hB := hB.loop hU0 trivial
  refine CW.seq ?_
  refine CW.seq ?_
  refine CW.reg ?_
  refine WL.mv rfl rfl ?_
  refine WL.mv rfl rfl ?_
  refine WL.pure rfl rfl rfl ((by first | exact PV.len rfl (by assumption) T.sl22 | exact PV.lenOs rfl (by assumption) T.sl22 | exact PV.len rfl (NL.rd (by assumption)) T.sl22 | exact PV.len rfl (Inn.rd (by assumption) (by omega)) T.sl22)) ?_
  refine WL.pure rfl rfl rfl (PV.lss rfl rfl) ?_
  refine WL.nilS ?_
  refine CW.cond rfl (fun hc1 => ?_) (fun hc1 => ?_)
  · skip
    try simp only [nq] at hc1
    refine CW.skipS ?_
    refine CW.seq ?_
    refine CW.block ?_
    refine CW.seq ?_
    refine CW.reg ?_
    refine WL.mv rfl rfl ?_
    refine WL.mv rfl rfl ?_
    first
      | refine WL.at (x := .tmp 13) (y := .tmp 14) (E := EI) (0) rfl rfl (by first | assumption | exact Inn.rd (by assumption) (by omega)) (by first | omega | (simp only [List.length_set]; omega) | (simp only [List.length_append, List.length_take, List.length_replicate, List.length_drop]; omega)) (fun p1 csp1 hpp1 hcp1 hq => ?_)
      | refine WL.atZ (x := .tmp 13) (y := .tmp 14) (E := EI) (0) rfl rfl (by first | assumption | exact Inn.rd (by assumption) (by omega)) (by first | omega | (simp only [List.length_set]; omega) | (simp only [List.length_append, List.length_take, List.length_replicate, List.length_drop]; omega)) (fun p1 csp1 hpp1 hzp1 hcp1 hq => ?_)
    cases hq
    refine WL.pure rfl rfl rfl ((by first | exact PV.indexAddr hpp1 rfl rfl T.sl22 | exact PV.indexAddr hpp1 rfl (by rw [← hzp1]; rfl) T.sl22)) ?_
    refine WL.pure rfl rfl rfl ((by first | exact PV.load0 T.na2 rfl (by first | exact Cells.up (by assumption) hB | exact Bx.cells (by assumption) | assumption) (Ext.refl _) rfl | exact PV.load1 T.na2 rfl (by first | exact Cells.up (by assumption) hB | exact Bx.cells (by assumption) | assumption) (Ext.refl _) rfl)) ?_
    refine WL.mv rfl rfl ?_
    refine WL.pure rfl rfl rfl (PV.eql rfl rfl) ?_
    refine WL.nilS ?_
    refine CW.cond rfl (fun hc2 => ?_) (fun hc2 => ?_)
    · skip
      try simp only [nq] at hc2
      refine CW.seq ?_
      refine CW.reg ?_
      refine WL.mv rfl rfl ?_
      refine WL.mv rfl rfl ?_
      refine WL.asg rfl rfl ?_
      refine WL.asg rfl rfl ?_
      refine WL.nilS ?_
      refine CW.ret ?_
      refine RQ.block ?_
      refine RQ.then ?_
      refine RQ.then ?_
      refine RQ.block ?_
      refine RQ.then ?_
      refine RQ.r2 rfl rfl ?_
      refine ⟨?_, hB⟩
      exact tE2 (iE (ixI_hit hno (by omega) (by assumption)).symm) rfl
    try simp only [nq] at hc2
    refine CW.skip ?_
    refine NQ.block ?_
    refine NQ.then ?_
    refine CW.reg ?_
    refine WL.mv rfl rfl ?_
    refine WL.pure rfl rfl rfl (PV.add rfl rfl (by constructor <;> omega)) ?_
    refine WL.asg rfl rfl ?_
    refine WL.nil ?_
    refine NQ.next (ρ := [(6, _)]) ⟨rfl, rfl, rfl, trivial⟩ ?_
    exact ⟨_, ⟨k + 1, rfl, rfl, hU0, (by first | omega | assumption | (simp_all; done) | (simp_all; omega)), (by intro j h; rcases Nat.lt_succ_iff_lt_or_eq.1 h with h | rfl; exact hno j h; assumption)⟩, by omega⟩
  try simp only [nq] at hc1
  exact absurd hx (no_mem hno (by omega))
theorem c_spec_l02Index {w : World} {b : World} {og : Option Nat} {vx : Value} {xs : List Int} {x : Int} (hB0 : Ext b w) (ht_vx : Osl VI w og vx (xs)) (htl_vx : Lo b og) (hN : xs.length ≤ 1000) : Calls Try.prog 78 #[vx, .int .i64 x] w (Ret1 (fun v w' => UpdL [og] w w' ∧ ∃ u og_u, v = .tuple #[.int .i64 (ixI xs x), u] ∧ Osl VI w' og_u u (putI xs x) ∧ OgR w og og_u ∧ Rd (.sc VI) w' vx (xs))) := by
  have hB := hB0
  refine callsOf (vs := [_, _]) Try.func78 rfl Try.ntmps78 rfl rfl ?_
  have hUB : UpdL [og] w w := UpdL.refl _ _
  have ho1 := ht_vx
  have hl1 := htl_vx
  have hkB_1 : OkB [og] w og := OkB.mem (by simp)
  have hgB_1 := OgR.refl w og
  refine CW.seq ?_
  refine CW.reg ?_
  refine WL.asg rfl rfl ?_
  refine WL.asg rfl rfl ?_
  refine WL.nilS ?_
  refine CW.seq ?_
  refine CW.seq ?_
  refine CW.reg ?_
  refine WL.asg rfl rfl ?_
  refine WL.nilS ?_
  refine CW.block ?_
  refine CW.loop (σk := [(0, _), (1, _)]) (fun ρ wz m => ∃ (k : Nat), ρ = [(6, .int .i64 (k : Nat))] ∧ m = xs.length - k ∧ UpdL [] w wz ∧ (k ≤ xs.length) ∧ (∀ j : Nat, j < k → xs.getD j 0 ≠ x)) (ρ₀ := [(6, _)]) (m₀ := _) ⟨rfl, rfl, rfl, trivial⟩ ⟨0, rfl, rfl, (UpdL.refl _ _), (by first | omega | rfl | (simp; done) | assumption | (simp_all; done)), (by intro j h; omega)⟩ ?_
  rintro _ wl1 _ ⟨k, rfl, rfl, hU0, hk, hno⟩
  have hUB := hUB.trans hU0 trivial
  have ho1 := ho1.loop hU0 trivial
  have hB := hB.loop hU0 trivial
  refine CW.seq ?_
  refine CW.seq ?_
  refine CW.reg ?_
  refine WL.mv rfl rfl ?_
  refine WL.mv rfl rfl ?_
  refine WL.pure rfl rfl rfl ((PV.lenOs rfl ho1 T.sl22)) ?_
  refine WL.pure rfl rfl rfl (PV.lss rfl rfl) ?_
  refine WL.nilS ?_
  refine CW.cond rfl (fun hc1 => ?_) (fun hc1 => ?_)
  · skip
    try simp only [nq] at hc1
    refine CW.skipS ?_
    refine CW.seq ?_
    refine CW.block ?_
    refine CW.seq ?_
    refine CW.reg ?_
    refine WL.mv rfl rfl ?_
    refine WL.mv rfl rfl ?_
    first
      | refine WL.atO (x := .tmp 13) (y := .tmp 14) (f := VI) (0) rfl rfl ho1 (by first | omega | (simp only [List.length_set]; omega) | (simp only [List.length_append, List.length_take, List.length_replicate, List.length_drop]; omega)) (fun p1 hpp1 hcp1 => ?_)
      | refine WL.atOZ (x := .tmp 13) (y := .tmp 14) (f := VI) (0) rfl rfl ho1 (by first | omega | (simp only [List.length_set]; omega) | (simp only [List.length_append, List.length_take, List.length_replicate, List.length_drop]; omega)) (fun p1 hpp1 hzp1 hcp1 => ?_)
    refine WL.pure rfl rfl rfl ((by first | exact PV.indexAddr hpp1 rfl rfl T.sl22 | exact PV.indexAddr hpp1 rfl (by rw [← hzp1]; rfl) T.sl22)) ?_
    refine WL.pure rfl rfl rfl ((by first | exact PV.load0 T.na2 rfl (by first | exact Cells.up (by assumption) hB | exact Bx.cells (by assumption) | assumption) (Ext.refl _) rfl | exact PV.load1 T.na2 rfl (by first | exact Cells.up (by assumption) hB | exact Bx.cells (by assumption) | assumption) (Ext.refl _) rfl)) ?_
    refine WL.mv rfl rfl ?_
    refine WL.pure rfl rfl rfl (PV.eql rfl rfl) ?_
    refine WL.nilS ?_
    refine CW.cond rfl (fun hc2 => ?_) (fun hc2 => ?_)
    · skip
      try simp only [nq] at hc2
      refine CW.seq ?_
      refine CW.reg ?_
      refine WL.mv rfl rfl ?_
      refine WL.mv rfl rfl ?_
      refine WL.asg rfl rfl ?_
      refine WL.asg rfl rfl ?_
      refine WL.nilS ?_
      refine CW.ret ?_
      refine RQ.block ?_
      refine RQ.then ?_
      refine RQ.then ?_
      refine RQ.block ?_
      refine RQ.then ?_
      refine RQ.r2 rfl rfl ?_
      refine ⟨hUB, vx, og, ?_, osE ho1 ?_, hgB_1, (by first | assumption | exact Osl.rd (by assumption))⟩
      · skip
        first | exact tE2 (iE (ixI_hit hno (by omega) (by assumption)).symm) rfl | exact tE2 (iE (ixI_no hno (by omega)).symm) rfl
      · skip
        first | exact (putI_has (by rw [← (by assumption : xs.getD k 0 = x)]; exact get_mem (by omega))).symm | exact (putI_new (no_mem hno (by omega))).symm
    try simp only [nq] at hc2
    refine CW.skip ?_
    refine NQ.block ?_
    refine NQ.then ?_
    refine CW.reg ?_
    refine WL.mv rfl rfl ?_
    refine WL.pure rfl rfl rfl (PV.add rfl rfl (by constructor <;> omega)) ?_
    refine WL.asg rfl rfl ?_
    refine WL.nil ?_
    refine NQ.next (ρ := [(6, _)]) ⟨rfl, rfl, rfl, trivial⟩ ?_
    exact ⟨_, ⟨k + 1, rfl, rfl, hU0, (by first | omega | assumption | (simp_all; done) | (simp_all; omega)), (by intro j h; rcases Nat.lt_succ_iff_lt_or_eq.1 h with h | rfl; exact hno j h; assumption)⟩, by omega⟩
  try simp only [nq] at hc1
  refine CW.exit ?_
  refine XQ.then ?_
  refine XQ.then ?_
  refine XQ.here ?_
  refine NQ.then ?_
  refine CW.seq ?_
  refine CW.reg ?_
  refine WL.mv rfl rfl ?_
  refine WL.pure rfl rfl rfl ((PV.lenOs rfl ho1 T.sl22)) ?_
  refine WL.mv rfl rfl ?_
  refine WL.mv rfl rfl ?_
  refine WL.op rfl (OpK.buildS VI (os := [.tmp 24]) [_] rfl T.sl22 rfl rfl T.zv2 rfl (by intro z hz; first | rfl | (simp only [List.mem_cons, List.not_mem_nil, or_false] at hz; subst hz; exact (by first | exact Rd.cells1 (by assumption) | exact Osl.cells1 (by assumption) | exact Osn.cells1 (by assumption) | exact Rd.cells1 (NL.rd (by assumption)) | exact Inn.cell1 (by assumption) (by omega) | assumption | rfl))) rfl (fun v2 g2 w1 hXw1 ho2 hge2 => ?_))
  have hl2 := Lo.new hB hge2
  have hd1_2 := Dj.new ho1.ltO hge2
  have hkB_2 := OkN.new hUB hge2
  have hgB_2 := OgR.new hUB.size hge2
  have hB := hB.trans hXw1
  have ho1 := ho1.up hXw1
  have hUB := hUB.ext hXw1
  refine WL.op rfl (OpK.appendSK (f := VI) rfl T.sl22 T.zv2 rfl rfl ho1 rfl (Osl.src ho2 (fun _ => rfl)) (by first | (simp only [List.length_cons, List.length_nil]; omega) | (simp_all; omega)) (fun v3 og3 w2 hXw2 ho3 hap3 hrk => ?_))
  have hl3 := Lo.app hl1 hB hap3
  have hd2_3 := Dj.app (Dj.symm hd1_2) ho2.ltO hap3
  have hkB_3 := OkN.app hUB hkB_1 hap3
  have hgB_3 := OgR.app hgB_1 hUB.size hap3
  have hB := hB.updL hXw2 hl1
  have ho2 := ho2.updD hXw2 (Dj.symm hd1_2)
  have hUB := hUB.step hXw2 hkB_1
  refine WL.asg rfl rfl ?_
  refine WL.asg rfl rfl ?_
  refine WL.nilS ?_
  refine CW.ret ?_
  refine RQ.r2 rfl rfl ?_
  refine ⟨hUB, v3, og3, ?_, osE ho3 ?_, hgB_3, (by first | assumption | exact Osl.rd (by assumption))⟩
  · skip
    first | exact tE2 (iE (ixI_hit hno (by omega) (by assumption)).symm) rfl | exact tE2 (iE (ixI_no hno (by omega)).symm) rfl
  · skip
    first | exact (putI_has (by rw [← (by assumption : xs.getD k 0 = x)]; exact get_mem (by omega))).symm | exact (putI_new (no_mem hno (by omega))).symm
theorem c_spec_l06Found {w : World} {pa : Addr} {a0 : Int} {a1 : Int} {va2 : Value} {xa2 : List Int} {va3 : Value} {xa3 : List Int} {va4 : Value} {xa4 : List Bool}  (hba : Cells w pa [.int .i64 a0, .int .i64 a1, va2, va3, va4]) (ha2 : Rd EI w va2 xa2) (ha3 : Rd EI w va3 xa3) (ha4 : Rd EB w va4 xa4) (hv : (1 ≤ a0 ∧ a0 ≤ 16) ∧ (1 ≤ a1 ∧ a1 ≤ 4) ∧ (xa2.length : Int) = a1 ∧ (xa3.length : Int) = a0 * a0 ∧ (xa4.length : Int) = a0 ∧ allIn xa2 0 (a0 - 1) = true ∧ allIn xa3 0 (a0 - 1) = true) : Calls Try.prog 74 #[.pointer (some pa)] w (Ret1 (fun v w' => Ext w w' ∧ ∃ u og_u t og_t vs_t os_t, v = .tuple #[u, t] ∧ Osl VI w' og_u u ((foundL a0 xa3 xa2).map (·.1)) ∧ Lo w og_u ∧ Osl VV w' og_t t vs_t ∧ Lo w og_t ∧ Inn w' os_t vs_t (ctF (foundL a0 xa3 xa2)) ∧ LoI w os_t ∧ DI os_t og_t ∧ Dj og_u og_t ∧ DI os_t og_u)) := by
  have hB : Ext w w := Ext.refl w
  have hla2 := ha2.leI; have hla3 := ha3.leI; have hla4 := ha4.leI; have tv : TV a0 a1 xa2 xa3 := ⟨hv.1, hv.2.1, hv.2.2.1, hv.2.2.2.1, hv.2.2.2.2.2.1, hv.2.2.2.2.2.2⟩; have tvs := tv.s; have tvl := tv.ll; have tvn := tv.nl
  refine callsOf (vs := [_]) Try.func74 rfl Try.ntmps74 rfl rfl ?_
  refine CW.seq ?_
  refine CW.reg ?_
  refine WL.asg rfl rfl ?_
  refine WL.asg rfl rfl ?_
  refine WL.nilS ?_
  refine CW.seq ?_
  refine CW.reg ?_
  refine WL.op rfl (OpK.buildS VI (os := []) [] rfl T.sl22 rfl rfl T.zv2 rfl (by intro z hz; cases hz) rfl (fun v1 g1 w1 hXw1 ho1 hge1 => ?_))
  have hl1 := Lo.new hB hge1
  have hB := hB.trans hXw1
  refine WL.asg rfl rfl ?_
  refine WL.nilS ?_
  refine CW.seq ?_
  refine CW.reg ?_
  refine WL.op rfl (OpK.buildS VV (os := []) [] rfl T.sl83 rfl rfl T.zv22 rfl (by intro z hz; cases hz) rfl (fun v2 g2 w2 hXw2 ho2 hge2 => ?_))
  have hl2 := Lo.new hB hge2
  have hd1_2 := Dj.new ho1.ltO hge2
  have hB := hB.trans hXw2
  have ho1 := ho1.up hXw2
  refine WL.asg rfl rfl ?_
  refine WL.nilS ?_
  refine CW.seq ?_
  refine CW.seq ?_
  refine CW.reg ?_
  refine WL.asg rfl rfl ?_
  refine WL.nilS ?_
  refine CW.block ?_
  have hn3 := Inn.zero w2
  have hl3 := LoI.nl w
  have hd1_3 : DI [] (some g1) := DI.zero _
  have hd2_3 : DI [] (some g2) := DI.zero _
  have hlt1 := ho1.ltO
  have hlt2 := ho2.ltO
  have hlt3 := hn3.ltO
  refine CW.loop (σk := [(0, _)]) (fun ρ wz m => ∃ (v4 : Value) (og4 : Option Nat) (v5 : Value) (og5 : Option Nat) (vs5 : List Value) (os5 : List (Option Nat)) (k : Nat), ρ = [(4, v4), (5, v5), (6, .int .i64 (k : Nat))] ∧ m = xa2.length - k ∧ UpdL [(some g1), (some g2)] w2 wz ∧ Osl VI wz og4 v4 ((lfF xa2 k).map (·.1)) ∧ OgR w2 (some g1) og4 ∧ Osl VV wz og5 v5 (vs5) ∧ OgR w2 (some g2) og5 ∧ Inn wz os5 vs5 (ctF (lfF xa2 k)) ∧ BlR w2 [] os5 ∧ Dj og4 og5 ∧ DI os5 og4 ∧ DI os5 og5 ∧ (k ≤ xa2.length)) (ρ₀ := [(4, _), (5, _), (6, _)]) (m₀ := _) ⟨rfl, rfl, rfl, rfl, trivial⟩ ⟨v1, (some g1), v2, (some g2), _, [], 0, rfl, rfl, (UpdL.refl _ _), osE ho1 (by rfl), OgR.refl _ _, ho2, OgR.refl _ _, innE hn3 (by rfl), BlR.refl _ _, hd1_2, hd1_3, hd2_3, (by first | omega | rfl | (simp; done) | assumption | (simp_all; done))⟩ ?_
  rintro _ wl1 _ ⟨v4, og4, v5, og5, vs5, os5, k, rfl, rfl, hU0, ho4, ha4, ho5, ha5, hn6, hy6, hd4_5, hd4_6, hd5_6, hk⟩
  have hl4 := Lo.ogr hl1 hB ha4
  have hg0_4 := ha4
  have hk0_4 : OkB [(some g1), (some g2)] w2 og4 := OkB.ogr (OkB.mem (by simp)) (Nat.le_refl _) ha4
  have hl5 := Lo.ogr hl2 hB ha5
  have hg0_5 := ha5
  have hk0_5 : OkB [(some g1), (some g2)] w2 og5 := OkB.ogr (OkB.mem (by simp)) (Nat.le_refl _) ha5
  have hBpre0 := hB
  have hB := hB.loop hU0 ⟨hl1, hl2, trivial⟩
  have hlv6 := hn6.lv
  have hz0_6 := hy6
  have hl6 := LoI.blr hl3 hBpre0 hy6
  refine CW.seq ?_
  refine CW.seq ?_
  refine CW.reg ?_
  refine WL.mv rfl rfl ?_
  refine WL.mv rfl rfl ?_
  refine WL.pure rfl rfl rfl (PV.nilCheck rfl) ?_
  refine WL.pure rfl rfl rfl ((by first | exact PV.fieldAddr T.fl36_1 rfl (by first | assumption | exact Bx.cells (by assumption)) | exact PV.fieldAddrP T.fl36_1 rfl rfl)) ?_
  refine WL.pure rfl rfl rfl ((by first | exact PV.load0 T.na2 rfl (by first | exact Cells.up (by assumption) hB | exact Bx.cells (by assumption) | assumption) (Ext.refl _) rfl | exact PV.load1 T.na2 rfl (by first | exact Cells.up (by assumption) hB | exact Bx.cells (by assumption) | assumption) (Ext.refl _) rfl)) ?_
  refine WL.pure rfl rfl rfl (PV.lss rfl rfl) ?_
  refine WL.nilS ?_
  refine CW.cond rfl (fun hc1 => ?_) (fun hc1 => ?_)
  · skip
    try simp only [nq] at hc1
    refine CW.skipS ?_
    refine CW.seq ?_
    refine CW.block ?_
    refine CW.seq ?_
    refine CW.reg ?_
    have hF := lfF_ok tv k (by omega); have hFn := hF.len; have hml := map1_len (lfF xa2 k); have hcl := ctF_len (lfF xa2 k)
    refine WL.mv rfl rfl ?_
    refine WL.mv rfl rfl ?_
    refine WL.pure rfl rfl rfl (PV.nilCheck rfl) ?_
    refine WL.pure rfl rfl rfl ((by first | exact PV.fieldAddr T.fl36_2 rfl (by first | assumption | exact Bx.cells (by assumption)) | exact PV.fieldAddrP T.fl36_2 rfl rfl)) ?_
    refine WL.pure rfl rfl rfl ((by first | exact PV.load0 T.na22 rfl (by first | exact Cells.up (by assumption) hB | exact Bx.cells (by assumption) | assumption) (Ext.refl _) rfl | exact PV.load1 T.na22 rfl (by first | exact Cells.up (by assumption) hB | exact Bx.cells (by assumption) | assumption) (Ext.refl _) rfl)) ?_
    refine WL.mv rfl rfl ?_
    first
      | refine WL.at (x := .tmp 30) (y := .tmp 31) (E := EI) (0) rfl rfl (by first | assumption | exact Inn.rd (by assumption) (by omega)) (by first | omega | (simp only [List.length_set]; omega) | (simp only [List.length_append, List.length_take, List.length_replicate, List.length_drop]; omega)) (fun p1 csp1 hpp1 hcp1 hq => ?_)
      | refine WL.atZ (x := .tmp 30) (y := .tmp 31) (E := EI) (0) rfl rfl (by first | assumption | exact Inn.rd (by assumption) (by omega)) (by first | omega | (simp only [List.length_set]; omega) | (simp only [List.length_append, List.length_take, List.length_replicate, List.length_drop]; omega)) (fun p1 csp1 hpp1 hzp1 hcp1 hq => ?_)
    cases hq
    refine WL.pure rfl rfl rfl ((by first | exact PV.indexAddr hpp1 rfl rfl T.sl22 | exact PV.indexAddr hpp1 rfl (by rw [← hzp1]; rfl) T.sl22)) ?_
    refine WL.pure rfl rfl rfl ((by first | exact PV.load0 T.na2 rfl (by first | exact Cells.up (by assumption) hB | exact Bx.cells (by assumption) | assumption) (Ext.refl _) rfl | exact PV.load1 T.na2 rfl (by first | exact Cells.up (by assumption) hB | exact Bx.cells (by assumption) | assumption) (Ext.refl _) rfl)) ?_
    have hrdo4 := Osl.rd ho4
    refine WL.op rfl (OpK.call rfl T.cf78 rfl (c_spec_l02Index hB (by first | assumption | exact Dj.symm (by assumption)) (by first | assumption | exact Lo.nl _) (by first | assumption | omega | (simp only [marks_len, marksB_len, marksR_len]; omega))) (fun rv1 w3 hR => ?_))
    have hlt6 := hn6.ltO
    have hlt4 := ho4.ltO
    have hlt5 := ho5.ltO
    obtain ⟨hUC7, v8, og8, rfl, ho8, hr8, hrk4⟩ := hR
    have hl8 := Lo.ogr hl4 hB hr8
    have hd6_8 := DI.ogr hd4_6 hlt6 hr8
    have hd5_8 := Dj.ogr (Dj.symm hd4_5) hlt5 hr8
    have hk0_8 := OkB.ogr hk0_4 hU0.size hr8
    have hg0_8 := OgR.trans hg0_4 hU0.size hr8
    have hU0 := hU0.trans hUC7 ⟨hk0_4, trivial⟩
    have hn6 := hn6.loop hUC7 ⟨hd4_6, trivial⟩
    have ho5 := ho5.loop hUC7 ⟨(Dj.symm hd4_5), trivial⟩
    have hB := hB.loop hUC7 ⟨hl4, trivial⟩
    refine WL.mv rfl rfl ?_
    refine WL.pure rfl rfl rfl (PV.extract rfl rfl) ?_
    refine WL.pure rfl rfl rfl (PV.extract rfl rfl) ?_
    refine WL.asg rfl rfl ?_
    refine WL.asg rfl rfl ?_
    refine WL.nilS ?_
    refine CW.seq ?_
    refine CW.seq ?_
    refine CW.reg ?_
    refine WL.mv rfl rfl ?_
    refine WL.pure rfl rfl rfl ((PV.lenOs rfl ho8 T.sl22)) ?_
    refine WL.mv rfl rfl ?_
    refine WL.pure rfl rfl rfl ((PV.len rfl hrdo4 T.sl22)) ?_
    refine WL.pure rfl rfl rfl (PV.gtr rfl rfl) ?_
    refine WL.nilS ?_
    refine CW.cond rfl (fun hc2 => ?_) (fun hc2 => ?_)
    · skip
      try simp only [nq] at hc2
      have hgt : (xa2.getD k 0, (k : Int), 0, 0).1 ∉ (lfF xa2 k).map (·.1) := (putI_gt (x := xa2.getD k 0)).1 (by omega)
      refine CW.reg ?_
      refine WL.mv rfl rfl ?_
      refine WL.mv rfl rfl ?_
      refine WL.op rfl (OpK.buildS VI (os := [.tmp 43]) [_] rfl T.sl22 rfl rfl T.zv2 rfl (by intro z hz; first | rfl | (simp only [List.mem_cons, List.not_mem_nil, or_false] at hz; subst hz; exact (by first | exact Rd.cells1 (by assumption) | exact Osl.cells1 (by assumption) | exact Osn.cells1 (by assumption) | exact Rd.cells1 (NL.rd (by assumption)) | exact Inn.cell1 (by assumption) (by omega) | assumption | rfl))) rfl (fun v9 g9 w4 hXw4 ho9 hge9 => ?_))
      have hl9 := Lo.new hB hge9
      have hd6_9 := DI.new hn6 hge9
      have hd5_9 := Dj.new ho5.ltO hge9
      have hd8_9 := Dj.new ho8.ltO hge9
      have hk0_9 := OkN.new hU0 hge9
      have hg0_9 := OgR.new hU0.size hge9
      have hB := hB.trans hXw4
      have hn6 := hn6.up hXw4
      have ho5 := ho5.up hXw4
      have ho8 := ho8.up hXw4
      have hU0 := hU0.ext hXw4
      refine WL.op rfl (OpK.buildS VV (os := [.tmp 44]) [_] rfl T.sl83 rfl rfl T.zv22 rfl (by intro z hz; first | rfl | (simp only [List.mem_cons, List.not_mem_nil, or_false] at hz; subst hz; exact (by first | exact Rd.cells1 (by assumption) | exact Osl.cells1 (by assumption) | exact Osn.cells1 (by assumption) | exact Rd.cells1 (NL.rd (by assumption)) | exact Inn.cell1 (by assumption) (by omega) | assumption | rfl))) rfl (fun v10 g10 w5 hXw5 ho10 hge10 => ?_))
      have hl10 := Lo.new hB hge10
      have hd6_10 := DI.new hn6 hge10
      have hd5_10 := Dj.new ho5.ltO hge10
      have hd8_10 := Dj.new ho8.ltO hge10
      have hd9_10 := Dj.new ho9.ltO hge10
      have hk0_10 := OkN.new hU0 hge10
      have hg0_10 := OgR.new hU0.size hge10
      have hB := hB.trans hXw5
      have hn6 := hn6.up hXw5
      have ho5 := ho5.up hXw5
      have ho8 := ho8.up hXw5
      have ho9 := ho9.up hXw5
      have hU0 := hU0.ext hXw5
      refine WL.op rfl (OpK.appendS (f := VV) rfl T.sl83 T.zv22 rfl rfl ho5 rfl (Osl.srcM ho10 (one_mem (Osl.oneCell ho9))) (by first | (simp only [List.length_cons, List.length_nil]; omega) | (simp_all; omega)) (fun v11 og11 w6 hXw6 ho11 hap11 => ?_))
      have hn12 := Inn.put hn6 ho9 hd6_9
      have hl12 := LoI.put hl6 hl9
      have hz0_12 := BlR.put hz0_6 hg0_9
      have hd5_12 := DI.put hd5_6 (Dj.symm hd5_9)
      have hd8_12 := DI.put hd6_8 (Dj.symm hd8_9)
      have hd10_12 := DI.put hd6_10 hd9_10
      have hnp12 := hn12
      have hl11 := Lo.app hl5 hB hap11
      have hd8_11 := Dj.app (Dj.symm hd5_8) ho8.ltO hap11
      have hd10_11 := Dj.app (Dj.symm hd5_10) ho10.ltO hap11
      have hd11_12 := DI.app hd5_12 hn12 hap11
      have hk0_11 := OkN.app hU0 hk0_5 hap11
      have hg0_11 := OgR.app hg0_5 hU0.size hap11
      have hB := hB.updL hXw6 hl5
      have ho8 := ho8.updD hXw6 (Dj.symm hd5_8)
      have ho10 := ho10.updD hXw6 (Dj.symm hd5_10)
      have hn12 := hn12.updD hXw6 hd5_12
      have hU0 := hU0.step hXw6 hk0_5
      refine WL.asg rfl rfl ?_
      refine WL.nilS ?_
      refine CW.reg ?_
      refine WL.mv rfl rfl ?_
      refine WL.asg rfl rfl ?_
      refine WL.nil ?_
      refine NQ.block ?_
      refine NQ.then ?_
      refine CW.reg ?_
      refine WL.mv rfl rfl ?_
      refine WL.pure rfl rfl rfl (PV.add rfl rfl (by constructor <;> omega)) ?_
      refine WL.asg rfl rfl ?_
      refine WL.nil ?_
      refine NQ.next (ρ := [(4, _), (5, _), (6, _)]) ⟨rfl, rfl, rfl, rfl, trivial⟩ ?_
      exact ⟨_, ⟨v8, og8, v11, og11, _, (os5 ++ [(some g9)]), k + 1, rfl, rfl, hU0, osE ho8 (by exact putI_put (lfF xa2 k) (xa2.getD k 0, (k : Int), 0, 0)), (by first | exact hg0_8 | exact OgR.weak hg0_8), ho11, (by first | exact hg0_11 | exact OgR.weak hg0_11), innE hn12 (by first | exact (ct_new (f := (xa2.getD k 0, (k : Int), 0, 0)) (by assumption)).symm | exact (ct_old (f := (xa2.getD k 0, (k : Int), 0, 0)) (by assumption)).symm), (by first | exact hz0_12 | exact BlR.weak hz0_12), hd8_11, hd8_12, hd11_12, (by first | omega | assumption | (simp_all; done) | (simp_all; omega))⟩, by omega⟩
    try simp only [nq] at hc2
    have hle : ¬ (xa2.getD k 0, (k : Int), 0, 0).1 ∉ (lfF xa2 k).map (·.1) := (fun h9 => by have h8 := (putI_gt (x := xa2.getD k 0)).2 h9; omega)
    refine CW.skipS ?_
    refine CW.reg ?_
    refine WL.mv rfl rfl ?_
    refine WL.asg rfl rfl ?_
    refine WL.nil ?_
    refine NQ.block ?_
    refine NQ.then ?_
    refine CW.reg ?_
    refine WL.mv rfl rfl ?_
    refine WL.pure rfl rfl rfl (PV.add rfl rfl (by constructor <;> omega)) ?_
    refine WL.asg rfl rfl ?_
    refine WL.nil ?_
    refine NQ.next (ρ := [(4, _), (5, _), (6, _)]) ⟨rfl, rfl, rfl, rfl, trivial⟩ ?_
    exact ⟨_, ⟨v8, og8, v5, og5, _, os5, k + 1, rfl, rfl, hU0, osE ho8 (by exact putI_put (lfF xa2 k) (xa2.getD k 0, (k : Int), 0, 0)), (by first | exact hg0_8 | exact OgR.weak hg0_8), ho5, (by first | exact hg0_5 | exact OgR.weak hg0_5), innE hn6 (by first | exact (ct_new (f := (xa2.getD k 0, (k : Int), 0, 0)) (by assumption)).symm | exact (ct_old (f := (xa2.getD k 0, (k : Int), 0, 0)) (by assumption)).symm), (by first | exact hz0_6 | exact BlR.weak hz0_6), (Dj.symm hd5_8), hd6_8, hd5_6, (by first | omega | assumption | (simp_all; done) | (simp_all; omega))⟩, by omega⟩
  try simp only [nq] at hc1
  refine CW.exit ?_
  refine XQ.then ?_
  refine XQ.then ?_
  refine XQ.here ?_
  refine NQ.then ?_
  refine CW.seq ?_
  refine CW.seq ?_
  refine CW.reg ?_
  refine WL.asg rfl rfl ?_
  refine WL.nilS ?_
  refine CW.block ?_
  have hlt6 := hn6.ltO
  have hlt4 := ho4.ltO
  have hlt5 := ho5.ltO
  refine CW.loop (σk := [(0, _)]) (fun ρ wz m => ∃ (v13 : Value) (og13 : Option Nat) (v14 : Value) (og14 : Option Nat) (vs14 : List Value) (os14 : List (Option Nat)) (n : Nat), ρ = [(4, v13), (5, v14), (9, .int .i64 (n : Nat))] ∧ m = 17 - n ∧ UpdL [og4, og5] wl1 wz ∧ Osl VI wz og13 v13 ((genF a0 xa3 xa2 n).map (·.1)) ∧ OgR wl1 og4 og13 ∧ Osl VV wz og14 v14 (vs14) ∧ OgR wl1 og5 og14 ∧ Inn wz os14 vs14 (ctF (genF a0 xa3 xa2 n)) ∧ BlR wl1 os5 os14 ∧ Dj og13 og14 ∧ DI os14 og13 ∧ DI os14 og14 ∧ (n ≤ (genF a0 xa3 xa2 n).length)) (ρ₀ := [(4, _), (5, _), (9, _)]) (m₀ := _) ⟨rfl, rfl, rfl, rfl, trivial⟩ ⟨v4, og4, v5, og5, _, os5, 0, rfl, rfl, (UpdL.refl _ _), osE ho4 (by (obtain rfl : k = xa2.length := (by omega)); rfl), OgR.refl _ _, ho5, OgR.refl _ _, innE hn6 (by (obtain rfl : k = xa2.length := (by omega)); rfl), BlR.refl _ _, hd4_5, hd4_6, hd5_6, (by exact Nat.zero_le _)⟩ ?_
  rintro _ wl2 _ ⟨v13, og13, v14, og14, vs14, os14, n, rfl, rfl, hU1, ho13, ha13, ho14, ha14, hn15, hy15, hd13_14, hd13_15, hd14_15, hm⟩
  have hl13 := Lo.ogr hl4 hB ha13
  have hg1_13 := ha13
  have hk1_13 : OkB [og4, og5] wl1 og13 := OkB.ogr (OkB.mem (by simp)) (Nat.le_refl _) ha13
  have hl14 := Lo.ogr hl5 hB ha14
  have hg1_14 := ha14
  have hk1_14 : OkB [og4, og5] wl1 og14 := OkB.ogr (OkB.mem (by simp)) (Nat.le_refl _) ha14
  have hBpre1 := hB
  have hB := hB.loop hU1 ⟨hl4, hl5, trivial⟩
  have hlv15 := hn15.lv
  have hz1_15 := hy15
  have hl15 := LoI.blr hl6 hBpre1 hy15
  have hgl := (genF_ok tv n).len; have hml := map1_len (genF a0 xa3 xa2 n)
  refine CW.seq ?_
  refine CW.seq ?_
  refine CW.reg ?_
  refine WL.mv rfl rfl ?_
  refine WL.mv rfl rfl ?_
  refine WL.pure rfl rfl rfl ((PV.lenOs rfl ho13 T.sl22)) ?_
  refine WL.pure rfl rfl rfl (PV.lss rfl rfl) ?_
  refine WL.nilS ?_
  refine CW.cond rfl (fun hc3 => ?_) (fun hc3 => ?_)
  · skip
    try simp only [nq] at hc3
    have hml2 : n < (genF a0 xa3 xa2 n).length := (by omega)
    refine CW.skipS ?_
    refine CW.seq ?_
    refine CW.block ?_
    refine CW.seq ?_
    refine CW.reg ?_
    refine WL.asg rfl rfl ?_
    refine WL.nilS ?_
    refine CW.block ?_
    have hlt15 := hn15.ltO
    have hlt13 := ho13.ltO
    have hlt14 := ho14.ltO
    refine CW.loop (σk := [(0, _), (9, _)]) (fun ρ wz m => ∃ (v16 : Value) (og16 : Option Nat) (v17 : Value) (og17 : Option Nat) (vs17 : List Value) (os17 : List (Option Nat)) (i : Nat), ρ = [(4, v16), (5, v17), (10, .int .i64 (i : Nat))] ∧ m = n + 1 - i ∧ UpdL [og13, og14] wl2 wz ∧ Osl VI wz og16 v16 ((spI a0 xa3 (genF a0 xa3 xa2 n) n i).map (·.1)) ∧ OgR wl2 og13 og16 ∧ Osl VV wz og17 v17 (vs17) ∧ OgR wl2 og14 og17 ∧ Inn wz os17 vs17 (ctF (spI a0 xa3 (genF a0 xa3 xa2 n) n i)) ∧ BlR wl2 os14 os17 ∧ Dj og16 og17 ∧ DI os17 og16 ∧ DI os17 og17 ∧ (i ≤ n + 1)) (ρ₀ := [(4, _), (5, _), (10, _)]) (m₀ := _) ⟨rfl, rfl, rfl, rfl, rfl, trivial⟩ ⟨v13, og13, v14, og14, _, os14, 0, rfl, rfl, (UpdL.refl _ _), osE ho13 (by rw [spI_zero]), OgR.refl _ _, ho14, OgR.refl _ _, innE hn15 (by rw [spI_zero]), BlR.refl _ _, hd13_14, hd13_15, hd14_15, (by first | omega | rfl | (simp; done) | assumption | (simp_all; done))⟩ ?_
    rintro _ wl3 _ ⟨v16, og16, v17, og17, vs17, os17, i, rfl, rfl, hU2, ho16, ha16, ho17, ha17, hn18, hy18, hd16_17, hd16_18, hd17_18, hi⟩
    have hU1 := hU1.trans hU2 ⟨hk1_13, hk1_14, trivial⟩
    have hl16 := Lo.ogr hl13 hB ha16
    have hg2_16 := ha16
    have hk2_16 : OkB [og13, og14] wl2 og16 := OkB.ogr (OkB.mem (by simp)) (Nat.le_refl _) ha16
    have hk1_16 := OkB.ogr hk1_13 (by first | assumption | exact UpdL.size (by assumption)) ha16
    have hg1_16 := OgR.trans hg1_13 (by first | assumption | exact UpdL.size (by assumption)) ha16
    have hl17 := Lo.ogr hl14 hB ha17
    have hg2_17 := ha17
    have hk2_17 : OkB [og13, og14] wl2 og17 := OkB.ogr (OkB.mem (by simp)) (Nat.le_refl _) ha17
    have hk1_17 := OkB.ogr hk1_14 (by first | assumption | exact UpdL.size (by assumption)) ha17
    have hg1_17 := OgR.trans hg1_14 (by first | assumption | exact UpdL.size (by assumption)) ha17
    have hBpre2 := hB
    have hB := hB.loop hU2 ⟨hl13, hl14, trivial⟩
    have hlv18 := hn18.lv
    have hz2_18 := hy18
    have hz1_18 := BlR.trans hz1_15 (by first | assumption | exact UpdL.size (by assumption)) hy18
    have hl18 := LoI.blr hl15 hBpre2 hy18
    refine CW.seq ?_
    refine CW.seq ?_
    refine CW.reg ?_
    refine WL.mv rfl rfl ?_
    refine WL.mv rfl rfl ?_
    refine WL.pure rfl rfl rfl (PV.leq rfl rfl) ?_
    refine WL.nilS ?_
    refine CW.cond rfl (fun hc4 => ?_) (fun hc4 => ?_)
    · skip
      try simp only [nq] at hc4
      refine CW.skipS ?_
      refine CW.seq ?_
      refine CW.block ?_
      refine CW.seq ?_
      refine CW.reg ?_
      refine WL.asg rfl rfl ?_
      refine WL.nilS ?_
      refine CW.block ?_
      have hlt18 := hn18.ltO
      have hlt16 := ho16.ltO
      have hlt17 := ho17.ltO
      refine CW.loop (σk := [(0, _), (9, _), (10, _)]) (fun ρ wz m => ∃ (v19 : Value) (og19 : Option Nat) (v20 : Value) (og20 : Option Nat) (vs20 : List Value) (os20 : List (Option Nat)) (k : Nat), ρ = [(4, v19), (5, v20), (11, .int .i64 (k : Nat))] ∧ m = n + 1 - k ∧ UpdL [og16, og17] wl3 wz ∧ Osl VI wz og19 v19 ((spK a0 xa3 (genF a0 xa3 xa2 n) n i k).map (·.1)) ∧ OgR wl3 og16 og19 ∧ Osl VV wz og20 v20 (vs20) ∧ OgR wl3 og17 og20 ∧ Inn wz os20 vs20 (ctF (spK a0 xa3 (genF a0 xa3 xa2 n) n i k)) ∧ BlR wl3 os17 os20 ∧ Dj og19 og20 ∧ DI os20 og19 ∧ DI os20 og20 ∧ (k ≤ n + 1)) (ρ₀ := [(4, _), (5, _), (11, _)]) (m₀ := _) ⟨rfl, rfl, rfl, rfl, rfl, rfl, trivial⟩ ⟨v16, og16, v17, og17, _, os17, 0, rfl, rfl, (UpdL.refl _ _), osE ho16 (by rw [spK_zero (by omega)]), OgR.refl _ _, ho17, OgR.refl _ _, innE hn18 (by rw [spK_zero (by omega)]), BlR.refl _ _, hd16_17, hd16_18, hd17_18, (by first | omega | rfl | (simp; done) | assumption | (simp_all; done))⟩ ?_
      rintro _ wl4 _ ⟨v19, og19, v20, og20, vs20, os20, k, rfl, rfl, hU3, ho19, ha19, ho20, ha20, hn21, hy21, hd19_20, hd19_21, hd20_21, hk⟩
      have hU1 := hU1.trans hU3 ⟨hk1_16, hk1_17, trivial⟩
      have hU2 := hU2.trans hU3 ⟨hk2_16, hk2_17, trivial⟩
      have hl19 := Lo.ogr hl16 hB ha19
      have hg3_19 := ha19
      have hk3_19 : OkB [og16, og17] wl3 og19 := OkB.ogr (OkB.mem (by simp)) (Nat.le_refl _) ha19
      have hk1_19 := OkB.ogr hk1_16 (by first | assumption | exact UpdL.size (by assumption)) ha19
      have hg1_19 := OgR.trans hg1_16 (by first | assumption | exact UpdL.size (by assumption)) ha19
      have hk2_19 := OkB.ogr hk2_16 (by first | assumption | exact UpdL.size (by assumption)) ha19
      have hg2_19 := OgR.trans hg2_16 (by first | assumption | exact UpdL.size (by assumption)) ha19
      have hl20 := Lo.ogr hl17 hB ha20
      have hg3_20 := ha20
      have hk3_20 : OkB [og16, og17] wl3 og20 := OkB.ogr (OkB.mem (by simp)) (Nat.le_refl _) ha20
      have hk1_20 := OkB.ogr hk1_17 (by first | assumption | exact UpdL.size (by assumption)) ha20
      have hg1_20 := OgR.trans hg1_17 (by first | assumption | exact UpdL.size (by assumption)) ha20
      have hk2_20 := OkB.ogr hk2_17 (by first | assumption | exact UpdL.size (by assumption)) ha20
      have hg2_20 := OgR.trans hg2_17 (by first | assumption | exact UpdL.size (by assumption)) ha20
      have hBpre3 := hB
      have hB := hB.loop hU3 ⟨hl16, hl17, trivial⟩
      have hlv21 := hn21.lv
      have hz3_21 := hy21
      have hz1_21 := BlR.trans hz1_18 (by first | assumption | exact UpdL.size (by assumption)) hy21
      have hz2_21 := BlR.trans hz2_18 (by first | assumption | exact UpdL.size (by assumption)) hy21
      have hl21 := LoI.blr hl18 hBpre3 hy21
      refine CW.seq ?_
      refine CW.seq ?_
      refine CW.reg ?_
      refine WL.mv rfl rfl ?_
      refine WL.mv rfl rfl ?_
      refine WL.pure rfl rfl rfl (PV.leq rfl rfl) ?_
      refine WL.nilS ?_
      refine CW.cond rfl (fun hc5 => ?_) (fun hc5 => ?_)
      · skip
        try simp only [nq] at hc5
        refine CW.skipS ?_
        refine CW.seq ?_
        refine CW.block ?_
        refine CW.seq ?_
        refine CW.seq ?_
        refine CW.reg ?_
        refine WL.mv rfl rfl ?_
        refine WL.mv rfl rfl ?_
        refine WL.pure rfl rfl rfl (PV.lss rfl rfl) ?_
        refine WL.mv rfl rfl ?_
        refine WL.split (t := 67) rfl (fun hc6 => ?_) (fun hc6 => ?_)
        rotate_left
        · skip
          try simp only [nq] at hc6
          refine WL.skip rfl rfl rfl rfl rfl ?_
          refine WL.skip rfl rfl rfl rfl rfl ?_
          refine WL.skip rfl rfl rfl rfl rfl ?_
          refine WL.pure rfl rfl rfl (PV.pickF rfl rfl) ?_
          refine WL.nilS ?_
          refine CW.condF rfl ?_
          refine CW.skipS ?_
          refine CW.seq ?_
          refine CW.draw T.mixed (by kernel_rfl) (fun _ _ _ _ _ h => h) (fun w8 w9 => Upd og19 w8 w9 ∧ Keep ho19 w9) 27 (.take 0 (.take 1 (.take 2 (.take 3 (.take 4 (.take 5 (.take 6 (.take 7 (.take 8 (.take 9 (.take 10 (.take 11 (.take 12 (.take 13 (.take 14 (.take 15 (.take 16 (.take 17 (.take 18 (.take 19 (.take 20 (.must 21 (.take 22 (.take 23 (.take 24 (.take 25 (.take 26 .done))))))))))))))))))))))))))) (by kernel_rfl) (fun w7 hXd => ?_)
          have hB := hB.trans hXd
          have hn21 := hn21.up hXd
          have ho19 := ho19.up hXd
          have ho20 := ho20.up hXd
          have hU1 := hU1.ext hXd
          have hU2 := hU2.ext hXd
          have hU3 := hU3.ext hXd
          have hBr := hB
          have hS : Upd og19 w7 w7 ∧ Keep ho19 w7 := ⟨Ext.toUpd (Ext.refl _), Osl.rd ho19⟩
          have hUR : UpdL [og19] w7 w7 := UpdL.refl _ _
          have hkR_19 : OkB [og19] w7 og19 := OkB.mem (by simp)
          have hgR_19 := OgR.refl w7 og19
          obtain ⟨hF, hFl⟩ := spK_ok tv (genF_ok tv n) hml2 (i := i) (k := k) (by omega) (by omega); have hFn := hF.len; have hml3 := map1_len (spK a0 xa3 (genF a0 xa3 xa2 n) n i k); have hcl3 := ctF_len (spK a0 xa3 (genF a0 xa3 xa2 n) n i k); have e1 := map1_get (spK a0 xa3 (genF a0 xa3 xa2 n) n i k) i; have e2 := map1_get (spK a0 xa3 (genF a0 xa3 xa2 n) n i k) k; have hs1 := hF.st (i := i) (by omega); have hs2 := hF.st (i := k) (by omega); rw [← e1] at hs1; rw [← e2] at hs2; have hix := sq_idx (q := ((spK a0 xa3 (genF a0 xa3 xa2 n) n i k).map (·.1)).getD i 0) (r := ((spK a0 xa3 (genF a0 xa3 xa2 n) n i k).map (·.1)).getD k 0) tvs (by omega) (by omega) tvn; have hl1 := ctF_mem (l := spK a0 xa3 (genF a0 xa3 xa2 n) n i k) (i := i); have hl2 := ctF_mem (l := spK a0 xa3 (genF a0 xa3 xa2 n) n i k) (i := k)
          refine HP.take rfl rfl rfl rfl hS (fun wS ⟨hS1, hSk⟩ => PV.move rfl) ?_
          refine HP.take rfl rfl rfl rfl hS (fun wS ⟨hS1, hSk⟩ => PV.move rfl) ?_
          refine HP.take rfl rfl rfl rfl hS (fun wS ⟨hS1, hSk⟩ => PV.nilCheck rfl) ?_
          refine HP.take rfl rfl rfl rfl hS (fun wS ⟨hS1, hSk⟩ => (by first | exact PV.fieldAddr T.fl36_3 rfl (by first | assumption | exact Bx.cells (by assumption)) | exact PV.fieldAddrP T.fl36_3 rfl rfl)) ?_
          refine HP.take rfl rfl rfl rfl hS (fun wS ⟨hS1, hSk⟩ => (by first | exact PV.load0 T.na22 rfl (by first | exact Cells.up (by assumption) (hBr.updL hS1 hl19) | exact Bx.cells (Bx.updD (by assumption) hS1 (by first | assumption | exact Dj.symm (by assumption))) | exact Cells.upd (by assumption) hS1 (by simp)) (Ext.refl _) rfl | exact PV.load1 T.na22 rfl (by first | exact Cells.up (by assumption) (hBr.updL hS1 hl19) | exact Bx.cells (Bx.updD (by assumption) hS1 (by first | assumption | exact Dj.symm (by assumption))) | exact Cells.upd (by assumption) hS1 (by simp)) (Ext.refl _) rfl)) ?_
          refine HP.take rfl rfl rfl rfl hS (fun wS ⟨hS1, hSk⟩ => PV.move rfl) ?_
          refine HP.take rfl rfl rfl rfl hS (fun wS ⟨hS1, hSk⟩ => PV.move rfl) ?_
          first
            | refine HP.atO (wb := w7) (x := .tmp 78) (y := .tmp 79) (f := VI) (0) rfl rfl (by assumption) (by first | omega | (simp only [List.length_set]; omega) | (simp only [List.length_append, List.length_take, List.length_replicate, List.length_drop]; omega)) (fun p2 hpp2 hcp2 => ?_)
            | refine HP.atOZ (wb := w7) (x := .tmp 78) (y := .tmp 79) (f := VI) (0) rfl rfl (by assumption) (by first | omega | (simp only [List.length_set]; omega) | (simp only [List.length_append, List.length_take, List.length_replicate, List.length_drop]; omega)) (fun p2 hpp2 hzp2 hcp2 => ?_)
          refine HP.take rfl rfl rfl rfl hS (fun wS ⟨hS1, hSk⟩ => (by first | exact PV.indexAddr hpp2 rfl rfl T.sl22 | exact PV.indexAddr hpp2 rfl (by rw [← hzp2]; rfl) T.sl22)) ?_
          refine HP.take rfl rfl rfl rfl hS (fun wS ⟨hS1, hSk⟩ => (by first | exact PV.load0 T.na2 rfl (Keep.cells (dv := 0) hSk hpp2 (by first | omega | (simp only [List.length_map]; omega))) (Ext.refl _) rfl | exact PV.load1 T.na2 rfl (Keep.cells (dv := 0) hSk hpp2 (by first | omega | (simp only [List.length_map]; omega))) (Ext.refl _) rfl)) ?_
          refine HP.take rfl rfl rfl rfl hS (fun wS ⟨hS1, hSk⟩ => PV.move rfl) ?_
          refine HP.take rfl rfl rfl rfl hS (fun wS ⟨hS1, hSk⟩ => PV.nilCheck rfl) ?_
          refine HP.take rfl rfl rfl rfl hS (fun wS ⟨hS1, hSk⟩ => (by first | exact PV.fieldAddr T.fl36_0 rfl (by first | assumption | exact Bx.cells (by assumption)) | exact PV.fieldAddrP T.fl36_0 rfl rfl)) ?_
          refine HP.take rfl rfl rfl rfl hS (fun wS ⟨hS1, hSk⟩ => (by first | exact PV.load0 T.na2 rfl (by first | exact Cells.up (by assumption) (hBr.updL hS1 hl19) | exact Bx.cells (Bx.updD (by assumption) hS1 (by first | assumption | exact Dj.symm (by assumption))) | exact Cells.upd (by assumption) hS1 (by simp)) (Ext.refl _) rfl | exact PV.load1 T.na2 rfl (by first | exact Cells.up (by assumption) (hBr.updL hS1 hl19) | exact Bx.cells (Bx.updD (by assumption) hS1 (by first | assumption | exact Dj.symm (by assumption))) | exact Cells.upd (by assumption) hS1 (by simp)) (Ext.refl _) rfl)) ?_
          refine HP.take rfl rfl rfl rfl hS (fun wS ⟨hS1, hSk⟩ => PV.mul rfl rfl (by constructor <;> omega)) ?_
          refine HP.take rfl rfl rfl rfl hS (fun wS ⟨hS1, hSk⟩ => PV.move rfl) ?_
          refine HP.take rfl rfl rfl rfl hS (fun wS ⟨hS1, hSk⟩ => PV.move rfl) ?_
          first
            | refine HP.atO (wb := w7) (x := .tmp 87) (y := .tmp 88) (f := VI) (0) rfl rfl (by assumption) (by first | omega | (simp only [List.length_set]; omega) | (simp only [List.length_append, List.length_take, List.length_replicate, List.length_drop]; omega)) (fun p3 hpp3 hcp3 => ?_)
            | refine HP.atOZ (wb := w7) (x := .tmp 87) (y := .tmp 88) (f := VI) (0) rfl rfl (by assumption) (by first | omega | (simp only [List.length_set]; omega) | (simp only [List.length_append, List.length_take, List.length_replicate, List.length_drop]; omega)) (fun p3 hpp3 hzp3 hcp3 => ?_)
          refine HP.take rfl rfl rfl rfl hS (fun wS ⟨hS1, hSk⟩ => (by first | exact PV.indexAddr hpp3 rfl rfl T.sl22 | exact PV.indexAddr hpp3 rfl (by rw [← hzp3]; rfl) T.sl22)) ?_
          refine HP.take rfl rfl rfl rfl hS (fun wS ⟨hS1, hSk⟩ => (by first | exact PV.load0 T.na2 rfl (Keep.cells (dv := 0) hSk hpp3 (by first | omega | (simp only [List.length_map]; omega))) (Ext.refl _) rfl | exact PV.load1 T.na2 rfl (Keep.cells (dv := 0) hSk hpp3 (by first | omega | (simp only [List.length_map]; omega))) (Ext.refl _) rfl)) ?_
          refine HP.take rfl rfl rfl rfl hS (fun wS ⟨hS1, hSk⟩ => PV.add rfl rfl (by constructor <;> omega)) ?_
          first
            | refine HP.at (x := .tmp 77) (y := .tmp 91) (E := EI) (0) rfl rfl (by first | assumption | exact Inn.rd (by assumption) (by omega)) (by first | omega | (simp only [List.length_set]; omega) | (simp only [List.length_append, List.length_take, List.length_replicate, List.length_drop]; omega)) (fun p4 csp4 hpp4 hcp4 hq => ?_)
            | refine HP.atZ (x := .tmp 77) (y := .tmp 91) (E := EI) (0) rfl rfl (by first | assumption | exact Inn.rd (by assumption) (by omega)) (by first | omega | (simp only [List.length_set]; omega) | (simp only [List.length_append, List.length_take, List.length_replicate, List.length_drop]; omega)) (fun p4 csp4 hpp4 hzp4 hcp4 hq => ?_)
          cases hq
          refine HP.take rfl rfl rfl rfl hS (fun wS ⟨hS1, hSk⟩ => (by first | exact PV.indexAddr hpp4 rfl rfl T.sl22 | exact PV.indexAddr hpp4 rfl (by rw [← hzp4]; rfl) T.sl22)) ?_
          refine HP.take rfl rfl rfl rfl hS (fun wS ⟨hS1, hSk⟩ => (by first | exact PV.load0 T.na2 rfl (by first | exact Cells.up (by assumption) (hBr.updL hS1 hl19) | exact Bx.cells (Bx.updD (by assumption) hS1 (by first | assumption | exact Dj.symm (by assumption))) | exact Cells.upd (by assumption) hS1 (by simp)) (Ext.refl _) rfl | exact PV.load1 T.na2 rfl (by first | exact Cells.up (by assumption) (hBr.updL hS1 hl19) | exact Bx.cells (Bx.updD (by assumption) hS1 (by first | assumption | exact Dj.symm (by assumption))) | exact Cells.upd (by assumption) hS1 (by simp)) (Ext.refl _) rfl)) ?_
          have hrdo19 := Osl.rd ho19
          refine HP.must rfl rfl (OpK.call rfl T.cf78 rfl (c_spec_l02Index hB (by first | assumption | exact Dj.symm (by assumption)) (by first | assumption | exact Lo.nl _) (by first | assumption | omega | (simp only [marks_len, marksB_len, marksR_len]; omega))) (fun rv2 w8 hR => ?_))
          have hlt21 := hn21.ltO
          have hlt19 := ho19.ltO
          have hlt20 := ho20.ltO
          obtain ⟨hUC22, v23, og23, rfl, ho23, hr23, hrk19⟩ := hR
          have hl23 := Lo.ogr hl19 hB hr23
          have hd21_23 := DI.ogr hd19_21 hlt21 hr23
          have hd20_23 := Dj.ogr (Dj.symm hd19_20) hlt20 hr23
          have hk1_23 := OkB.ogr hk1_19 hU1.size hr23
          have hg1_23 := OgR.trans hg1_19 hU1.size hr23
          have hk2_23 := OkB.ogr hk2_19 hU2.size hr23
          have hg2_23 := OgR.trans hg2_19 hU2.size hr23
          have hk3_23 := OkB.ogr hk3_19 hU3.size hr23
          have hg3_23 := OgR.trans hg3_19 hU3.size hr23
          have hkR_23 := OkB.ogr hkR_19 hUR.size hr23
          have hgR_23 := OgR.trans hgR_19 hUR.size hr23
          have hU1 := hU1.trans hUC22 ⟨hk1_19, trivial⟩
          have hU2 := hU2.trans hUC22 ⟨hk2_19, trivial⟩
          have hU3 := hU3.trans hUC22 ⟨hk3_19, trivial⟩
          have hUR := hUR.trans hUC22 ⟨hkR_19, trivial⟩
          have hn21 := hn21.loop hUC22 ⟨hd19_21, trivial⟩
          have ho20 := ho20.loop hUC22 ⟨(Dj.symm hd19_20), trivial⟩
          have hB := hB.loop hUC22 ⟨hl19, trivial⟩
          refine ⟨⟨hUR.toUpd1, hrk19⟩, ?_⟩
          have hS := And.intro hUR.toUpd1 hrk19
          refine HP.take rfl rfl rfl rfl hS (fun wS ⟨hS1, hSk⟩ => PV.move rfl) ?_
          refine HP.take rfl rfl rfl rfl hS (fun wS ⟨hS1, hSk⟩ => PV.extract rfl rfl) ?_
          refine HP.take rfl rfl rfl rfl hS (fun wS ⟨hS1, hSk⟩ => PV.extract rfl rfl) ?_
          refine HP.take rfl rfl rfl rfl hS (fun wS ⟨hS1, hSk⟩ => PV.assign rfl) ?_
          refine HP.take rfl rfl rfl rfl hS (fun wS ⟨hS1, hSk⟩ => PV.assign rfl) ?_
          refine HP.doneS ?_
          refine CW.seq ?_
          refine CW.seq ?_
          refine CW.reg ?_
          refine WL.mv rfl rfl ?_
          refine WL.pure rfl rfl rfl ((PV.lenOs rfl ho23 T.sl22)) ?_
          refine WL.mv rfl rfl ?_
          refine WL.pure rfl rfl rfl ((PV.len rfl hrdo19 T.sl22)) ?_
          refine WL.pure rfl rfl rfl (PV.gtr rfl rfl) ?_
          refine WL.nilS ?_
          refine CW.cond rfl (fun hc7 => ?_) (fun hc7 => ?_)
          · skip
            try simp only [nq] at hc7
            have hgt : (pairF a0 xa3 (spK a0 xa3 (genF a0 xa3 xa2 n) n i k) i k).1 ∉ (spK a0 xa3 (genF a0 xa3 xa2 n) n i k).map (·.1) := (by simp only [pairF]; rw [← e1, ← e2]; exact putI_gt.1 (by omega))
            refine CW.seq ?_
            refine CW.reg ?_
            refine WL.op rfl (OpK.buildS VI (os := [.const (.int .i64 (-1))]) [_] rfl T.sl22 rfl rfl T.zv2 rfl (by intro z hz; first | rfl | (simp only [List.mem_cons, List.not_mem_nil, or_false] at hz; subst hz; exact (by first | exact Rd.cells1 (by assumption) | exact Osl.cells1 (by assumption) | exact Osn.cells1 (by assumption) | exact Rd.cells1 (NL.rd (by assumption)) | exact Inn.cell1 (by assumption) (by omega) | assumption | rfl))) rfl (fun v24 g24 w9 hXw9 ho24 hge24 => ?_))
            have hl24 := Lo.new hB hge24
            have hd21_24 := DI.new hn21 hge24
            have hd20_24 := Dj.new ho20.ltO hge24
            have hd23_24 := Dj.new ho23.ltO hge24
            have hk1_24 := OkN.new hU1 hge24
            have hg1_24 := OgR.new hU1.size hge24
            have hk2_24 := OkN.new hU2 hge24
            have hg2_24 := OgR.new hU2.size hge24
            have hk3_24 := OkN.new hU3 hge24
            have hg3_24 := OgR.new hU3.size hge24
            have hB := hB.trans hXw9
            have hn21 := hn21.up hXw9
            have ho20 := ho20.up hXw9
            have ho23 := ho23.up hXw9
            have hU1 := hU1.ext hXw9
            have hU2 := hU2.ext hXw9
            have hU3 := hU3.ext hXw9
            refine WL.mv rfl rfl ?_
            refine WL.mv rfl rfl ?_
            first
              | refine WL.atO (x := .tmp 103) (y := .tmp 104) (f := VV) (.slice none 0 0) rfl rfl ho20 (by first | omega | (simp only [List.length_set]; omega) | (simp only [List.length_append, List.length_take, List.length_replicate, List.length_drop]; omega)) (fun p5 hpp5 hcp5 => ?_)
              | refine WL.atOZ (x := .tmp 103) (y := .tmp 104) (f := VV) (.slice none 0 0) rfl rfl ho20 (by first | omega | (simp only [List.length_set]; omega) | (simp only [List.length_append, List.length_take, List.length_replicate, List.length_drop]; omega)) (fun p5 hpp5 hzp5 hcp5 => ?_)
            refine WL.pure rfl rfl rfl ((by first | exact PV.indexAddr hpp5 rfl rfl T.sl83 | exact PV.indexAddr hpp5 rfl (by rw [← hzp5]; rfl) T.sl83)) ?_
            refine WL.pure rfl rfl rfl ((by first | exact PV.load0 T.na22 rfl (by first | exact Cells.up (by assumption) hB | exact Bx.cells (by assumption) | assumption) (Ext.refl _) rfl | exact PV.load1 T.na22 rfl (by first | exact Cells.up (by assumption) hB | exact Bx.cells (by assumption) | assumption) (Ext.refl _) rfl)) ?_
            refine WL.op rfl (OpK.appendS (f := VI) rfl T.sl22 T.zv2 rfl rfl ho24 rfl (Rd.src (by first | assumption | exact Rd.up (by assumption) hB | exact Inn.rd (by assumption) (by omega)) (fun _ => rfl)) (by first | (simp only [List.length_cons, List.length_nil]; omega) | (simp only [List.length_append, List.length_cons, List.length_nil]; omega)) (fun v25 og25 w10 hXw10 ho25 hap25 => ?_))
            have hl25 := Lo.app hl24 hB hap25
            have hd21_25 := DI.app hd21_24 hn21 hap25
            have hd20_25 := Dj.app hd20_24 ho20.ltO hap25
            have hd23_25 := Dj.app hd23_24 ho23.ltO hap25
            have hk1_25 := OkN.app hU1 hk1_24 hap25
            have hg1_25 := OgR.app hg1_24 hU1.size hap25
            have hk2_25 := OkN.app hU2 hk2_24 hap25
            have hg2_25 := OgR.app hg2_24 hU2.size hap25
            have hk3_25 := OkN.app hU3 hk3_24 hap25
            have hg3_25 := OgR.app hg3_24 hU3.size hap25
            have hB := hB.updL hXw10 hl24
            have hn21 := hn21.updD hXw10 hd21_24
            have ho20 := ho20.updD hXw10 hd20_24
            have ho23 := ho23.updD hXw10 hd23_24
            have hU1 := hU1.step hXw10 hk1_24
            have hU2 := hU2.step hXw10 hk2_24
            have hU3 := hU3.step hXw10 hk3_24
            refine WL.asg rfl rfl ?_
            refine WL.nilS ?_
            refine CW.seq ?_
            refine CW.reg ?_
            refine WL.mv rfl rfl ?_
            refine WL.mv rfl rfl ?_
            refine WL.mv rfl rfl ?_
            first
              | refine WL.atO (x := .tmp 109) (y := .tmp 110) (f := VV) (.slice none 0 0) rfl rfl ho20 (by first | omega | (simp only [List.length_set]; omega) | (simp only [List.length_append, List.length_take, List.length_replicate, List.length_drop]; omega)) (fun p6 hpp6 hcp6 => ?_)
              | refine WL.atOZ (x := .tmp 109) (y := .tmp 110) (f := VV) (.slice none 0 0) rfl rfl ho20 (by first | omega | (simp only [List.length_set]; omega) | (simp only [List.length_append, List.length_take, List.length_replicate, List.length_drop]; omega)) (fun p6 hpp6 hzp6 hcp6 => ?_)
            refine WL.pure rfl rfl rfl ((by first | exact PV.indexAddr hpp6 rfl rfl T.sl83 | exact PV.indexAddr hpp6 rfl (by rw [← hzp6]; rfl) T.sl83)) ?_
            refine WL.pure rfl rfl rfl ((by first | exact PV.load0 T.na22 rfl (by first | exact Cells.up (by assumption) hB | exact Bx.cells (by assumption) | assumption) (Ext.refl _) rfl | exact PV.load1 T.na22 rfl (by first | exact Cells.up (by assumption) hB | exact Bx.cells (by assumption) | assumption) (Ext.refl _) rfl)) ?_
            refine WL.op rfl (OpK.appendS (f := VI) rfl T.sl22 T.zv2 rfl rfl ho25 rfl (Rd.src (by first | assumption | exact Rd.up (by assumption) hB | exact Inn.rd (by assumption) (by omega)) (fun _ => rfl)) (by first | (simp only [List.length_cons, List.length_nil]; omega) | (simp only [List.length_append, List.length_cons, List.length_nil]; omega)) (fun v26 og26 w11 hXw11 ho26 hap26 => ?_))
            have hl26 := Lo.app hl25 hB hap26
            have hd21_26 := DI.app hd21_25 hn21 hap26
            have hd20_26 := Dj.app hd20_25 ho20.ltO hap26
            have hd23_26 := Dj.app hd23_25 ho23.ltO hap26
            have hk1_26 := OkN.app hU1 hk1_25 hap26
            have hg1_26 := OgR.app hg1_25 hU1.size hap26
            have hk2_26 := OkN.app hU2 hk2_25 hap26
            have hg2_26 := OgR.app hg2_25 hU2.size hap26
            have hk3_26 := OkN.app hU3 hk3_25 hap26
            have hg3_26 := OgR.app hg3_25 hU3.size hap26
            have hB := hB.updL hXw11 hl25
            have hn21 := hn21.updD hXw11 hd21_25
            have ho20 := ho20.updD hXw11 hd20_25
            have ho23 := ho23.updD hXw11 hd23_25
            have hU1 := hU1.step hXw11 hk1_25
            have hU2 := hU2.step hXw11 hk2_25
            have hU3 := hU3.step hXw11 hk3_25
            refine WL.asg rfl rfl ?_
            refine WL.nilS ?_
            refine CW.seq ?_
            refine CW.seq ?_
            refine CW.reg ?_
            refine WL.mv rfl rfl ?_
            refine WL.pure rfl rfl rfl ((PV.lenOs rfl ho26 T.sl22)) ?_
            refine WL.pure rfl rfl rfl (PV.gtr rfl rfl) ?_
            refine WL.nilS ?_
            refine CW.cond rfl (fun hc8 => ?_) (fun hc8 => ?_)
            · skip
              try simp only [nq] at hc8
              refine CW.reg ?_
              refine WL.mv rfl rfl ?_
              refine WL.slO (x := .tmp 117) (hi := .const (.int .i64 24)) T.sl22 rfl rfl rfl ho26 (by simp only [List.length_append, List.length_cons, List.length_nil] at *; omega) (fun u1 huu1 hou1 => ?_)
              refine WL.pure rfl rfl rfl ((huu1 _ _ _ _ _ _)) ?_
              refine WL.asg rfl rfl ?_
              have ho27 := hou1
              have hl27 := hl26
              have hd21_27 := hd21_26
              have hd20_27 := hd20_26
              have hd23_27 := hd23_26
              have hk1_27 := hk1_26
              have hg1_27 := hg1_26
              have hk2_27 := hk2_26
              have hg2_27 := hg2_26
              have hk3_27 := hk3_26
              have hg3_27 := hg3_26
              refine WL.nilS ?_
              refine CW.reg ?_
              refine WL.mv rfl rfl ?_
              refine WL.mv rfl rfl ?_
              refine WL.op rfl (OpK.buildS VV (os := [.tmp 120]) [_] rfl T.sl83 rfl rfl T.zv22 rfl (by intro z hz; first | rfl | (simp only [List.mem_cons, List.not_mem_nil, or_false] at hz; subst hz; exact (by first | exact Rd.cells1 (by assumption) | exact Osl.cells1 (by assumption) | exact Osn.cells1 (by assumption) | exact Rd.cells1 (NL.rd (by assumption)) | exact Inn.cell1 (by assumption) (by omega) | assumption | rfl))) rfl (fun v28 g28 w12 hXw12 ho28 hge28 => ?_))
              have hl28 := Lo.new hB hge28
              have hd21_28 := DI.new hn21 hge28
              have hd20_28 := Dj.new ho20.ltO hge28
              have hd23_28 := Dj.new ho23.ltO hge28
              have hd27_28 := Dj.new ho27.ltO hge28
              have hk1_28 := OkN.new hU1 hge28
              have hg1_28 := OgR.new hU1.size hge28
              have hk2_28 := OkN.new hU2 hge28
              have hg2_28 := OgR.new hU2.size hge28
              have hk3_28 := OkN.new hU3 hge28
              have hg3_28 := OgR.new hU3.size hge28
              have hB := hB.trans hXw12
              have hn21 := hn21.up hXw12
              have ho20 := ho20.up hXw12
              have ho23 := ho23.up hXw12
              have ho27 := ho27.up hXw12
              have hU1 := hU1.ext hXw12
              have hU2 := hU2.ext hXw12
              have hU3 := hU3.ext hXw12
              refine WL.op rfl (OpK.appendS (f := VV) rfl T.sl83 T.zv22 rfl rfl ho20 rfl (Osl.srcM ho28 (one_mem (Osl.oneCell ho27))) (by first | (simp only [List.length_cons, List.length_nil]; omega) | (omega)) (fun v29 og29 w13 hXw13 ho29 hap29 => ?_))
              have hn30 := Inn.put hn21 ho27 hd21_27
              have hl30 := LoI.put hl21 hl27
              have hz1_30 := BlR.put hz1_21 hg1_27
              have hz2_30 := BlR.put hz2_21 hg2_27
              have hz3_30 := BlR.put hz3_21 hg3_27
              have hd20_30 := DI.put hd20_21 (Dj.symm hd20_27)
              have hd23_30 := DI.put hd21_23 (Dj.symm hd23_27)
              have hd28_30 := DI.put hd21_28 hd27_28
              have hnp30 := hn30
              have hl29 := Lo.app hl20 hB hap29
              have hd23_29 := Dj.app (Dj.symm hd20_23) ho23.ltO hap29
              have hd28_29 := Dj.app (Dj.symm hd20_28) ho28.ltO hap29
              have hd29_30 := DI.app hd20_30 hn30 hap29
              have hk1_29 := OkN.app hU1 hk1_20 hap29
              have hg1_29 := OgR.app hg1_20 hU1.size hap29
              have hk2_29 := OkN.app hU2 hk2_20 hap29
              have hg2_29 := OgR.app hg2_20 hU2.size hap29
              have hk3_29 := OkN.app hU3 hk3_20 hap29
              have hg3_29 := OgR.app hg3_20 hU3.size hap29
              have hB := hB.updL hXw13 hl20
              have ho23 := ho23.updD hXw13 (Dj.symm hd20_23)
              have ho28 := ho28.updD hXw13 (Dj.symm hd20_28)
              have hn30 := hn30.updD hXw13 hd20_30
              have hU1 := hU1.step hXw13 hk1_20
              have hU2 := hU2.step hXw13 hk2_20
              have hU3 := hU3.step hXw13 hk3_20
              refine WL.asg rfl rfl ?_
              refine WL.nilS ?_
              refine CW.reg ?_
              refine WL.mv rfl rfl ?_
              refine WL.asg rfl rfl ?_
              refine WL.nil ?_
              refine NQ.block ?_
              refine NQ.then ?_
              refine CW.reg ?_
              refine WL.mv rfl rfl ?_
              refine WL.pure rfl rfl rfl (PV.add rfl rfl (by constructor <;> omega)) ?_
              refine WL.asg rfl rfl ?_
              refine WL.nil ?_
              refine NQ.next (ρ := [(4, _), (5, _), (11, _)]) ⟨rfl, rfl, rfl, rfl, rfl, rfl, trivial⟩ ?_
              exact ⟨_, ⟨v23, og23, v29, og29, _, (os20 ++ [og26]), k + 1, rfl, rfl, hU3, osE ho23 (by rw [spK_step (by omega) (by omega) (by omega), ← putI_put]; simp only [pairF]; rw [← e1, ← e2]), (by first | exact hg3_23 | exact OgR.weak hg3_23), ho29, (by first | exact hg3_29 | exact OgR.weak hg3_29), innE hn30 (by rw [spK_step (by omega) (by omega) (by omega)]; first | exact (ct_old hle).symm | exact (ct_pair1 hgt (by omega)).symm | exact (ct_pair hgt).symm), (by first | exact hz3_30 | exact BlR.weak hz3_30), hd23_29, hd23_30, hd29_30, (by first | omega | assumption | (simp_all; done) | (simp_all; omega))⟩, by omega⟩
            try simp only [nq] at hc8
            refine CW.skipS ?_
            refine CW.reg ?_
            refine WL.mv rfl rfl ?_
            refine WL.mv rfl rfl ?_
            refine WL.op rfl (OpK.buildS VV (os := [.tmp 120]) [_] rfl T.sl83 rfl rfl T.zv22 rfl (by intro z hz; first | rfl | (simp only [List.mem_cons, List.not_mem_nil, or_false] at hz; subst hz; exact (by first | exact Rd.cells1 (by assumption) | exact Osl.cells1 (by assumption) | exact Osn.cells1 (by assumption) | exact Rd.cells1 (NL.rd (by assumption)) | exact Inn.cell1 (by assumption) (by omega) | assumption | rfl))) rfl (fun v31 g31 w14 hXw14 ho31 hge31 => ?_))
            have hl31 := Lo.new hB hge31
            have hd21_31 := DI.new hn21 hge31
            have hd20_31 := Dj.new ho20.ltO hge31
            have hd23_31 := Dj.new ho23.ltO hge31
            have hd26_31 := Dj.new ho26.ltO hge31
            have hk1_31 := OkN.new hU1 hge31
            have hg1_31 := OgR.new hU1.size hge31
            have hk2_31 := OkN.new hU2 hge31
            have hg2_31 := OgR.new hU2.size hge31
            have hk3_31 := OkN.new hU3 hge31
            have hg3_31 := OgR.new hU3.size hge31
            have hB := hB.trans hXw14
            have hn21 := hn21.up hXw14
            have ho20 := ho20.up hXw14
            have ho23 := ho23.up hXw14
            have ho26 := ho26.up hXw14
            have hU1 := hU1.ext hXw14
            have hU2 := hU2.ext hXw14
            have hU3 := hU3.ext hXw14
            refine WL.op rfl (OpK.appendS (f := VV) rfl T.sl83 T.zv22 rfl rfl ho20 rfl (Osl.srcM ho31 (one_mem (Osl.oneCell ho26))) (by first | (simp only [List.length_cons, List.length_nil]; omega) | (omega)) (fun v32 og32 w15 hXw15 ho32 hap32 => ?_))
            have hn33 := Inn.put hn21 ho26 hd21_26
            have hl33 := LoI.put hl21 hl26
            have hz1_33 := BlR.put hz1_21 hg1_26
            have hz2_33 := BlR.put hz2_21 hg2_26
            have hz3_33 := BlR.put hz3_21 hg3_26
            have hd20_33 := DI.put hd20_21 (Dj.symm hd20_26)
            have hd23_33 := DI.put hd21_23 (Dj.symm hd23_26)
            have hd31_33 := DI.put hd21_31 hd26_31
            have hnp33 := hn33
            have hl32 := Lo.app hl20 hB hap32
            have hd23_32 := Dj.app (Dj.symm hd20_23) ho23.ltO hap32
            have hd31_32 := Dj.app (Dj.symm hd20_31) ho31.ltO hap32
            have hd32_33 := DI.app hd20_33 hn33 hap32
            have hk1_32 := OkN.app hU1 hk1_20 hap32
            have hg1_32 := OgR.app hg1_20 hU1.size hap32
            have hk2_32 := OkN.app hU2 hk2_20 hap32
            have hg2_32 := OgR.app hg2_20 hU2.size hap32
            have hk3_32 := OkN.app hU3 hk3_20 hap32
            have hg3_32 := OgR.app hg3_20 hU3.size hap32
            have hB := hB.updL hXw15 hl20
            have ho23 := ho23.updD hXw15 (Dj.symm hd20_23)
            have ho31 := ho31.updD hXw15 (Dj.symm hd20_31)
            have hn33 := hn33.updD hXw15 hd20_33
            have hU1 := hU1.step hXw15 hk1_20
            have hU2 := hU2.step hXw15 hk2_20
            have hU3 := hU3.step hXw15 hk3_20
            refine WL.asg rfl rfl ?_
            refine WL.nilS ?_
            refine CW.reg ?_
            refine WL.mv rfl rfl ?_
            refine WL.asg rfl rfl ?_
            refine WL.nil ?_
            refine NQ.block ?_
            refine NQ.then ?_
            refine CW.reg ?_
            refine WL.mv rfl rfl ?_
            refine WL.pure rfl rfl rfl (PV.add rfl rfl (by constructor <;> omega)) ?_
            refine WL.asg rfl rfl ?_
            refine WL.nil ?_
            refine NQ.next (ρ := [(4, _), (5, _), (11, _)]) ⟨rfl, rfl, rfl, rfl, rfl, rfl, trivial⟩ ?_
            exact ⟨_, ⟨v23, og23, v32, og32, _, (os20 ++ [og26]), k + 1, rfl, rfl, hU3, osE ho23 (by rw [spK_step (by omega) (by omega) (by omega), ← putI_put]; simp only [pairF]; rw [← e1, ← e2]), (by first | exact hg3_23 | exact OgR.weak hg3_23), ho32, (by first | exact hg3_32 | exact OgR.weak hg3_32), innE hn33 (by rw [spK_step (by omega) (by omega) (by omega)]; first | exact (ct_old hle).symm | exact (ct_pair1 hgt (by omega)).symm | exact (ct_pair hgt).symm), (by first | exact hz3_33 | exact BlR.weak hz3_33), hd23_32, hd23_33, hd32_33, (by first | omega | assumption | (simp_all; done) | (simp_all; omega))⟩, by omega⟩
          try simp only [nq] at hc7
          have hle : ¬ (pairF a0 xa3 (spK a0 xa3 (genF a0 xa3 xa2 n) n i k) i k).1 ∉ (spK a0 xa3 (genF a0 xa3 xa2 n) n i k).map (·.1) := (by simp only [pairF]; rw [← e1, ← e2]; exact fun h9 => by have h8 := putI_gt.2 h9; omega)
          refine CW.skipS ?_
          refine CW.reg ?_
          refine WL.mv rfl rfl ?_
          refine WL.asg rfl rfl ?_
          refine WL.nil ?_
          refine NQ.block ?_
          refine NQ.then ?_
          refine CW.reg ?_
          refine WL.mv rfl rfl ?_
          refine WL.pure rfl rfl rfl (PV.add rfl rfl (by constructor <;> omega)) ?_
          refine WL.asg rfl rfl ?_
          refine WL.nil ?_
          refine NQ.next (ρ := [(4, _), (5, _), (11, _)]) ⟨rfl, rfl, rfl, rfl, rfl, rfl, trivial⟩ ?_
          exact ⟨_, ⟨v23, og23, v20, og20, _, os20, k + 1, rfl, rfl, hU3, osE ho23 (by rw [spK_step (by omega) (by omega) (by omega), ← putI_put]; simp only [pairF]; rw [← e1, ← e2]), (by first | exact hg3_23 | exact OgR.weak hg3_23), ho20, (by first | exact hg3_20 | exact OgR.weak hg3_20), innE hn21 (by rw [spK_step (by omega) (by omega) (by omega)]; first | exact (ct_old hle).symm | exact (ct_pair1 hgt (by omega)).symm | exact (ct_pair hgt).symm), (by first | exact hz3_21 | exact BlR.weak hz3_21), (Dj.symm hd20_23), hd21_23, hd20_21, (by first | omega | assumption | (simp_all; done) | (simp_all; omega))⟩, by omega⟩
        try simp only [nq] at hc6
        refine WL.pureG rfl rfl rfl rfl rfl (PV.move rfl) ?_
        refine WL.pureG rfl rfl rfl rfl rfl (PV.move rfl) ?_
        refine WL.pureG rfl rfl rfl rfl rfl (PV.lss rfl rfl) ?_
        refine WL.pure rfl rfl rfl (PV.pickT rfl rfl) ?_
        refine WL.nilS ?_
        refine CW.cond rfl (fun hc9 => ?_) (fun hc9 => ?_)
        · skip
          try simp only [nq] at hc9
          refine CW.exit ?_
          refine XQ.then ?_
          refine XQ.here ?_
          refine NQ.then ?_
          refine CW.reg ?_
          refine WL.mv rfl rfl ?_
          refine WL.pure rfl rfl rfl (PV.add rfl rfl (by constructor <;> omega)) ?_
          refine WL.asg rfl rfl ?_
          refine WL.nil ?_
          refine NQ.next (ρ := [(4, _), (5, _), (11, _)]) ⟨rfl, rfl, rfl, rfl, rfl, rfl, trivial⟩ ?_
          exact ⟨_, ⟨v19, og19, v20, og20, _, os20, k + 1, rfl, rfl, hU3, osE ho19 (by rw [spK_skip (by omega) (by omega)]), (by first | exact hg3_19 | exact OgR.weak hg3_19), ho20, (by first | exact hg3_20 | exact OgR.weak hg3_20), innE hn21 (by rw [spK_skip (by omega) (by omega)]), (by first | exact hz3_21 | exact BlR.weak hz3_21), hd19_20, hd19_21, hd20_21, (by first | omega | assumption | (simp_all; done) | (simp_all; omega))⟩, by omega⟩
        try simp only [nq] at hc9
        refine CW.skipS ?_
        refine CW.seq ?_
        refine CW.draw T.mixed (by kernel_rfl) (fun _ _ _ _ _ h => h) (fun w8 w9 => Upd og19 w8 w9 ∧ Keep ho19 w9) 27 (.take 0 (.take 1 (.take 2 (.take 3 (.take 4 (.take 5 (.take 6 (.take 7 (.take 8 (.take 9 (.take 10 (.take 11 (.take 12 (.take 13 (.take 14 (.take 15 (.take 16 (.take 17 (.take 18 (.take 19 (.take 20 (.must 21 (.take 22 (.take 23 (.take 24 (.take 25 (.take 26 .done))))))))))))))))))))))))))) (by kernel_rfl) (fun w16 hXd => ?_)
        have hB := hB.trans hXd
        have hn21 := hn21.up hXd
        have ho19 := ho19.up hXd
        have ho20 := ho20.up hXd
        have hU1 := hU1.ext hXd
        have hU2 := hU2.ext hXd
        have hU3 := hU3.ext hXd
        have hBr := hB
        have hS : Upd og19 w16 w16 ∧ Keep ho19 w16 := ⟨Ext.toUpd (Ext.refl _), Osl.rd ho19⟩
        have hUR : UpdL [og19] w16 w16 := UpdL.refl _ _
        have hkR_19 : OkB [og19] w16 og19 := OkB.mem (by simp)
        have hgR_19 := OgR.refl w16 og19
        obtain ⟨hF, hFl⟩ := spK_ok tv (genF_ok tv n) hml2 (i := i) (k := k) (by omega) (by omega); have hFn := hF.len; have hml3 := map1_len (spK a0 xa3 (genF a0 xa3 xa2 n) n i k); have hcl3 := ctF_len (spK a0 xa3 (genF a0 xa3 xa2 n) n i k); have e1 := map1_get (spK a0 xa3 (genF a0 xa3 xa2 n) n i k) i; have e2 := map1_get (spK a0 xa3 (genF a0 xa3 xa2 n) n i k) k; have hs1 := hF.st (i := i) (by omega); have hs2 := hF.st (i := k) (by omega); rw [← e1] at hs1; rw [← e2] at hs2; have hix := sq_idx (q := ((spK a0 xa3 (genF a0 xa3 xa2 n) n i k).map (·.1)).getD i 0) (r := ((spK a0 xa3 (genF a0 xa3 xa2 n) n i k).map (·.1)).getD k 0) tvs (by omega) (by omega) tvn; have hl1 := ctF_mem (l := spK a0 xa3 (genF a0 xa3 xa2 n) n i k) (i := i); have hl2 := ctF_mem (l := spK a0 xa3 (genF a0 xa3 xa2 n) n i k) (i := k)
        refine HP.take rfl rfl rfl rfl hS (fun wS ⟨hS1, hSk⟩ => PV.move rfl) ?_
        refine HP.take rfl rfl rfl rfl hS (fun wS ⟨hS1, hSk⟩ => PV.move rfl) ?_
        refine HP.take rfl rfl rfl rfl hS (fun wS ⟨hS1, hSk⟩ => PV.nilCheck rfl) ?_
        refine HP.take rfl rfl rfl rfl hS (fun wS ⟨hS1, hSk⟩ => (by first | exact PV.fieldAddr T.fl36_3 rfl (by first | assumption | exact Bx.cells (by assumption)) | exact PV.fieldAddrP T.fl36_3 rfl rfl)) ?_
        refine HP.take rfl rfl rfl rfl hS (fun wS ⟨hS1, hSk⟩ => (by first | exact PV.load0 T.na22 rfl (by first | exact Cells.up (by assumption) (hBr.updL hS1 hl19) | exact Bx.cells (Bx.updD (by assumption) hS1 (by first | assumption | exact Dj.symm (by assumption))) | exact Cells.upd (by assumption) hS1 (by simp)) (Ext.refl _) rfl | exact PV.load1 T.na22 rfl (by first | exact Cells.up (by assumption) (hBr.updL hS1 hl19) | exact Bx.cells (Bx.updD (by assumption) hS1 (by first | assumption | exact Dj.symm (by assumption))) | exact Cells.upd (by assumption) hS1 (by simp)) (Ext.refl _) rfl)) ?_
        refine HP.take rfl rfl rfl rfl hS (fun wS ⟨hS1, hSk⟩ => PV.move rfl) ?_
        refine HP.take rfl rfl rfl rfl hS (fun wS ⟨hS1, hSk⟩ => PV.move rfl) ?_
        first
          | refine HP.atO (wb := w16) (x := .tmp 78) (y := .tmp 79) (f := VI) (0) rfl rfl (by assumption) (by first | omega | (simp only [List.length_set]; omega) | (simp only [List.length_append, List.length_take, List.length_replicate, List.length_drop]; omega)) (fun p7 hpp7 hcp7 => ?_)
          | refine HP.atOZ (wb := w16) (x := .tmp 78) (y := .tmp 79) (f := VI) (0) rfl rfl (by assumption) (by first | omega | (simp only [List.length_set]; omega) | (simp only [List.length_append, List.length_take, List.length_replicate, List.length_drop]; omega)) (fun p7 hpp7 hzp7 hcp7 => ?_)
        refine HP.take rfl rfl rfl rfl hS (fun wS ⟨hS1, hSk⟩ => (by first | exact PV.indexAddr hpp7 rfl rfl T.sl22 | exact PV.indexAddr hpp7 rfl (by rw [← hzp7]; rfl) T.sl22)) ?_
        refine HP.take rfl rfl rfl rfl hS (fun wS ⟨hS1, hSk⟩ => (by first | exact PV.load0 T.na2 rfl (Keep.cells (dv := 0) hSk hpp7 (by first | omega | (simp only [List.length_map]; omega))) (Ext.refl _) rfl | exact PV.load1 T.na2 rfl (Keep.cells (dv := 0) hSk hpp7 (by first | omega | (simp only [List.length_map]; omega))) (Ext.refl _) rfl)) ?_
        refine HP.take rfl rfl rfl rfl hS (fun wS ⟨hS1, hSk⟩ => PV.move rfl) ?_
        refine HP.take rfl rfl rfl rfl hS (fun wS ⟨hS1, hSk⟩ => PV.nilCheck rfl) ?_
        refine HP.take rfl rfl rfl rfl hS (fun wS ⟨hS1, hSk⟩ => (by first | exact PV.fieldAddr T.fl36_0 rfl (by first | assumption | exact Bx.cells (by assumption)) | exact PV.fieldAddrP T.fl36_0 rfl rfl)) ?_
        refine HP.take rfl rfl rfl rfl hS (fun wS ⟨hS1, hSk⟩ => (by first | exact PV.load0 T.na2 rfl (by first | exact Cells.up (by assumption) (hBr.updL hS1 hl19) | exact Bx.cells (Bx.updD (by assumption) hS1 (by first | assumption | exact Dj.symm (by assumption))) | exact Cells.upd (by assumption) hS1 (by simp)) (Ext.refl _) rfl | exact PV.load1 T.na2 rfl (by first | exact Cells.up (by assumption) (hBr.updL hS1 hl19) | exact Bx.cells (Bx.updD (by assumption) hS1 (by first | assumption | exact Dj.symm (by assumption))) | exact Cells.upd (by assumption) hS1 (by simp)) (Ext.refl _) rfl)) ?_
        refine HP.take rfl rfl rfl rfl hS (fun wS ⟨hS1, hSk⟩ => PV.mul rfl rfl (by constructor <;> omega)) ?_
        refine HP.take rfl rfl rfl rfl hS (fun wS ⟨hS1, hSk⟩ => PV.move rfl) ?_
        refine HP.take rfl rfl rfl rfl hS (fun wS ⟨hS1, hSk⟩ => PV.move rfl) ?_
        first
          | refine HP.atO (wb := w16) (x := .tmp 87) (y := .tmp 88) (f := VI) (0) rfl rfl (by assumption) (by first | omega | (simp only [List.length_set]; omega) | (simp only [List.length_append, List.length_take, List.length_replicate, List.length_drop]; omega)) (fun p8 hpp8 hcp8 => ?_)
          | refine HP.atOZ (wb := w16) (x := .tmp 87) (y := .tmp 88) (f := VI) (0) rfl rfl (by assumption) (by first | omega | (simp only [List.length_set]; omega) | (simp only [List.length_append, List.length_take, List.length_replicate, List.length_drop]; omega)) (fun p8 hpp8 hzp8 hcp8 => ?_)
        refine HP.take rfl rfl rfl rfl hS (fun wS ⟨hS1, hSk⟩ => (by first | exact PV.indexAddr hpp8 rfl rfl T.sl22 | exact PV.indexAddr hpp8 rfl (by rw [← hzp8]; rfl) T.sl22)) ?_
        refine HP.take rfl rfl rfl rfl hS (fun wS ⟨hS1, hSk⟩ => (by first | exact PV.load0 T.na2 rfl (Keep.cells (dv := 0) hSk hpp8 (by first | omega | (simp only [List.length_map]; omega))) (Ext.refl _) rfl | exact PV.load1 T.na2 rfl (Keep.cells (dv := 0) hSk hpp8 (by first | omega | (simp only [List.length_map]; omega))) (Ext.refl _) rfl)) ?_
        refine HP.take rfl rfl rfl rfl hS (fun wS ⟨hS1, hSk⟩ => PV.add rfl rfl (by constructor <;> omega)) ?_
        first
          | refine HP.at (x := .tmp 77) (y := .tmp 91) (E := EI) (0) rfl rfl (by first | assumption | exact Inn.rd (by assumption) (by omega)) (by first | omega | (simp only [List.length_set]; omega) | (simp only [List.length_append, List.length_take, List.length_replicate, List.length_drop]; omega)) (fun p9 csp9 hpp9 hcp9 hq => ?_)
          | refine HP.atZ (x := .tmp 77) (y := .tmp 91) (E := EI) (0) rfl rfl (by first | assumption | exact Inn.rd (by assumption) (by omega)) (by first | omega | (simp only [List.length_set]; omega) | (simp only [List.length_append, List.length_take, List.length_replicate, List.length_drop]; omega)) (fun p9 csp9 hpp9 hzp9 hcp9 hq => ?_)
        cases hq
        refine HP.take rfl rfl rfl rfl hS (fun wS ⟨hS1, hSk⟩ => (by first | exact PV.indexAddr hpp9 rfl rfl T.sl22 | exact PV.indexAddr hpp9 rfl (by rw [← hzp9]; rfl) T.sl22)) ?_
        refine HP.take rfl rfl rfl rfl hS (fun wS ⟨hS1, hSk⟩ => (by first | exact PV.load0 T.na2 rfl (by first | exact Cells.up (by assumption) (hBr.updL hS1 hl19) | exact Bx.cells (Bx.updD (by assumption) hS1 (by first | assumption | exact Dj.symm (by assumption))) | exact Cells.upd (by assumption) hS1 (by simp)) (Ext.refl _) rfl | exact PV.load1 T.na2 rfl (by first | exact Cells.up (by assumption) (hBr.updL hS1 hl19) | exact Bx.cells (Bx.updD (by assumption) hS1 (by first | assumption | exact Dj.symm (by assumption))) | exact Cells.upd (by assumption) hS1 (by simp)) (Ext.refl _) rfl)) ?_
        have hrdo19 := Osl.rd ho19
        refine HP.must rfl rfl (OpK.call rfl T.cf78 rfl (c_spec_l02Index hB (by first | assumption | exact Dj.symm (by assumption)) (by first | assumption | exact Lo.nl _) (by first | assumption | omega | (simp only [marks_len, marksB_len, marksR_len]; omega))) (fun rv3 w17 hR => ?_))
        have hlt21 := hn21.ltO
        have hlt19 := ho19.ltO
        have hlt20 := ho20.ltO
        obtain ⟨hUC34, v35, og35, rfl, ho35, hr35, hrk19⟩ := hR
        have hl35 := Lo.ogr hl19 hB hr35
        have hd21_35 := DI.ogr hd19_21 hlt21 hr35
        have hd20_35 := Dj.ogr (Dj.symm hd19_20) hlt20 hr35
        have hk1_35 := OkB.ogr hk1_19 hU1.size hr35
        have hg1_35 := OgR.trans hg1_19 hU1.size hr35
        have hk2_35 := OkB.ogr hk2_19 hU2.size hr35
        have hg2_35 := OgR.trans hg2_19 hU2.size hr35
        have hk3_35 := OkB.ogr hk3_19 hU3.size hr35
        have hg3_35 := OgR.trans hg3_19 hU3.size hr35
        have hkR_35 := OkB.ogr hkR_19 hUR.size hr35
        have hgR_35 := OgR.trans hgR_19 hUR.size hr35
        have hU1 := hU1.trans hUC34 ⟨hk1_19, trivial⟩
        have hU2 := hU2.trans hUC34 ⟨hk2_19, trivial⟩
        have hU3 := hU3.trans hUC34 ⟨hk3_19, trivial⟩
        have hUR := hUR.trans hUC34 ⟨hkR_19, trivial⟩
        have hn21 := hn21.loop hUC34 ⟨hd19_21, trivial⟩
        have ho20 := ho20.loop hUC34 ⟨(Dj.symm hd19_20), trivial⟩
        have hB := hB.loop hUC34 ⟨hl19, trivial⟩
        refine ⟨⟨hUR.toUpd1, hrk19⟩, ?_⟩
        have hS := And.intro hUR.toUpd1 hrk19
        refine HP.take rfl rfl rfl rfl hS (fun wS ⟨hS1, hSk⟩ => PV.move rfl) ?_
        refine HP.take rfl rfl rfl rfl hS (fun wS ⟨hS1, hSk⟩ => PV.extract rfl rfl) ?_
        refine HP.take rfl rfl rfl rfl hS (fun wS ⟨hS1, hSk⟩ => PV.extract rfl rfl) ?_
        refine HP.take rfl rfl rfl rfl hS (fun wS ⟨hS1, hSk⟩ => PV.assign rfl) ?_
        refine HP.take rfl rfl rfl rfl hS (fun wS ⟨hS1, hSk⟩ => PV.assign rfl) ?_
        refine HP.doneS ?_
        refine CW.seq ?_
        refine CW.seq ?_
        refine CW.reg ?_
        refine WL.mv rfl rfl ?_
        refine WL.pure rfl rfl rfl ((PV.lenOs rfl ho35 T.sl22)) ?_
        refine WL.mv rfl rfl ?_
        refine WL.pure rfl rfl rfl ((PV.len rfl hrdo19 T.sl22)) ?_
        refine WL.pure rfl rfl rfl (PV.gtr rfl rfl) ?_
        refine WL.nilS ?_
        refine CW.cond rfl (fun hc10 => ?_) (fun hc10 => ?_)
        · skip
          try simp only [nq] at hc10
          have hgt : (pairF a0 xa3 (spK a0 xa3 (genF a0 xa3 xa2 n) n i k) i k).1 ∉ (spK a0 xa3 (genF a0 xa3 xa2 n) n i k).map (·.1) := (by simp only [pairF]; rw [← e1, ← e2]; exact putI_gt.1 (by omega))
          refine CW.seq ?_
          refine CW.reg ?_
          refine WL.op rfl (OpK.buildS VI (os := [.const (.int .i64 (-1))]) [_] rfl T.sl22 rfl rfl T.zv2 rfl (by intro z hz; first | rfl | (simp only [List.mem_cons, List.not_mem_nil, or_false] at hz; subst hz; exact (by first | exact Rd.cells1 (by assumption) | exact Osl.cells1 (by assumption) | exact Osn.cells1 (by assumption) | exact Rd.cells1 (NL.rd (by assumption)) | exact Inn.cell1 (by assumption) (by omega) | assumption | rfl))) rfl (fun v36 g36 w18 hXw18 ho36 hge36 => ?_))
          have hl36 := Lo.new hB hge36
          have hd21_36 := DI.new hn21 hge36
          have hd20_36 := Dj.new ho20.ltO hge36
          have hd35_36 := Dj.new ho35.ltO hge36
          have hk1_36 := OkN.new hU1 hge36
          have hg1_36 := OgR.new hU1.size hge36
          have hk2_36 := OkN.new hU2 hge36
          have hg2_36 := OgR.new hU2.size hge36
          have hk3_36 := OkN.new hU3 hge36
          have hg3_36 := OgR.new hU3.size hge36
          have hB := hB.trans hXw18
          have hn21 := hn21.up hXw18
          have ho20 := ho20.up hXw18
          have ho35 := ho35.up hXw18
          have hU1 := hU1.ext hXw18
          have hU2 := hU2.ext hXw18
          have hU3 := hU3.ext hXw18
          refine WL.mv rfl rfl ?_
          refine WL.mv rfl rfl ?_
          first
            | refine WL.atO (x := .tmp 103) (y := .tmp 104) (f := VV) (.slice none 0 0) rfl rfl ho20 (by first | omega | (simp only [List.length_set]; omega) | (simp only [List.length_append, List.length_take, List.length_replicate, List.length_drop]; omega)) (fun p10 hpp10 hcp10 => ?_)
            | refine WL.atOZ (x := .tmp 103) (y := .tmp 104) (f := VV) (.slice none 0 0) rfl rfl ho20 (by first | omega | (simp only [List.length_set]; omega) | (simp only [List.length_append, List.length_take, List.length_replicate, List.length_drop]; omega)) (fun p10 hpp10 hzp10 hcp10 => ?_)
          refine WL.pure rfl rfl rfl ((by first | exact PV.indexAddr hpp10 rfl rfl T.sl83 | exact PV.indexAddr hpp10 rfl (by rw [← hzp10]; rfl) T.sl83)) ?_
          refine WL.pure rfl rfl rfl ((by first | exact PV.load0 T.na22 rfl (by first | exact Cells.up (by assumption) hB | exact Bx.cells (by assumption) | assumption) (Ext.refl _) rfl | exact PV.load1 T.na22 rfl (by first | exact Cells.up (by assumption) hB | exact Bx.cells (by assumption) | assumption) (Ext.refl _) rfl)) ?_
          refine WL.op rfl (OpK.appendS (f := VI) rfl T.sl22 T.zv2 rfl rfl ho36 rfl (Rd.src (by first | assumption | exact Rd.up (by assumption) hB | exact Inn.rd (by assumption) (by omega)) (fun _ => rfl)) (by first | (simp only [List.length_cons, List.length_nil]; omega) | (simp only [List.length_append, List.length_cons, List.length_nil]; omega)) (fun v37 og37 w19 hXw19 ho37 hap37 => ?_))
          have hl37 := Lo.app hl36 hB hap37
          have hd21_37 := DI.app hd21_36 hn21 hap37
          have hd20_37 := Dj.app hd20_36 ho20.ltO hap37
          have hd35_37 := Dj.app hd35_36 ho35.ltO hap37
          have hk1_37 := OkN.app hU1 hk1_36 hap37
          have hg1_37 := OgR.app hg1_36 hU1.size hap37
          have hk2_37 := OkN.app hU2 hk2_36 hap37
          have hg2_37 := OgR.app hg2_36 hU2.size hap37
          have hk3_37 := OkN.app hU3 hk3_36 hap37
          have hg3_37 := OgR.app hg3_36 hU3.size hap37
          have hB := hB.updL hXw19 hl36
          have hn21 := hn21.updD hXw19 hd21_36
          have ho20 := ho20.updD hXw19 hd20_36
          have ho35 := ho35.updD hXw19 hd35_36
          have hU1 := hU1.step hXw19 hk1_36
          have hU2 := hU2.step hXw19 hk2_36
          have hU3 := hU3.step hXw19 hk3_36
          refine WL.asg rfl rfl ?_
          refine WL.nilS ?_
          refine CW.seq ?_
          refine CW.reg ?_
          refine WL.mv rfl rfl ?_
          refine WL.mv rfl rfl ?_
          refine WL.mv rfl rfl ?_
          first
            | refine WL.atO (x := .tmp 109) (y := .tmp 110) (f := VV) (.slice none 0 0) rfl rfl ho20 (by first | omega | (simp only [List.length_set]; omega) | (simp only [List.length_append, List.length_take, List.length_replicate, List.length_drop]; omega)) (fun p11 hpp11 hcp11 => ?_)
            | refine WL.atOZ (x := .tmp 109) (y := .tmp 110) (f := VV) (.slice none 0 0) rfl rfl ho20 (by first | omega | (simp only [List.length_set]; omega) | (simp only [List.length_append, List.length_take, List.length_replicate, List.length_drop]; omega)) (fun p11 hpp11 hzp11 hcp11 => ?_)
          refine WL.pure rfl rfl rfl ((by first | exact PV.indexAddr hpp11 rfl rfl T.sl83 | exact PV.indexAddr hpp11 rfl (by rw [← hzp11]; rfl) T.sl83)) ?_
          refine WL.pure rfl rfl rfl ((by first | exact PV.load0 T.na22 rfl (by first | exact Cells.up (by assumption) hB | exact Bx.cells (by assumption) | assumption) (Ext.refl _) rfl | exact PV.load1 T.na22 rfl (by first | exact Cells.up (by assumption) hB | exact Bx.cells (by assumption) | assumption) (Ext.refl _) rfl)) ?_
          refine WL.op rfl (OpK.appendS (f := VI) rfl T.sl22 T.zv2 rfl rfl ho37 rfl (Rd.src (by first | assumption | exact Rd.up (by assumption) hB | exact Inn.rd (by assumption) (by omega)) (fun _ => rfl)) (by first | (simp only [List.length_cons, List.length_nil]; omega) | (simp only [List.length_append, List.length_cons, List.length_nil]; omega)) (fun v38 og38 w20 hXw20 ho38 hap38 => ?_))
          have hl38 := Lo.app hl37 hB hap38
          have hd21_38 := DI.app hd21_37 hn21 hap38
          have hd20_38 := Dj.app hd20_37 ho20.ltO hap38
          have hd35_38 := Dj.app hd35_37 ho35.ltO hap38
          have hk1_38 := OkN.app hU1 hk1_37 hap38
          have hg1_38 := OgR.app hg1_37 hU1.size hap38
          have hk2_38 := OkN.app hU2 hk2_37 hap38
          have hg2_38 := OgR.app hg2_37 hU2.size hap38
          have hk3_38 := OkN.app hU3 hk3_37 hap38
          have hg3_38 := OgR.app hg3_37 hU3.size hap38
          have hB := hB.updL hXw20 hl37
          have hn21 := hn21.updD hXw20 hd21_37
          have ho20 := ho20.updD hXw20 hd20_37
          have ho35 := ho35.updD hXw20 hd35_37
          have hU1 := hU1.step hXw20 hk1_37
          have hU2 := hU2.step hXw20 hk2_37
          have hU3 := hU3.step hXw20 hk3_37
          refine WL.asg rfl rfl ?_
          refine WL.nilS ?_
          refine CW.seq ?_
          refine CW.seq ?_
          refine CW.reg ?_
          refine WL.mv rfl rfl ?_
          refine WL.pure rfl rfl rfl ((PV.lenOs rfl ho38 T.sl22)) ?_
          refine WL.pure rfl rfl rfl (PV.gtr rfl rfl) ?_
          refine WL.nilS ?_
          refine CW.cond rfl (fun hc11 => ?_) (fun hc11 => ?_)
          · skip
            try simp only [nq] at hc11
            refine CW.reg ?_
            refine WL.mv rfl rfl ?_
            refine WL.slO (x := .tmp 117) (hi := .const (.int .i64 24)) T.sl22 rfl rfl rfl ho38 (by simp only [List.length_append, List.length_cons, List.length_nil] at *; omega) (fun u2 huu2 hou2 => ?_)
            refine WL.pure rfl rfl rfl ((huu2 _ _ _ _ _ _)) ?_
            refine WL.asg rfl rfl ?_
            have ho39 := hou2
            have hl39 := hl38
            have hd21_39 := hd21_38
            have hd20_39 := hd20_38
            have hd35_39 := hd35_38
            have hk1_39 := hk1_38
            have hg1_39 := hg1_38
            have hk2_39 := hk2_38
            have hg2_39 := hg2_38
            have hk3_39 := hk3_38
            have hg3_39 := hg3_38
            refine WL.nilS ?_
            refine CW.reg ?_
            refine WL.mv rfl rfl ?_
            refine WL.mv rfl rfl ?_
            refine WL.op rfl (OpK.buildS VV (os := [.tmp 120]) [_] rfl T.sl83 rfl rfl T.zv22 rfl (by intro z hz; first | rfl | (simp only [List.mem_cons, List.not_mem_nil, or_false] at hz; subst hz; exact (by first | exact Rd.cells1 (by assumption) | exact Osl.cells1 (by assumption) | exact Osn.cells1 (by assumption) | exact Rd.cells1 (NL.rd (by assumption)) | exact Inn.cell1 (by assumption) (by omega) | assumption | rfl))) rfl (fun v40 g40 w21 hXw21 ho40 hge40 => ?_))
            have hl40 := Lo.new hB hge40
            have hd21_40 := DI.new hn21 hge40
            have hd20_40 := Dj.new ho20.ltO hge40
            have hd35_40 := Dj.new ho35.ltO hge40
            have hd39_40 := Dj.new ho39.ltO hge40
            have hk1_40 := OkN.new hU1 hge40
            have hg1_40 := OgR.new hU1.size hge40
            have hk2_40 := OkN.new hU2 hge40
            have hg2_40 := OgR.new hU2.size hge40
            have hk3_40 := OkN.new hU3 hge40
            have hg3_40 := OgR.new hU3.size hge40
            have hB := hB.trans hXw21
            have hn21 := hn21.up hXw21
            have ho20 := ho20.up hXw21
            have ho35 := ho35.up hXw21
            have ho39 := ho39.up hXw21
            have hU1 := hU1.ext hXw21
            have hU2 := hU2.ext hXw21
            have hU3 := hU3.ext hXw21
            refine WL.op rfl (OpK.appendS (f := VV) rfl T.sl83 T.zv22 rfl rfl ho20 rfl (Osl.srcM ho40 (one_mem (Osl.oneCell ho39))) (by first | (simp only [List.length_cons, List.length_nil]; omega) | (omega)) (fun v41 og41 w22 hXw22 ho41 hap41 => ?_))
            have hn42 := Inn.put hn21 ho39 hd21_39
            have hl42 := LoI.put hl21 hl39
            have hz1_42 := BlR.put hz1_21 hg1_39
            have hz2_42 := BlR.put hz2_21 hg2_39
            have hz3_42 := BlR.put hz3_21 hg3_39
            have hd20_42 := DI.put hd20_21 (Dj.symm hd20_39)
            have hd35_42 := DI.put hd21_35 (Dj.symm hd35_39)
            have hd40_42 := DI.put hd21_40 hd39_40
            have hnp42 := hn42
            have hl41 := Lo.app hl20 hB hap41
            have hd35_41 := Dj.app (Dj.symm hd20_35) ho35.ltO hap41
            have hd40_41 := Dj.app (Dj.symm hd20_40) ho40.ltO hap41
            have hd41_42 := DI.app hd20_42 hn42 hap41
            have hk1_41 := OkN.app hU1 hk1_20 hap41
            have hg1_41 := OgR.app hg1_20 hU1.size hap41
            have hk2_41 := OkN.app hU2 hk2_20 hap41
            have hg2_41 := OgR.app hg2_20 hU2.size hap41
            have hk3_41 := OkN.app hU3 hk3_20 hap41
            have hg3_41 := OgR.app hg3_20 hU3.size hap41
            have hB := hB.updL hXw22 hl20
            have ho35 := ho35.updD hXw22 (Dj.symm hd20_35)
            have ho40 := ho40.updD hXw22 (Dj.symm hd20_40)
            have hn42 := hn42.updD hXw22 hd20_42
            have hU1 := hU1.step hXw22 hk1_20
            have hU2 := hU2.step hXw22 hk2_20
            have hU3 := hU3.step hXw22 hk3_20
            refine WL.asg rfl rfl ?_
            refine WL.nilS ?_
            refine CW.reg ?_
            refine WL.mv rfl rfl ?_
            refine WL.asg rfl rfl ?_
            refine WL.nil ?_
            refine NQ.block ?_
            refine NQ.then ?_
            refine CW.reg ?_
            refine WL.mv rfl rfl ?_
            refine WL.pure rfl rfl rfl (PV.add rfl rfl (by constructor <;> omega)) ?_
            refine WL.asg rfl rfl ?_
            refine WL.nil ?_
            refine NQ.next (ρ := [(4, _), (5, _), (11, _)]) ⟨rfl, rfl, rfl, rfl, rfl, rfl, trivial⟩ ?_
            exact ⟨_, ⟨v35, og35, v41, og41, _, (os20 ++ [og38]), k + 1, rfl, rfl, hU3, osE ho35 (by rw [spK_step (by omega) (by omega) (by omega), ← putI_put]; simp only [pairF]; rw [← e1, ← e2]), (by first | exact hg3_35 | exact OgR.weak hg3_35), ho41, (by first | exact hg3_41 | exact OgR.weak hg3_41), innE hn42 (by rw [spK_step (by omega) (by omega) (by omega)]; first | exact (ct_old hle).symm | exact (ct_pair1 hgt (by omega)).symm | exact (ct_pair hgt).symm), (by first | exact hz3_42 | exact BlR.weak hz3_42), hd35_41, hd35_42, hd41_42, (by first | omega | assumption | (simp_all; done) | (simp_all; omega))⟩, by omega⟩
          try simp only [nq] at hc11
          refine CW.skipS ?_
          refine CW.reg ?_
          refine WL.mv rfl rfl ?_
          refine WL.mv rfl rfl ?_
          refine WL.op rfl (OpK.buildS VV (os := [.tmp 120]) [_] rfl T.sl83 rfl rfl T.zv22 rfl (by intro z hz; first | rfl | (simp only [List.mem_cons, List.not_mem_nil, or_false] at hz; subst hz; exact (by first | exact Rd.cells1 (by assumption) | exact Osl.cells1 (by assumption) | exact Osn.cells1 (by assumption) | exact Rd.cells1 (NL.rd (by assumption)) | exact Inn.cell1 (by assumption) (by omega) | assumption | rfl))) rfl (fun v43 g43 w23 hXw23 ho43 hge43 => ?_))
          have hl43 := Lo.new hB hge43
          have hd21_43 := DI.new hn21 hge43
          have hd20_43 := Dj.new ho20.ltO hge43
          have hd35_43 := Dj.new ho35.ltO hge43
          have hd38_43 := Dj.new ho38.ltO hge43
          have hk1_43 := OkN.new hU1 hge43
          have hg1_43 := OgR.new hU1.size hge43
          have hk2_43 := OkN.new hU2 hge43
          have hg2_43 := OgR.new hU2.size hge43
          have hk3_43 := OkN.new hU3 hge43
          have hg3_43 := OgR.new hU3.size hge43
          have hB := hB.trans hXw23
          have hn21 := hn21.up hXw23
          have ho20 := ho20.up hXw23
          have ho35 := ho35.up hXw23
          have ho38 := ho38.up hXw23
          have hU1 := hU1.ext hXw23
          have hU2 := hU2.ext hXw23
          have hU3 := hU3.ext hXw23
          refine WL.op rfl (OpK.appendS (f := VV) rfl T.sl83 T.zv22 rfl rfl ho20 rfl (Osl.srcM ho43 (one_mem (Osl.oneCell ho38))) (by first | (simp only [List.length_cons, List.length_nil]; omega) | (omega)) (fun v44 og44 w24 hXw24 ho44 hap44 => ?_))
          have hn45 := Inn.put hn21 ho38 hd21_38
          have hl45 := LoI.put hl21 hl38
          have hz1_45 := BlR.put hz1_21 hg1_38
          have hz2_45 := BlR.put hz2_21 hg2_38
          have hz3_45 := BlR.put hz3_21 hg3_38
          have hd20_45 := DI.put hd20_21 (Dj.symm hd20_38)
          have hd35_45 := DI.put hd21_35 (Dj.symm hd35_38)
          have hd43_45 := DI.put hd21_43 hd38_43
          have hnp45 := hn45
          have hl44 := Lo.app hl20 hB hap44
          have hd35_44 := Dj.app (Dj.symm hd20_35) ho35.ltO hap44
          have hd43_44 := Dj.app (Dj.symm hd20_43) ho43.ltO hap44
          have hd44_45 := DI.app hd20_45 hn45 hap44
          have hk1_44 := OkN.app hU1 hk1_20 hap44
          have hg1_44 := OgR.app hg1_20 hU1.size hap44
          have hk2_44 := OkN.app hU2 hk2_20 hap44
          have hg2_44 := OgR.app hg2_20 hU2.size hap44
          have hk3_44 := OkN.app hU3 hk3_20 hap44
          have hg3_44 := OgR.app hg3_20 hU3.size hap44
          have hB := hB.updL hXw24 hl20
          have ho35 := ho35.updD hXw24 (Dj.symm hd20_35)
          have ho43 := ho43.updD hXw24 (Dj.symm hd20_43)
          have hn45 := hn45.updD hXw24 hd20_45
          have hU1 := hU1.step hXw24 hk1_20
          have hU2 := hU2.step hXw24 hk2_20
          have hU3 := hU3.step hXw24 hk3_20
          refine WL.asg rfl rfl ?_
          refine WL.nilS ?_
          refine CW.reg ?_
          refine WL.mv rfl rfl ?_
          refine WL.asg rfl rfl ?_
          refine WL.nil ?_
          refine NQ.block ?_
          refine NQ.then ?_
          refine CW.reg ?_
          refine WL.mv rfl rfl ?_
          refine WL.pure rfl rfl rfl (PV.add rfl rfl (by constructor <;> omega)) ?_
          refine WL.asg rfl rfl ?_
          refine WL.nil ?_
          refine NQ.next (ρ := [(4, _), (5, _), (11, _)]) ⟨rfl, rfl, rfl, rfl, rfl, rfl, trivial⟩ ?_
          exact ⟨_, ⟨v35, og35, v44, og44, _, (os20 ++ [og38]), k + 1, rfl, rfl, hU3, osE ho35 (by rw [spK_step (by omega) (by omega) (by omega), ← putI_put]; simp only [pairF]; rw [← e1, ← e2]), (by first | exact hg3_35 | exact OgR.weak hg3_35), ho44, (by first | exact hg3_44 | exact OgR.weak hg3_44), innE hn45 (by rw [spK_step (by omega) (by omega) (by omega)]; first | exact (ct_old hle).symm | exact (ct_pair1 hgt (by omega)).symm | exact (ct_pair hgt).symm), (by first | exact hz3_45 | exact BlR.weak hz3_45), hd35_44, hd35_45, hd44_45, (by first | omega | assumption | (simp_all; done) | (simp_all; omega))⟩, by omega⟩
        try simp only [nq] at hc10
        have hle : ¬ (pairF a0 xa3 (spK a0 xa3 (genF a0 xa3 xa2 n) n i k) i k).1 ∉ (spK a0 xa3 (genF a0 xa3 xa2 n) n i k).map (·.1) := (by simp only [pairF]; rw [← e1, ← e2]; exact fun h9 => by have h8 := putI_gt.2 h9; omega)
        refine CW.skipS ?_
        refine CW.reg ?_
        refine WL.mv rfl rfl ?_
        refine WL.asg rfl rfl ?_
        refine WL.nil ?_
        refine NQ.block ?_
        refine NQ.then ?_
        refine CW.reg ?_
        refine WL.mv rfl rfl ?_
        refine WL.pure rfl rfl rfl (PV.add rfl rfl (by constructor <;> omega)) ?_
        refine WL.asg rfl rfl ?_
        refine WL.nil ?_
        refine NQ.next (ρ := [(4, _), (5, _), (11, _)]) ⟨rfl, rfl, rfl, rfl, rfl, rfl, trivial⟩ ?_
        exact ⟨_, ⟨v35, og35, v20, og20, _, os20, k + 1, rfl, rfl, hU3, osE ho35 (by rw [spK_step (by omega) (by omega) (by omega), ← putI_put]; simp only [pairF]; rw [← e1, ← e2]), (by first | exact hg3_35 | exact OgR.weak hg3_35), ho20, (by first | exact hg3_20 | exact OgR.weak hg3_20), innE hn21 (by rw [spK_step (by omega) (by omega) (by omega)]; first | exact (ct_old hle).symm | exact (ct_pair1 hgt (by omega)).symm | exact (ct_pair hgt).symm), (by first | exact hz3_21 | exact BlR.weak hz3_21), (Dj.symm hd20_35), hd21_35, hd20_21, (by first | omega | assumption | (simp_all; done) | (simp_all; omega))⟩, by omega⟩
      try simp only [nq] at hc5
      refine CW.exit ?_
      refine XQ.then ?_
      refine XQ.then ?_
      refine XQ.here ?_
      refine NQ.block ?_
      refine NQ.then ?_
      refine CW.reg ?_
      refine WL.mv rfl rfl ?_
      refine WL.pure rfl rfl rfl (PV.add rfl rfl (by constructor <;> omega)) ?_
      refine WL.asg rfl rfl ?_
      refine WL.nil ?_
      refine NQ.next (ρ := [(4, _), (5, _), (10, _)]) ⟨rfl, rfl, rfl, rfl, rfl, trivial⟩ ?_
      exact ⟨_, ⟨v19, og19, v20, og20, _, os20, i + 1, rfl, rfl, hU2, osE ho19 (by rw [spK_end (by omega) (by omega) (by omega)]), (by first | exact hg2_19 | exact OgR.weak hg2_19), ho20, (by first | exact hg2_20 | exact OgR.weak hg2_20), innE hn21 (by rw [spK_end (by omega) (by omega) (by omega)]), (by first | exact hz2_21 | exact BlR.weak hz2_21), hd19_20, hd19_21, hd20_21, (by first | omega | assumption | (simp_all; done) | (simp_all; omega))⟩, by omega⟩
    try simp only [nq] at hc4
    refine CW.exit ?_
    refine XQ.then ?_
    refine XQ.then ?_
    refine XQ.here ?_
    refine NQ.block ?_
    refine NQ.then ?_
    refine CW.reg ?_
    refine WL.mv rfl rfl ?_
    refine WL.pure rfl rfl rfl (PV.add rfl rfl (by constructor <;> omega)) ?_
    refine WL.asg rfl rfl ?_
    refine WL.nil ?_
    refine NQ.next (ρ := [(4, _), (5, _), (9, _)]) ⟨rfl, rfl, rfl, rfl, trivial⟩ ?_
    exact ⟨_, ⟨v16, og16, v17, og17, _, os17, n + 1, rfl, rfl, hU1, osE ho16 (by rw [genF_succ hml2, spI_end (by omega) (by omega)]), (by first | exact hg1_16 | exact OgR.weak hg1_16), ho17, (by first | exact hg1_17 | exact OgR.weak hg1_17), innE hn18 (by rw [genF_succ hml2, spI_end (by omega) (by omega)]), (by first | exact hz1_18 | exact BlR.weak hz1_18), hd16_17, hd16_18, hd17_18, (by exact genF_le tv hml2)⟩, by omega⟩
  try simp only [nq] at hc3
  refine CW.exit ?_
  refine XQ.then ?_
  refine XQ.then ?_
  refine XQ.here ?_
  refine NQ.then ?_
  refine CW.seq ?_
  refine CW.reg ?_
  refine WL.mv rfl rfl ?_
  refine WL.mv rfl rfl ?_
  refine WL.asg rfl rfl ?_
  refine WL.asg rfl rfl ?_
  refine WL.nilS ?_
  refine CW.ret ?_
  refine RQ.r2 rfl rfl ?_
  refine ⟨hB, v13, og13, v14, og14, _ , os14, ?_, osE ho13 ?_, hl13, ho14, hl14, innE hn15 ?_, hl15, hd14_15, hd13_14, hd13_15⟩
  · skip
    rfl
  · skip
    rw [genF_done tv (by omega)]
  · skip
    rw [genF_done tv (by omega)]
theorem c_spec_l02None {w : World} {N : Int} (hN : 0 ≤ N ∧ N ≤ 1048576) : Calls Try.prog 109 #[.int .i64 N] w (Ret1 (fun v w' => Ext w w' ∧ ∃ v1 og_v1, v = v1 ∧ Osl VI w' og_v1 v1 (List.replicate N.toNat (-1 : Int)) ∧ Lo w og_v1)) := by
  have hB : Ext w w := Ext.refl w
  refine callsOf (vs := [_]) Try.func109 rfl Try.ntmps109 rfl rfl ?_
  refine CW.seq ?_
  refine CW.reg ?_
  refine WL.asg rfl rfl ?_
  refine WL.nilS ?_
  refine CW.seq ?_
  refine CW.reg ?_
  refine WL.op rfl (OpK.buildS VI (os := []) [] rfl T.sl22 rfl rfl T.zv2 rfl (by intro z hz; cases hz) rfl (fun v1 g1 w1 hXw1 ho1 hge1 => ?_))
  have hl1 := Lo.new hB hge1
  have hB := hB.trans hXw1
  refine WL.asg rfl rfl ?_
  refine WL.nilS ?_
  refine CW.seq ?_
  refine CW.block ?_
  have hlt1 := ho1.ltO
  refine CW.loop (σk := []) (fun ρ wz m => ∃ (v2 : Value) (og2 : Option Nat) (k : Nat), ρ = [(0, .int .i64 (N - (k : Nat))), (3, v2)] ∧ m = N.toNat - k ∧ UpdL [(some g1)] w1 wz ∧ Osl VI wz og2 v2 (List.replicate k (-1 : Int)) ∧ OgR w1 (some g1) og2 ∧ ((k : Int) ≤ N)) (ρ₀ := [(0, _), (3, _)]) (m₀ := _) ⟨rfl, rfl, trivial⟩ ⟨v1, (some g1), 0, (by simp), rfl, (UpdL.refl _ _), osE ho1 (by rfl), OgR.refl _ _, (by first | omega | rfl | (simp; done) | assumption | (simp_all; done))⟩ ?_
  rintro _ wl1 _ ⟨v2, og2, k, rfl, rfl, hU0, ho2, ha2, hk⟩
  have hl2 := Lo.ogr hl1 hB ha2
  have hg0_2 := ha2
  have hk0_2 : OkB [(some g1)] w1 og2 := OkB.ogr (OkB.mem (by simp)) (Nat.le_refl _) ha2
  have hB := hB.loop hU0 ⟨hl1, trivial⟩
  refine CW.seq ?_
  refine CW.seq ?_
  refine CW.reg ?_
  refine WL.mv rfl rfl ?_
  refine WL.pure rfl rfl rfl (PV.gtr rfl rfl) ?_
  refine WL.nilS ?_
  refine CW.cond rfl (fun hc1 => ?_) (fun hc1 => ?_)
  · skip
    try simp only [nq] at hc1
    refine CW.skipS ?_
    refine CW.seq ?_
    refine CW.block ?_
    refine CW.reg ?_
    refine WL.mv rfl rfl ?_
    refine WL.op rfl (OpK.buildS VI (os := [.const (.int .i64 (-1))]) [_] rfl T.sl22 rfl rfl T.zv2 rfl (by intro z hz; first | rfl | (simp only [List.mem_cons, List.not_mem_nil, or_false] at hz; subst hz; exact (by first | exact Rd.cells1 (by assumption) | exact Osl.cells1 (by assumption) | exact Osn.cells1 (by assumption) | exact Rd.cells1 (NL.rd (by assumption)) | exact Inn.cell1 (by assumption) (by omega) | assumption | rfl))) rfl (fun v3 g3 w2 hXw2 ho3 hge3 => ?_))
    have hl3 := Lo.new hB hge3
    have hd2_3 := Dj.new ho2.ltO hge3
    have hk0_3 := OkN.new hU0 hge3
    have hg0_3 := OgR.new hU0.size hge3
    have hB := hB.trans hXw2
    have ho2 := ho2.up hXw2
    have hU0 := hU0.ext hXw2
    refine WL.op rfl (OpK.appendS (f := VI) rfl T.sl22 T.zv2 rfl rfl ho2 rfl (Osl.src ho3 (fun _ => rfl)) (by first | (simp only [List.length_cons, List.length_nil]; omega) | (simp_all; omega)) (fun v4 og4 w3 hXw3 ho4 hap4 => ?_))
    have hl4 := Lo.app hl2 hB hap4
    have hd3_4 := Dj.app (Dj.symm hd2_3) ho3.ltO hap4
    have hk0_4 := OkN.app hU0 hk0_2 hap4
    have hg0_4 := OgR.app hg0_2 hU0.size hap4
    have hB := hB.updL hXw3 hl2
    have ho3 := ho3.updD hXw3 (Dj.symm hd2_3)
    have hU0 := hU0.step hXw3 hk0_2
    refine WL.asg rfl rfl ?_
    refine WL.nil ?_
    refine NQ.block ?_
    refine NQ.then ?_
    refine CW.reg ?_
    refine WL.mv rfl rfl ?_
    refine WL.pure rfl rfl rfl (PV.sub rfl rfl (by constructor <;> omega)) ?_
    refine WL.asg rfl rfl ?_
    refine WL.nil ?_
    refine NQ.next (ρ := [(0, _), (3, _)]) ⟨rfl, rfl, trivial⟩ ?_
    exact ⟨_, ⟨v4, og4, k + 1, (by simp; omega), rfl, hU0, osE ho4 (by exact rep_put _ _), (by first | exact hg0_4 | exact OgR.weak hg0_4), (by first | omega | assumption | (simp_all; done) | (simp_all; omega))⟩, by omega⟩
  try simp only [nq] at hc1
  refine CW.exit ?_
  refine XQ.then ?_
  refine XQ.then ?_
  refine XQ.here ?_
  refine NQ.then ?_
  refine CW.seq ?_
  refine CW.reg ?_
  refine WL.mv rfl rfl ?_
  refine WL.asg rfl rfl ?_
  refine WL.nilS ?_
  refine CW.ret ?_
  refine RQ.r1 rfl ?_
  refine ⟨hB, v2, og2, ?_, osE ho2 ?_, hl2⟩
  · skip
    rfl
  · skip
    rw [show k = N.toNat from (by omega)]
theorem c_spec_l02Equal {w : World} {va vb : Value} {xs ys : List Int} (ha : Rd EI w va xs) (hb : Rd EI w vb ys) : Calls Try.prog 110 #[va, vb] w (Ret1 (RQt (.bool (decide (xs = ys))) w)) := by
  have hB : Ext w w := Ext.refl w
  have hla := ha.leI; have hlb := hb.leI
  refine callsOf (vs := [_, _]) Try.func110 rfl Try.ntmps110 rfl rfl ?_
  refine CW.seq ?_
  refine CW.reg ?_
  refine WL.asg rfl rfl ?_
  refine WL.nilS ?_
  refine CW.seq ?_
  refine CW.seq ?_
  refine CW.reg ?_
  refine WL.mv rfl rfl ?_
  refine WL.pure rfl rfl rfl ((by first | exact PV.len rfl (by assumption) T.sl22 | exact PV.lenOs rfl (by assumption) T.sl22 | exact PV.len rfl (NL.rd (by assumption)) T.sl22 | exact PV.len rfl (Inn.rd (by assumption) (by omega)) T.sl22)) ?_
  refine WL.mv rfl rfl ?_
  refine WL.pure rfl rfl rfl ((by first | exact PV.len rfl (by assumption) T.sl22 | exact PV.lenOs rfl (by assumption) T.sl22 | exact PV.len rfl (NL.rd (by assumption)) T.sl22 | exact PV.len rfl (Inn.rd (by assumption) (by omega)) T.sl22)) ?_
  refine WL.pure rfl rfl rfl (PV.neq rfl rfl) ?_
  refine WL.nilS ?_
  refine CW.cond rfl (fun hc1 => ?_) (fun hc1 => ?_)
  · skip
    try simp only [nq] at hc1
    refine CW.seq ?_
    refine CW.reg ?_
    refine WL.asg rfl rfl ?_
    refine WL.nilS ?_
    refine CW.ret ?_
    refine RQ.then ?_
    refine RQ.r1 rfl ?_
    refine ⟨?_, hB⟩
    first | exact bT (eq_of_takes (by omega) (by omega) he) | exact bF (by rintro rfl; simp_all)
  try simp only [nq] at hc1
  refine CW.skipS ?_
  refine CW.seq ?_
  refine CW.seq ?_
  refine CW.reg ?_
  refine WL.asg rfl rfl ?_
  refine WL.nilS ?_
  refine CW.block ?_
  refine CW.loop (σk := [(0, _), (1, _)]) (fun ρ wz m => ∃ (k : Nat), ρ = [(5, .int .i64 (k : Nat))] ∧ m = xs.length - k ∧ UpdL [] w wz ∧ (k ≤ xs.length) ∧ (xs.take k = ys.take k)) (ρ₀ := [(5, _)]) (m₀ := _) ⟨rfl, rfl, rfl, trivial⟩ ⟨0, rfl, rfl, (UpdL.refl _ _), (by first | omega | rfl | (simp; done) | assumption | (simp_all; done)), (by first | omega | rfl | (simp; done) | assumption | (simp_all; done))⟩ ?_
  rintro _ wl1 _ ⟨k, rfl, rfl, hU0, hk, he⟩
  have hB := hB.loop hU0 trivial
  refine CW.seq ?_
  refine CW.seq ?_
  refine CW.reg ?_
  refine WL.mv rfl rfl ?_
  refine WL.mv rfl rfl ?_
  refine WL.pure rfl rfl rfl ((by first | exact PV.len rfl (by assumption) T.sl22 | exact PV.lenOs rfl (by assumption) T.sl22 | exact PV.len rfl (NL.rd (by assumption)) T.sl22 | exact PV.len rfl (Inn.rd (by assumption) (by omega)) T.sl22)) ?_
  refine WL.pure rfl rfl rfl (PV.lss rfl rfl) ?_
  refine WL.nilS ?_
  refine CW.cond rfl (fun hc2 => ?_) (fun hc2 => ?_)
  · skip
    try simp only [nq] at hc2
    refine CW.skipS ?_
    refine CW.seq ?_
    refine CW.block ?_
    refine CW.seq ?_
    refine CW.draw T.mixed (by kernel_rfl) (fun _ _ _ _ _ h => h) (fun w8 w9 => Upd none w8 w9) 9 (.take 0 (.take 1 (.take 2 (.take 3 (.take 4 (.take 5 (.take 6 (.take 7 (.take 8 .done))))))))) (by kernel_rfl) (fun w1 hXd => ?_)
    have hB := hB.trans hXd
    have hU0 := hU0.ext hXd
    have hBr := hB
    have hS : Upd none w1 w1 := Ext.toUpd (Ext.refl _)
    refine HP.take rfl rfl rfl rfl hS (fun wS hS1 => PV.move rfl) ?_
    refine HP.take rfl rfl rfl rfl hS (fun wS hS1 => PV.move rfl) ?_
    first
      | refine HP.at (x := .tmp 17) (y := .tmp 18) (E := EI) (0) rfl rfl (by first | assumption | exact Inn.rd (by assumption) (by omega)) (by first | omega | (simp only [List.length_set]; omega) | (simp only [List.length_append, List.length_take, List.length_replicate, List.length_drop]; omega)) (fun p1 csp1 hpp1 hcp1 hq => ?_)
      | refine HP.atZ (x := .tmp 17) (y := .tmp 18) (E := EI) (0) rfl rfl (by first | assumption | exact Inn.rd (by assumption) (by omega)) (by first | omega | (simp only [List.length_set]; omega) | (simp only [List.length_append, List.length_take, List.length_replicate, List.length_drop]; omega)) (fun p1 csp1 hpp1 hzp1 hcp1 hq => ?_)
    cases hq
    refine HP.take rfl rfl rfl rfl hS (fun wS hS1 => (by first | exact PV.indexAddr hpp1 rfl rfl T.sl22 | exact PV.indexAddr hpp1 rfl (by rw [← hzp1]; rfl) T.sl22)) ?_
    refine HP.take rfl rfl rfl rfl hS (fun wS hS1 => (by first | exact PV.load0 T.na2 rfl (by first | exact Cells.up (by assumption) (hBr.trans hS1) | exact Bx.cells (Bx.updD (by assumption) hS1 (Dj.nlR _)) | exact Cells.upd (by assumption) hS1 (by simp)) (Ext.refl _) rfl | exact PV.load1 T.na2 rfl (by first | exact Cells.up (by assumption) (hBr.trans hS1) | exact Bx.cells (Bx.updD (by assumption) hS1 (Dj.nlR _)) | exact Cells.upd (by assumption) hS1 (by simp)) (Ext.refl _) rfl)) ?_
    refine HP.take rfl rfl rfl rfl hS (fun wS hS1 => PV.move rfl) ?_
    refine HP.take rfl rfl rfl rfl hS (fun wS hS1 => PV.move rfl) ?_
    first
      | refine HP.at (x := .tmp 21) (y := .tmp 22) (E := EI) (0) rfl rfl (by first | assumption | exact Inn.rd (by assumption) (by omega)) (by first | omega | (simp only [List.length_set]; omega) | (simp only [List.length_append, List.length_take, List.length_replicate, List.length_drop]; omega)) (fun p2 csp2 hpp2 hcp2 hq => ?_)
      | refine HP.atZ (x := .tmp 21) (y := .tmp 22) (E := EI) (0) rfl rfl (by first | assumption | exact Inn.rd (by assumption) (by omega)) (by first | omega | (simp only [List.length_set]; omega) | (simp only [List.length_append, List.length_take, List.length_replicate, List.length_drop]; omega)) (fun p2 csp2 hpp2 hzp2 hcp2 hq => ?_)
    cases hq
    refine HP.take rfl rfl rfl rfl hS (fun wS hS1 => (by first | exact PV.indexAddr hpp2 rfl rfl T.sl22 | exact PV.indexAddr hpp2 rfl (by rw [← hzp2]; rfl) T.sl22)) ?_
    refine HP.take rfl rfl rfl rfl hS (fun wS hS1 => (by first | exact PV.load0 T.na2 rfl (by first | exact Cells.up (by assumption) (hBr.trans hS1) | exact Bx.cells (Bx.updD (by assumption) hS1 (Dj.nlR _)) | exact Cells.upd (by assumption) hS1 (by simp)) (Ext.refl _) rfl | exact PV.load1 T.na2 rfl (by first | exact Cells.up (by assumption) (hBr.trans hS1) | exact Bx.cells (Bx.updD (by assumption) hS1 (Dj.nlR _)) | exact Cells.upd (by assumption) hS1 (by simp)) (Ext.refl _) rfl)) ?_
    refine HP.take rfl rfl rfl rfl hS (fun wS hS1 => PV.neq rfl rfl) ?_
    refine HP.doneS ?_
    refine CW.cond rfl (fun hc3 => ?_) (fun hc3 => ?_)
    · skip
      try simp only [nq] at hc3
      refine CW.seq ?_
      refine CW.reg ?_
      refine WL.asg rfl rfl ?_
      refine WL.nilS ?_
      refine CW.ret ?_
      refine RQ.block ?_
      refine RQ.then ?_
      refine RQ.then ?_
      refine RQ.block ?_
      refine RQ.then ?_
      refine RQ.r1 rfl ?_
      refine ⟨?_, hB⟩
      first | exact bT (eq_of_takes (by omega) (by omega) he) | exact bF (by rintro rfl; simp_all)
    try simp only [nq] at hc3
    refine CW.skip ?_
    refine NQ.block ?_
    refine NQ.then ?_
    refine CW.reg ?_
    refine WL.mv rfl rfl ?_
    refine WL.pure rfl rfl rfl (PV.add rfl rfl (by constructor <;> omega)) ?_
    refine WL.asg rfl rfl ?_
    refine WL.nil ?_
    refine NQ.next (ρ := [(5, _)]) ⟨rfl, rfl, rfl, trivial⟩ ?_
    exact ⟨_, ⟨k + 1, rfl, rfl, hU0, (by first | omega | assumption | (simp_all; done) | (simp_all; omega)), (by exact take_eq_succ (by omega) (by omega) he (by assumption))⟩, by omega⟩
  try simp only [nq] at hc2
  refine CW.exit ?_
  refine XQ.then ?_
  refine XQ.then ?_
  refine XQ.here ?_
  refine NQ.then ?_
  refine CW.seq ?_
  refine CW.reg ?_
  refine WL.asg rfl rfl ?_
  refine WL.nilS ?_
  refine CW.ret ?_
  refine RQ.r1 rfl ?_
  refine ⟨?_, hB⟩
  first | exact bT (eq_of_takes (by omega) (by omega) he) | exact bF (by rintro rfl; simp_all)

end Go.Proofs.Ytfnmkcncofjjkaa
