/- Walks of the functions that the law FnExactSameGrammar reaches: each says what its function computes. No condition. -/
import Derived.Test.YtcnjfbhgicoogaaProg
import Derived.Test.YtcnjfbhgicoogaaLibL
import Derived.Test.YtcnjfbhgicoogaaPlA
namespace Go.Proofs.Ytcnjfbhgicoogaa.T
open Go Go.WX Go.Proofs

theorem sl22 : slOf Try.prog 22 = some (112, 4, 32) := by kernel_rfl
theorem fl24_2 : flOf Try.prog 24 2 = some (2, 22, 1) := by kernel_rfl
theorem na22 : naOf Try.prog 22 = true := by kernel_rfl
theorem cf52 : cfOf Try.prog 52 = true := by kernel_rfl
theorem zv67 : zvOf Try.prog 67 = some (.agg #[.int .i64 0, .int .i64 0, .int .i64 0, .int .i64 0]) := by kernel_rfl
theorem fl112_0 : flOf Try.prog 112 0 = some (0, 2, 1) := by kernel_rfl
theorem na2 : naOf Try.prog 2 = true := by kernel_rfl
theorem fl67_0 : flOf Try.prog 67 0 = some (0, 2, 1) := by kernel_rfl
theorem sz2 : szOf Try.prog 2 = some 1 := by kernel_rfl
theorem fl112_1 : flOf Try.prog 112 1 = some (1, 2, 1) := by kernel_rfl
theorem fl67_1 : flOf Try.prog 67 1 = some (1, 2, 1) := by kernel_rfl
theorem fl112_2 : flOf Try.prog 112 2 = some (2, 2, 1) := by kernel_rfl
theorem fl67_2 : flOf Try.prog 67 2 = some (2, 2, 1) := by kernel_rfl
theorem fl112_3 : flOf Try.prog 112 3 = some (3, 2, 1) := by kernel_rfl
theorem fl67_3 : flOf Try.prog 67 3 = some (3, 2, 1) := by kernel_rfl
theorem ag67 : agOf Try.prog 67 = some 4 := by kernel_rfl
theorem sz67 : szOf Try.prog 67 = some 4 := by kernel_rfl
theorem sl27 : slOf Try.prog 27 = some (67, 4, 32) := by kernel_rfl
theorem ag112 : agOf Try.prog 112 = some 4 := by kernel_rfl
theorem cf87 : cfOf Try.prog 87 = true := by kernel_rfl
theorem zv29 : zvOf Try.prog 29 = some (.agg #[.int .i64 0, .int .i64 0, .slice none 0 0]) := by kernel_rfl
theorem fl24_0 : flOf Try.prog 24 0 = some (0, 2, 1) := by kernel_rfl
theorem fl29_0 : flOf Try.prog 29 0 = some (0, 2, 1) := by kernel_rfl
theorem fl24_1 : flOf Try.prog 24 1 = some (1, 2, 1) := by kernel_rfl
theorem fl29_1 : flOf Try.prog 29 1 = some (1, 2, 1) := by kernel_rfl
theorem cf54 : cfOf Try.prog 54 = true := by kernel_rfl
theorem fl29_2 : flOf Try.prog 29 2 = some (2, 27, 1) := by kernel_rfl
theorem sz27 : szOf Try.prog 27 = some 1 := by kernel_rfl
theorem ag29 : agOf Try.prog 29 = some 3 := by kernel_rfl
theorem sz29 : szOf Try.prog 29 = some 3 := by kernel_rfl
theorem mixed : Try.prog.follows .mixedOrders = true := by kernel_rfl
theorem na27 : naOf Try.prog 27 = true := by kernel_rfl
theorem s467 : s4Of Try.prog 67 = true := by kernel_rfl
theorem cf53 : cfOf Try.prog 53 = true := by kernel_rfl
theorem cf55 : cfOf Try.prog 55 = true := by kernel_rfl
theorem cf88 : cfOf Try.prog 88 = true := by kernel_rfl
theorem cf56 : cfOf Try.prog 56 = true := by kernel_rfl
theorem ag24 : agOf Try.prog 24 = some 3 := by kernel_rfl
theorem cf15 : cfOf Try.prog 15 = true := by kernel_rfl
theorem cf17 : cfOf Try.prog 17 = true := by kernel_rfl
theorem cf16 : cfOf Try.prog 16 = true := by kernel_rfl
theorem cf18 : cfOf Try.prog 18 = true := by kernel_rfl
theorem bl4 : blOf Try.prog 4 = true := by kernel_rfl
theorem cf19 : cfOf Try.prog 19 = true := by kernel_rfl

end Go.Proofs.Ytcnjfbhgicoogaa.T
namespace Go.Proofs.Ytcnjfbhgicoogaa
open Go Go.WX Go.Proofs
set_option linter.unusedSimpArgs false
set_option linter.unusedVariables false

theorem c_laws_szRuleS {w : World} {va : Value} {xs : List R4} {left : Int} (ha : Rd ER w va xs) (hlf : left ≤ 1048576 ∧ -1 ≤ left) : Calls Try.prog 52 #[va, .int .i64 left] w (Ret1 (RQt (.int .i64 (max (-1) (left - xs.length))) w)) := by
  have hB : Ext w w := Ext.refl w
  have hla := ha.leI
  refine callsOf (vs := [_, _]) Try.func52 rfl Try.ntmps52 rfl rfl ?_
  refine CW.seq ?_
  refine CW.reg ?_
  refine WL.pure rfl rfl rfl (PV.assign rfl) ?_
  refine WL.nilS ?_
  refine CW.seq ?_
  refine CW.reg ?_
  refine WL.pure rfl rfl rfl (PV.move rfl) ?_
  refine WL.pure rfl rfl rfl (PV.move rfl) ?_
  refine WL.pure rfl rfl rfl ((by first | exact PV.len rfl (by assumption) T.sl22 | exact PV.lenOs rfl (by assumption) T.sl22)) ?_
  refine WL.pure rfl rfl rfl (PV.sub rfl rfl (by constructor <;> omega)) ?_
  refine WL.pure rfl rfl rfl (PV.assign rfl) ?_
  refine WL.nilS ?_
  refine CW.seq ?_
  refine CW.seq ?_
  refine CW.reg ?_
  refine WL.pure rfl rfl rfl (PV.move rfl) ?_
  refine WL.pure rfl rfl rfl (PV.lss rfl rfl) ?_
  refine WL.nilS ?_
  refine CW.cond rfl (fun hc1 => ?_) (fun hc1 => ?_)
  · skip
    try simp only [decide_eq_true_eq, decide_eq_false_iff_not, Bool.not_eq_true', Bool.not_eq_false', Bool.not_eq_eq_eq_not, Bool.not_true, Bool.not_false, Int.not_lt, Int.not_le, Classical.not_not, beq_iff_eq, beq_eq_false_iff_ne] at hc1
    refine CW.seq ?_
    refine CW.reg ?_
    refine WL.pure rfl rfl rfl (PV.assign rfl) ?_
    refine WL.nilS ?_
    refine CW.ret ?_
    refine RQ.then ?_
    refine RQ.r1 rfl ?_
    refine ⟨?_, hB⟩
    exact iE (by omega)
  try simp only [decide_eq_true_eq, decide_eq_false_iff_not, Bool.not_eq_true', Bool.not_eq_false', Bool.not_eq_eq_eq_not, Bool.not_true, Bool.not_false, Int.not_lt, Int.not_le, Classical.not_not, beq_iff_eq, beq_eq_false_iff_ne] at hc1
  refine CW.skipS ?_
  refine CW.seq ?_
  refine CW.reg ?_
  refine WL.pure rfl rfl rfl (PV.move rfl) ?_
  refine WL.pure rfl rfl rfl (PV.assign rfl) ?_
  refine WL.nilS ?_
  refine CW.ret ?_
  refine RQ.r1 rfl ?_
  refine ⟨?_, hB⟩
  exact iE (by omega)
theorem c_laws_szGrammar {w : World} {a0 : Int} {a1 : Int} {va2 : Value} {xa2 : List R4} {left : Int} (ha2 : Rd ER w va2 xa2) (hlf : left ≤ 1048576 ∧ -1 ≤ left) : Calls Try.prog 15 #[.agg #[.int .i64 a0, .int .i64 a1, va2], .int .i64 left] w (Ret1 (RQt (.int .i64 (max (-1) (left - (xa2.length)))) w)) := by
  have hB : Ext w w := Ext.refl w
  have hla2 := ha2.leI
  refine callsOf (vs := [_, _]) Try.func15 rfl Try.ntmps15 rfl rfl ?_
  refine CW.seq ?_
  refine CW.reg ?_
  refine WL.op rfl (OpK.box rfl rfl (by first | rfl | exact Rd.cells1 (by assumption) | exact Osl.cells1 (by assumption) | exact Osn.cells1 (by assumption)) (fun b1 w1 hXw1 hb1 hge1 => ?_))
  have hl1 := Lo.new hB hge1
  have hB := hB.trans hXw1
  refine WL.pure rfl rfl rfl (PV.assign rfl) ?_
  refine WL.nilS ?_
  refine CW.seq ?_
  refine CW.reg ?_
  refine WL.pure rfl rfl rfl ((by first | exact PV.fieldAddr T.fl24_2 rfl (by first | assumption | exact Bx.cells (by assumption)) | exact PV.fieldAddrP T.fl24_2 rfl rfl)) ?_
  refine WL.pure rfl rfl rfl ((by first | exact PV.load0 T.na22 rfl (by first | exact Cells.up (by assumption) hB | exact Bx.cells (by assumption) | assumption) (Ext.refl _) rfl | exact PV.load1 T.na22 rfl (by first | exact Cells.up (by assumption) hB | exact Bx.cells (by assumption) | assumption) (Ext.refl _) rfl)) ?_
  refine WL.pure rfl rfl rfl (PV.move rfl) ?_
  refine WL.op rfl (OpK.callR rfl T.cf52 rfl (c_laws_szRuleS (by first | assumption | exact Rd.up (by assumption) hB | exact Osl.rd (by assumption) | exact Osn.rdR (by assumption)) (by first | assumption | omega | (simp only [marks_len, marksB_len]; omega))) (fun w2 hXw2 => ?_))
  have hB := hB.trans hXw2
  have hb1 := hb1.up hXw2
  refine WL.pure rfl rfl rfl (PV.assign rfl) ?_
  refine WL.nilS ?_
  refine CW.seq ?_
  refine CW.seq ?_
  refine CW.reg ?_
  refine WL.pure rfl rfl rfl (PV.move rfl) ?_
  refine WL.pure rfl rfl rfl (PV.lss rfl rfl) ?_
  refine WL.nilS ?_
  refine CW.cond rfl (fun hc1 => ?_) (fun hc1 => ?_)
  · skip
    try simp only [decide_eq_true_eq, decide_eq_false_iff_not, Bool.not_eq_true', Bool.not_eq_false', Bool.not_eq_eq_eq_not, Bool.not_true, Bool.not_false, Int.not_lt, Int.not_le, Classical.not_not, beq_iff_eq, beq_eq_false_iff_ne] at hc1
    refine CW.seq ?_
    refine CW.reg ?_
    refine WL.pure rfl rfl rfl (PV.assign rfl) ?_
    refine WL.nilS ?_
    refine CW.ret ?_
    refine RQ.then ?_
    refine RQ.r1 rfl ?_
    refine ⟨?_, hB⟩
    exact iE (by omega)
  try simp only [decide_eq_true_eq, decide_eq_false_iff_not, Bool.not_eq_true', Bool.not_eq_false', Bool.not_eq_eq_eq_not, Bool.not_true, Bool.not_false, Int.not_lt, Int.not_le, Classical.not_not, beq_iff_eq, beq_eq_false_iff_ne] at hc1
  refine CW.skipS ?_
  refine CW.seq ?_
  refine CW.reg ?_
  refine WL.pure rfl rfl rfl (PV.move rfl) ?_
  refine WL.pure rfl rfl rfl (PV.assign rfl) ?_
  refine WL.nilS ?_
  refine CW.ret ?_
  refine RQ.r1 rfl ?_
  refine ⟨?_, hB⟩
  exact iE (by omega)
theorem c_laws_toRule {w : World} {a0 a1 a2 a3 : Int} : Calls Try.prog 87 #[.agg #[.int .i64 a0, .int .i64 a1, .int .i64 a2, .int .i64 a3]] w (Ret1 (RQt (.agg #[.int .i64 a0, .int .i64 a1, .int .i64 a2, .int .i64 a3]) w)) := by
  have hB : Ext w w := Ext.refl w
  refine callsOf (vs := [_]) Try.func87 rfl Try.ntmps87 rfl rfl ?_
  refine CW.seq ?_
  refine CW.reg ?_
  refine WL.op rfl (OpK.box rfl rfl (by first | rfl | exact Rd.cells1 (by assumption) | exact Osl.cells1 (by assumption) | exact Osn.cells1 (by assumption)) (fun b1 w1 hXw1 hb1 hge1 => ?_))
  have hl1 := Lo.new hB hge1
  have hB := hB.trans hXw1
  refine WL.op rfl (OpK.alloc rfl T.zv67 rfl (fun b2 w2 hXw2 hb2 hge2 => ?_))
  have hl2 := Lo.new hB hge2
  have hd1_2 := Dj.new hb1.ltO hge2
  have hB := hB.trans hXw2
  have hb1 := hb1.up hXw2
  refine WL.nilS ?_
  refine CW.seq ?_
  refine CW.reg ?_
  refine WL.op rfl (OpK.alloc rfl T.zv67 rfl (fun b3 w3 hXw3 hb3 hge3 => ?_))
  have hl3 := Lo.new hB hge3
  have hd1_3 := Dj.new hb1.ltO hge3
  have hd2_3 := Dj.new hb2.ltO hge3
  have hB := hB.trans hXw3
  have hb1 := hb1.up hXw3
  have hb2 := hb2.up hXw3
  refine WL.nilS ?_
  refine CW.seq ?_
  refine CW.reg ?_
  refine WL.pure rfl rfl rfl ((by first | exact PV.fieldAddr T.fl112_0 rfl (by first | assumption | exact Bx.cells (by assumption)) | exact PV.fieldAddrP T.fl112_0 rfl rfl)) ?_
  refine WL.pure rfl rfl rfl ((by first | exact PV.load0 T.na2 rfl (by first | exact Cells.up (by assumption) hB | exact Bx.cells (by assumption) | assumption) (Ext.refl _) rfl | exact PV.load1 T.na2 rfl (by first | exact Cells.up (by assumption) hB | exact Bx.cells (by assumption) | assumption) (Ext.refl _) rfl)) ?_
  refine WL.pure rfl rfl rfl ((by first | exact PV.fieldAddr T.fl67_0 rfl (by first | assumption | exact Bx.cells (by assumption)) | exact PV.fieldAddrP T.fl67_0 rfl rfl)) ?_
  first
    | refine WL.op rfl (OpK.storeB T.sz2 rfl rfl (by first | rfl | exact Osl.oneCell (by assumption) | exact Osn.oneCell (by assumption) | exact Rd.oneCell (by assumption) | assumption) hb3 rfl (fun w4 hXw4 hb3 => ?_))
    | refine WL.op rfl (OpK.storeB0 T.sz2 rfl rfl (by first | rfl | exact Osl.oneCell (by assumption) | exact Osn.oneCell (by assumption) | exact Rd.oneCell (by assumption) | assumption) hb3 (fun w4 hXw4 hb3 => ?_))
  have hB := hB.updL hXw4 hl3
  have hb1 := hb1.updD hXw4 hd1_3
  have hb2 := hb2.updD hXw4 hd2_3
  refine WL.nilS ?_
  refine CW.seq ?_
  refine CW.reg ?_
  refine WL.pure rfl rfl rfl ((by first | exact PV.fieldAddr T.fl112_1 rfl (by first | assumption | exact Bx.cells (by assumption)) | exact PV.fieldAddrP T.fl112_1 rfl rfl)) ?_
  refine WL.pure rfl rfl rfl ((by first | exact PV.load0 T.na2 rfl (by first | exact Cells.up (by assumption) hB | exact Bx.cells (by assumption) | assumption) (Ext.refl _) rfl | exact PV.load1 T.na2 rfl (by first | exact Cells.up (by assumption) hB | exact Bx.cells (by assumption) | assumption) (Ext.refl _) rfl)) ?_
  refine WL.pure rfl rfl rfl ((by first | exact PV.fieldAddr T.fl67_1 rfl (by first | assumption | exact Bx.cells (by assumption)) | exact PV.fieldAddrP T.fl67_1 rfl rfl)) ?_
  first
    | refine WL.op rfl (OpK.storeB T.sz2 rfl rfl (by first | rfl | exact Osl.oneCell (by assumption) | exact Osn.oneCell (by assumption) | exact Rd.oneCell (by assumption) | assumption) hb3 rfl (fun w5 hXw5 hb3 => ?_))
    | refine WL.op rfl (OpK.storeB0 T.sz2 rfl rfl (by first | rfl | exact Osl.oneCell (by assumption) | exact Osn.oneCell (by assumption) | exact Rd.oneCell (by assumption) | assumption) hb3 (fun w5 hXw5 hb3 => ?_))
  have hB := hB.updL hXw5 hl3
  have hb1 := hb1.updD hXw5 hd1_3
  have hb2 := hb2.updD hXw5 hd2_3
  refine WL.nilS ?_
  refine CW.seq ?_
  refine CW.reg ?_
  refine WL.pure rfl rfl rfl ((by first | exact PV.fieldAddr T.fl112_2 rfl (by first | assumption | exact Bx.cells (by assumption)) | exact PV.fieldAddrP T.fl112_2 rfl rfl)) ?_
  refine WL.pure rfl rfl rfl ((by first | exact PV.load0 T.na2 rfl (by first | exact Cells.up (by assumption) hB | exact Bx.cells (by assumption) | assumption) (Ext.refl _) rfl | exact PV.load1 T.na2 rfl (by first | exact Cells.up (by assumption) hB | exact Bx.cells (by assumption) | assumption) (Ext.refl _) rfl)) ?_
  refine WL.pure rfl rfl rfl ((by first | exact PV.fieldAddr T.fl67_2 rfl (by first | assumption | exact Bx.cells (by assumption)) | exact PV.fieldAddrP T.fl67_2 rfl rfl)) ?_
  first
    | refine WL.op rfl (OpK.storeB T.sz2 rfl rfl (by first | rfl | exact Osl.oneCell (by assumption) | exact Osn.oneCell (by assumption) | exact Rd.oneCell (by assumption) | assumption) hb3 rfl (fun w6 hXw6 hb3 => ?_))
    | refine WL.op rfl (OpK.storeB0 T.sz2 rfl rfl (by first | rfl | exact Osl.oneCell (by assumption) | exact Osn.oneCell (by assumption) | exact Rd.oneCell (by assumption) | assumption) hb3 (fun w6 hXw6 hb3 => ?_))
  have hB := hB.updL hXw6 hl3
  have hb1 := hb1.updD hXw6 hd1_3
  have hb2 := hb2.updD hXw6 hd2_3
  refine WL.nilS ?_
  refine CW.seq ?_
  refine CW.reg ?_
  refine WL.pure rfl rfl rfl ((by first | exact PV.fieldAddr T.fl112_3 rfl (by first | assumption | exact Bx.cells (by assumption)) | exact PV.fieldAddrP T.fl112_3 rfl rfl)) ?_
  refine WL.pure rfl rfl rfl ((by first | exact PV.load0 T.na2 rfl (by first | exact Cells.up (by assumption) hB | exact Bx.cells (by assumption) | assumption) (Ext.refl _) rfl | exact PV.load1 T.na2 rfl (by first | exact Cells.up (by assumption) hB | exact Bx.cells (by assumption) | assumption) (Ext.refl _) rfl)) ?_
  refine WL.pure rfl rfl rfl ((by first | exact PV.fieldAddr T.fl67_3 rfl (by first | assumption | exact Bx.cells (by assumption)) | exact PV.fieldAddrP T.fl67_3 rfl rfl)) ?_
  first
    | refine WL.op rfl (OpK.storeB T.sz2 rfl rfl (by first | rfl | exact Osl.oneCell (by assumption) | exact Osn.oneCell (by assumption) | exact Rd.oneCell (by assumption) | assumption) hb3 rfl (fun w7 hXw7 hb3 => ?_))
    | refine WL.op rfl (OpK.storeB0 T.sz2 rfl rfl (by first | rfl | exact Osl.oneCell (by assumption) | exact Osn.oneCell (by assumption) | exact Rd.oneCell (by assumption) | assumption) hb3 (fun w7 hXw7 hb3 => ?_))
  have hB := hB.updL hXw7 hl3
  have hb1 := hb1.updD hXw7 hd1_3
  have hb2 := hb2.updD hXw7 hd2_3
  refine WL.nilS ?_
  refine CW.seq ?_
  refine CW.reg ?_
  refine WL.pure rfl rfl rfl ((by first | exact PV.loadA T.ag67 rfl (by first | exact Cells.up (by assumption) hB | exact Bx.cells (by assumption) | assumption) (Ext.refl _) rfl | exact PV.loadP (ds := [_, _, _, _]) T.ag67 rfl (by first | exact Cells.up (by assumption) hB | exact Bx.cells (by assumption) | assumption) (Ext.refl _) rfl rfl)) ?_
  refine WL.op rfl (OpK.storeA T.sz67 rfl rfl rfl rfl (by simp [Value.oneCell'] <;> first | done | (repeat' apply And.intro) <;> first | rfl | exact Osl.oneCell (by assumption) | exact Osn.oneCell (by assumption) | exact Rd.oneCell (by assumption) | assumption) hb2 (fun w8 hXw8 hb2 => ?_))
  have hB := hB.updL hXw8 hl2
  have hb1 := hb1.updD hXw8 hd1_2
  have hb3 := hb3.updD hXw8 (Dj.symm hd2_3)
  refine WL.nilS ?_
  refine CW.ret ?_
  refine RQ.rc0 T.ag67 rfl (by first | exact Cells.up (by assumption) hB | exact Bx.cells (by assumption) | assumption) rfl ?_
  refine ⟨?_, hB⟩
  rfl
theorem c_laws_toRuleS {w : World} {va : Value} {xs : List R4} (ha : Rd ER w va xs) (hN : xs.length ≤ 1048576) : Calls Try.prog 54 #[va] w (Ret1 (fun v w' => Ext w w' ∧ ∃ v1 og_v1, v = v1 ∧ Osn 4 gR w' og_v1 v1 (xs) ∧ Lo w og_v1)) := by
  have hB : Ext w w := Ext.refl w
  have hla := ha.leI
  refine callsOf (vs := [_]) Try.func54 rfl Try.ntmps54 rfl rfl ?_
  refine CW.seq ?_
  refine CW.reg ?_
  refine WL.pure rfl rfl rfl (PV.assign rfl) ?_
  refine WL.nilS ?_
  refine CW.seq ?_
  refine CW.reg ?_
  refine WL.pure rfl rfl rfl (PV.move rfl) ?_
  refine WL.pure rfl rfl rfl ((by first | exact PV.len rfl (by assumption) T.sl22 | exact PV.lenOs rfl (by assumption) T.sl22)) ?_
  refine WL.op rfl (OpK.makeN gR ((0, 0, 0, 0)) gR_ok rfl T.sl27 T.zv67 rfl rfl rfl (by constructor <;> omega) (fun v1 g1 w1 hXw1 ho1 hge1 => ?_))
  have hl1 := Lo.new hB hge1
  have hB := hB.trans hXw1
  refine WL.pure rfl rfl rfl (PV.assign rfl) ?_
  refine WL.nilS ?_
  refine CW.seq ?_
  refine CW.seq ?_
  refine CW.reg ?_
  refine WL.pure rfl rfl rfl (PV.assign rfl) ?_
  refine WL.nilS ?_
  refine CW.block ?_
  have hlt1 := ho1.ltO
  refine CW.loop (σk := [(0, _), (3, _)]) (fun ρ wz m => ∃ (k : Nat), ρ = [(4, .int .i64 (k : Nat))] ∧ m = xs.length - k ∧ UpdL [(some g1)] w1 wz ∧ Osn 4 gR wz (some g1) v1 (xs.take k ++ List.replicate (xs.length - k) ((0, 0, 0, 0) : R4)) ∧ (k ≤ xs.length)) (ρ₀ := [(4, _)]) (m₀ := _) ⟨rfl, rfl, rfl, trivial⟩ ⟨0, rfl, rfl, (UpdL.refl _ _), osnE ho1 (by first | rfl | (simp_all; done) | (simp_all; omega)), (by first | omega | rfl | (simp; done) | assumption | (simp_all; done))⟩ ?_
  rintro _ wl1 _ ⟨k, rfl, rfl, hU0, ho1, hk⟩
  have hk0_1 : OkB [(some g1)] w1 (some g1) := OkB.mem (by simp)
  have hB := hB.loop hU0 ⟨hl1, trivial⟩
  have hll : (xs.take k ++ List.replicate (xs.length - k) ((0, 0, 0, 0) : R4)).length = xs.length := (by simp; omega)
  refine CW.seq ?_
  refine CW.seq ?_
  refine CW.reg ?_
  refine WL.pure rfl rfl rfl (PV.move rfl) ?_
  refine WL.pure rfl rfl rfl (PV.move rfl) ?_
  refine WL.pure rfl rfl rfl ((by first | exact PV.len rfl (by assumption) T.sl22 | exact PV.lenOs rfl (by assumption) T.sl22)) ?_
  refine WL.pure rfl rfl rfl (PV.lss rfl rfl) ?_
  refine WL.nilS ?_
  refine CW.cond rfl (fun hc1 => ?_) (fun hc1 => ?_)
  · skip
    try simp only [decide_eq_true_eq, decide_eq_false_iff_not, Bool.not_eq_true', Bool.not_eq_false', Bool.not_eq_eq_eq_not, Bool.not_true, Bool.not_false, Int.not_lt, Int.not_le, Classical.not_not, beq_iff_eq, beq_eq_false_iff_ne] at hc1
    refine CW.skipS ?_
    refine CW.seq ?_
    refine CW.block ?_
    refine CW.reg ?_
    refine WL.pure rfl rfl rfl (PV.move rfl) ?_
    refine WL.pure rfl rfl rfl (PV.move rfl) ?_
    refine WL.pure rfl rfl rfl (PV.move rfl) ?_
    refine WL.pure rfl rfl rfl (PV.move rfl) ?_
    first
      | refine WL.at (x := .tmp 16) (y := .tmp 17) (E := ER) ((0, 0, 0, 0)) rfl rfl (by assumption) (by first | omega | (simp; omega) | (simp_all; omega)) (fun p1 csp1 hpp1 hcp1 hq => ?_)
      | refine WL.atZ (x := .tmp 16) (y := .tmp 17) (E := ER) ((0, 0, 0, 0)) rfl rfl (by assumption) (by first | omega | (simp; omega) | (simp_all; omega)) (fun p1 csp1 hpp1 hzp1 hcp1 hq => ?_)
    cases hq
    refine WL.pure rfl rfl rfl ((by first | exact PV.indexAddr hpp1 rfl rfl T.sl22 | exact PV.indexAddr hpp1 rfl (by rw [← hzp1]; rfl) T.sl22)) ?_
    refine WL.pure rfl rfl rfl ((by first | exact PV.loadA T.ag112 rfl (by first | exact Cells.up (by assumption) hB | exact Bx.cells (by assumption) | assumption) (Ext.refl _) rfl | exact PV.loadP (ds := [_, _, _, _]) T.ag112 rfl (by first | exact Cells.up (by assumption) hB | exact Bx.cells (by assumption) | assumption) (Ext.refl _) rfl rfl)) ?_
    refine WL.op rfl (OpK.callR rfl T.cf87 rfl (c_laws_toRule) (fun w2 hXw2 => ?_))
    have hB := hB.trans hXw2
    have ho1 := ho1.up hXw2
    have hU0 := hU0.ext hXw2
    have hrdp2 := ho1.rdR
    first
      | refine WL.at (x := .tmp 14) (y := .tmp 15) (E := ER) ((0, 0, 0, 0)) rfl rfl hrdp2 (by first | omega | (simp; omega) | (simp_all; omega)) (fun p2 csp2 hpp2 hcp2 hq => ?_)
      | refine WL.atZ (x := .tmp 14) (y := .tmp 15) (E := ER) ((0, 0, 0, 0)) rfl rfl hrdp2 (by first | omega | (simp; omega) | (simp_all; omega)) (fun p2 csp2 hpp2 hzp2 hcp2 hq => ?_)
    cases hq
    refine WL.pure rfl rfl rfl ((by first | exact PV.indexAddr hpp2 rfl rfl T.sl27 | exact PV.indexAddr hpp2 rfl (by rw [← hzp2]; rfl) T.sl27)) ?_
    refine WL.op rfl (OpK.storeN (g := gR) _ T.sz67 rfl rfl hpp2 ho1 (fun w3 hXw3 ho1 => ?_))
    have hB := hB.updL hXw3 hl1
    have hU0 := hU0.step hXw3 hk0_1
    refine WL.nil ?_
    refine NQ.block ?_
    refine NQ.then ?_
    refine CW.reg ?_
    refine WL.pure rfl rfl rfl (PV.move rfl) ?_
    refine WL.pure rfl rfl rfl (PV.add rfl rfl (by constructor <;> omega)) ?_
    refine WL.pure rfl rfl rfl (PV.assign rfl) ?_
    refine WL.nil ?_
    refine NQ.next (ρ := [(4, _)]) ⟨rfl, rfl, rfl, trivial⟩ ?_
    exact ⟨_, ⟨k + 1, rfl, rfl, hU0, osnE ho1 (by exact set_fill (by omega) _ _), (by first | omega | assumption | (simp_all; done) | (simp_all; omega))⟩, by omega⟩
  try simp only [decide_eq_true_eq, decide_eq_false_iff_not, Bool.not_eq_true', Bool.not_eq_false', Bool.not_eq_eq_eq_not, Bool.not_true, Bool.not_false, Int.not_lt, Int.not_le, Classical.not_not, beq_iff_eq, beq_eq_false_iff_ne] at hc1
  refine CW.exit ?_
  refine XQ.then ?_
  refine XQ.then ?_
  refine XQ.here ?_
  refine NQ.then ?_
  refine CW.seq ?_
  refine CW.reg ?_
  refine WL.pure rfl rfl rfl (PV.move rfl) ?_
  refine WL.pure rfl rfl rfl (PV.assign rfl) ?_
  refine WL.nilS ?_
  refine CW.ret ?_
  refine RQ.r1 rfl ?_
  refine ⟨hB, v1, (some g1), ?_, osnE ho1 ?_, hl1⟩
  · skip
    rfl
  · skip
    exact fill_done (by omega) _
theorem c_laws_toGrammar {w : World} {a0 : Int} {a1 : Int} {va2 : Value} {xa2 : List R4}  (ha2 : Rd ER w va2 xa2) (hNa2 : xa2.length ≤ 1048576) : Calls Try.prog 17 #[.agg #[.int .i64 a0, .int .i64 a1, va2]] w (Ret1 (fun v w' => Ext w w' ∧ ∃ u2 og_u2, v = .agg #[.int .i64 a0, .int .i64 a1, u2] ∧ Osn 4 gR w' og_u2 u2 (xa2) ∧ Lo w og_u2)) := by
  have hB : Ext w w := Ext.refl w
  have hla2 := ha2.leI
  refine callsOf (vs := [_]) Try.func17 rfl Try.ntmps17 rfl rfl ?_
  refine CW.seq ?_
  refine CW.reg ?_
  refine WL.op rfl (OpK.box rfl rfl (by first | rfl | exact Rd.cells1 (by assumption) | exact Osl.cells1 (by assumption) | exact Osn.cells1 (by assumption)) (fun b1 w1 hXw1 hb1 hge1 => ?_))
  have hl1 := Lo.new hB hge1
  have hB := hB.trans hXw1
  refine WL.op rfl (OpK.alloc rfl T.zv29 rfl (fun b2 w2 hXw2 hb2 hge2 => ?_))
  have hl2 := Lo.new hB hge2
  have hd1_2 := Dj.new hb1.ltO hge2
  have hB := hB.trans hXw2
  have hb1 := hb1.up hXw2
  refine WL.nilS ?_
  refine CW.seq ?_
  refine CW.reg ?_
  refine WL.op rfl (OpK.alloc rfl T.zv29 rfl (fun b3 w3 hXw3 hb3 hge3 => ?_))
  have hl3 := Lo.new hB hge3
  have hd1_3 := Dj.new hb1.ltO hge3
  have hd2_3 := Dj.new hb2.ltO hge3
  have hB := hB.trans hXw3
  have hb1 := hb1.up hXw3
  have hb2 := hb2.up hXw3
  refine WL.nilS ?_
  refine CW.seq ?_
  refine CW.reg ?_
  refine WL.pure rfl rfl rfl ((by first | exact PV.fieldAddr T.fl24_0 rfl (by first | assumption | exact Bx.cells (by assumption)) | exact PV.fieldAddrP T.fl24_0 rfl rfl)) ?_
  refine WL.pure rfl rfl rfl ((by first | exact PV.load0 T.na2 rfl (by first | exact Cells.up (by assumption) hB | exact Bx.cells (by assumption) | assumption) (Ext.refl _) rfl | exact PV.load1 T.na2 rfl (by first | exact Cells.up (by assumption) hB | exact Bx.cells (by assumption) | assumption) (Ext.refl _) rfl)) ?_
  refine WL.pure rfl rfl rfl ((by first | exact PV.fieldAddr T.fl29_0 rfl (by first | assumption | exact Bx.cells (by assumption)) | exact PV.fieldAddrP T.fl29_0 rfl rfl)) ?_
  first
    | refine WL.op rfl (OpK.storeB T.sz2 rfl rfl (by first | rfl | exact Osl.oneCell (by assumption) | exact Osn.oneCell (by assumption) | exact Rd.oneCell (by assumption) | assumption) hb3 rfl (fun w4 hXw4 hb3 => ?_))
    | refine WL.op rfl (OpK.storeB0 T.sz2 rfl rfl (by first | rfl | exact Osl.oneCell (by assumption) | exact Osn.oneCell (by assumption) | exact Rd.oneCell (by assumption) | assumption) hb3 (fun w4 hXw4 hb3 => ?_))
  have hB := hB.updL hXw4 hl3
  have hb1 := hb1.updD hXw4 hd1_3
  have hb2 := hb2.updD hXw4 hd2_3
  refine WL.nilS ?_
  refine CW.seq ?_
  refine CW.reg ?_
  refine WL.pure rfl rfl rfl ((by first | exact PV.fieldAddr T.fl24_1 rfl (by first | assumption | exact Bx.cells (by assumption)) | exact PV.fieldAddrP T.fl24_1 rfl rfl)) ?_
  refine WL.pure rfl rfl rfl ((by first | exact PV.load0 T.na2 rfl (by first | exact Cells.up (by assumption) hB | exact Bx.cells (by assumption) | assumption) (Ext.refl _) rfl | exact PV.load1 T.na2 rfl (by first | exact Cells.up (by assumption) hB | exact Bx.cells (by assumption) | assumption) (Ext.refl _) rfl)) ?_
  refine WL.pure rfl rfl rfl ((by first | exact PV.fieldAddr T.fl29_1 rfl (by first | assumption | exact Bx.cells (by assumption)) | exact PV.fieldAddrP T.fl29_1 rfl rfl)) ?_
  first
    | refine WL.op rfl (OpK.storeB T.sz2 rfl rfl (by first | rfl | exact Osl.oneCell (by assumption) | exact Osn.oneCell (by assumption) | exact Rd.oneCell (by assumption) | assumption) hb3 rfl (fun w5 hXw5 hb3 => ?_))
    | refine WL.op rfl (OpK.storeB0 T.sz2 rfl rfl (by first | rfl | exact Osl.oneCell (by assumption) | exact Osn.oneCell (by assumption) | exact Rd.oneCell (by assumption) | assumption) hb3 (fun w5 hXw5 hb3 => ?_))
  have hB := hB.updL hXw5 hl3
  have hb1 := hb1.updD hXw5 hd1_3
  have hb2 := hb2.updD hXw5 hd2_3
  refine WL.nilS ?_
  refine CW.seq ?_
  refine CW.reg ?_
  refine WL.pure rfl rfl rfl ((by first | exact PV.fieldAddr T.fl24_2 rfl (by first | assumption | exact Bx.cells (by assumption)) | exact PV.fieldAddrP T.fl24_2 rfl rfl)) ?_
  refine WL.pure rfl rfl rfl ((by first | exact PV.load0 T.na22 rfl (by first | exact Cells.up (by assumption) hB | exact Bx.cells (by assumption) | assumption) (Ext.refl _) rfl | exact PV.load1 T.na22 rfl (by first | exact Cells.up (by assumption) hB | exact Bx.cells (by assumption) | assumption) (Ext.refl _) rfl)) ?_
  refine WL.op rfl (OpK.call rfl T.cf54 rfl (c_laws_toRuleS (by first | assumption | exact Rd.up (by assumption) hB | exact Osl.rd (by assumption) | exact Osn.rdR (by assumption)) (by first | assumption | omega | (simp only [marks_len, marksB_len]; omega))) (fun rv1 w6 hR => ?_))
  obtain ⟨hXw6, v4, og4, rfl, ho4, hq4⟩ := hR
  have hl4 := Lo.up hq4 hB
  have hd1_4 := Dj.lo hb1.ltO hq4
  have hd2_4 := Dj.lo hb2.ltO hq4
  have hd3_4 := Dj.lo hb3.ltO hq4
  have hB := hB.trans hXw6
  have hb1 := hb1.up hXw6
  have hb2 := hb2.up hXw6
  have hb3 := hb3.up hXw6
  refine WL.pure rfl rfl rfl ((by first | exact PV.fieldAddr T.fl29_2 rfl (by first | assumption | exact Bx.cells (by assumption)) | exact PV.fieldAddrP T.fl29_2 rfl rfl)) ?_
  first
    | refine WL.op rfl (OpK.storeB T.sz27 rfl rfl (by first | rfl | exact Osl.oneCell (by assumption) | exact Osn.oneCell (by assumption) | exact Rd.oneCell (by assumption) | assumption) hb3 rfl (fun w7 hXw7 hb3 => ?_))
    | refine WL.op rfl (OpK.storeB0 T.sz27 rfl rfl (by first | rfl | exact Osl.oneCell (by assumption) | exact Osn.oneCell (by assumption) | exact Rd.oneCell (by assumption) | assumption) hb3 (fun w7 hXw7 hb3 => ?_))
  have hB := hB.updL hXw7 hl3
  have hb1 := hb1.updD hXw7 hd1_3
  have hb2 := hb2.updD hXw7 hd2_3
  have ho4 := ho4.updD hXw7 (Dj.symm hd3_4)
  refine WL.nilS ?_
  refine CW.seq ?_
  refine CW.reg ?_
  refine WL.pure rfl rfl rfl ((by first | exact PV.loadA T.ag29 rfl (by first | exact Cells.up (by assumption) hB | exact Bx.cells (by assumption) | assumption) (Ext.refl _) rfl | exact PV.loadP (ds := [_, _, _]) T.ag29 rfl (by first | exact Cells.up (by assumption) hB | exact Bx.cells (by assumption) | assumption) (Ext.refl _) rfl rfl)) ?_
  refine WL.op rfl (OpK.storeA T.sz29 rfl rfl rfl rfl (by simp [Value.oneCell'] <;> first | done | (repeat' apply And.intro) <;> first | rfl | exact Osl.oneCell (by assumption) | exact Osn.oneCell (by assumption) | exact Rd.oneCell (by assumption) | assumption) hb2 (fun w8 hXw8 hb2 => ?_))
  have hB := hB.updL hXw8 hl2
  have hb1 := hb1.updD hXw8 hd1_2
  have hb3 := hb3.updD hXw8 (Dj.symm hd2_3)
  have ho4 := ho4.updD hXw8 (Dj.symm hd2_4)
  refine WL.nilS ?_
  refine CW.ret ?_
  refine RQ.rc0 T.ag29 rfl (by first | exact Cells.up (by assumption) hB | exact Bx.cells (by assumption) | assumption) rfl ?_
  refine ⟨hB, rv1, og4, ?_, osnE ho4 ?_, hl4⟩
  · skip
    rfl
  · skip
    rfl
theorem c_spec_l06Same {w : World} {pa : Addr} {a0 : Int} {a1 : Int} {va2 : Value} {xa2 : List R4} {pb : Addr} {b0 : Int} {b1 : Int} {vb2 : Value} {xb2 : List R4}  (hba : Cells w pa [.int .i64 a0, .int .i64 a1, va2]) (hbb : Cells w pb [.int .i64 b0, .int .i64 b1, vb2]) (ha2 : Rd ER w va2 xa2) (hb2 : Rd ER w vb2 xb2) : Calls Try.prog 53 #[.pointer (some pa), .pointer (some pb)] w (Ret1 (RQt (.bool (decide (a0 = b0 ∧ a1 = b1 ∧ xa2 = xb2))) w)) := by
  have hB : Ext w w := Ext.refl w
  have hla2 := ha2.leI; have hlb2 := hb2.leI
  refine callsOf (vs := [_, _]) Try.func53 rfl Try.ntmps53 rfl rfl ?_
  refine CW.seq ?_
  refine CW.reg ?_
  refine WL.pure rfl rfl rfl (PV.assign rfl) ?_
  refine WL.nilS ?_
  refine CW.seq ?_
  refine CW.seq ?_
  refine CW.draw T.mixed (by kernel_rfl) (fun _ _ _ _ _ h => h) (fun w8 w9 => Upd none w8 w9) 33 (.take 0 (.take 1 (.take 2 (.take 3 (.take 4 (.take 5 (.take 6 (.take 7 (.take 8 (.take 9 (.split (.take 10 (.take 11 (.take 12 (.take 13 (.take 14 (.take 15 (.take 16 (.take 17 (.take 18 (.take 19 (.take 20 (.take 21 (.take 22 (.take 23 (.take 24 (.take 25 (.take 26 (.take 27 (.take 28 (.take 29 (.take 30 (.take 31 (.take 32 .done))))))))))))))))))))))) (.take 10 (.take 11 (.take 12 (.take 13 (.take 14 (.take 15 (.take 16 (.take 17 (.take 18 (.take 19 (.take 20 (.split (.take 21 (.take 22 (.take 23 (.take 24 (.take 25 (.take 26 (.take 27 (.take 28 (.take 29 (.take 30 (.take 31 (.take 32 .done)))))))))))) (.take 21 (.take 22 (.take 23 (.take 24 (.take 25 (.take 26 (.take 27 (.take 28 (.take 29 (.take 30 (.take 31 (.take 32 .done))))))))))))))))))))))))))))))))))) (by kernel_rfl) (fun w1 hXd => ?_)
  have hB := hB.trans hXd
  have hBr := hB
  have hS : Upd none w1 w1 := Ext.toUpd (Ext.refl _)
  refine HP.take rfl rfl rfl rfl hS (fun wS hS1 => PV.move rfl) ?_
  refine HP.take rfl rfl rfl rfl hS (fun wS hS1 => PV.nilCheck rfl) ?_
  refine HP.take rfl rfl rfl rfl hS (fun wS hS1 => (by first | exact PV.fieldAddr T.fl29_0 rfl (by first | assumption | exact Bx.cells (by assumption)) | exact PV.fieldAddrP T.fl29_0 rfl rfl)) ?_
  refine HP.take rfl rfl rfl rfl hS (fun wS hS1 => (by first | exact PV.load0 T.na2 rfl (by first | exact Cells.up (by assumption) (hBr.trans hS1) | exact Bx.cells (Bx.updD (by assumption) hS1 (Dj.nlR _)) | exact Cells.upd (by assumption) hS1 (by simp)) (Ext.refl _) rfl | exact PV.load1 T.na2 rfl (by first | exact Cells.up (by assumption) (hBr.trans hS1) | exact Bx.cells (Bx.updD (by assumption) hS1 (Dj.nlR _)) | exact Cells.upd (by assumption) hS1 (by simp)) (Ext.refl _) rfl)) ?_
  refine HP.take rfl rfl rfl rfl hS (fun wS hS1 => PV.move rfl) ?_
  refine HP.take rfl rfl rfl rfl hS (fun wS hS1 => PV.nilCheck rfl) ?_
  refine HP.take rfl rfl rfl rfl hS (fun wS hS1 => (by first | exact PV.fieldAddr T.fl29_0 rfl (by first | assumption | exact Bx.cells (by assumption)) | exact PV.fieldAddrP T.fl29_0 rfl rfl)) ?_
  refine HP.take rfl rfl rfl rfl hS (fun wS hS1 => (by first | exact PV.load0 T.na2 rfl (by first | exact Cells.up (by assumption) (hBr.trans hS1) | exact Bx.cells (Bx.updD (by assumption) hS1 (Dj.nlR _)) | exact Cells.upd (by assumption) hS1 (by simp)) (Ext.refl _) rfl | exact PV.load1 T.na2 rfl (by first | exact Cells.up (by assumption) (hBr.trans hS1) | exact Bx.cells (Bx.updD (by assumption) hS1 (Dj.nlR _)) | exact Cells.upd (by assumption) hS1 (by simp)) (Ext.refl _) rfl)) ?_
  refine HP.take rfl rfl rfl rfl hS (fun wS hS1 => PV.neq rfl rfl) ?_
  refine HP.take rfl rfl rfl rfl hS (fun wS hS1 => PV.move rfl) ?_
  refine HP.split (t := 15) rfl (fun hc1 => ?_) (fun hc1 => ?_)
  · skip
    try simp only [decide_eq_true_eq, decide_eq_false_iff_not, Bool.not_eq_true', Bool.not_eq_false', Bool.not_eq_eq_eq_not, Bool.not_true, Bool.not_false, Int.not_lt, Int.not_le, Classical.not_not, beq_iff_eq, beq_eq_false_iff_ne] at hc1
    refine HP.skip rfl rfl rfl rfl rfl rfl hS ?_
    refine HP.skip rfl rfl rfl rfl rfl rfl hS ?_
    refine HP.skip rfl rfl rfl rfl rfl rfl hS ?_
    refine HP.skip rfl rfl rfl rfl rfl rfl hS ?_
    refine HP.skip rfl rfl rfl rfl rfl rfl hS ?_
    refine HP.skip rfl rfl rfl rfl rfl rfl hS ?_
    refine HP.skip rfl rfl rfl rfl rfl rfl hS ?_
    refine HP.skip rfl rfl rfl rfl rfl rfl hS ?_
    refine HP.skip rfl rfl rfl rfl rfl rfl hS ?_
    refine HP.take rfl rfl rfl rfl hS (fun wS hS1 => PV.pickT rfl rfl) ?_
    refine HP.take rfl rfl rfl rfl hS (fun wS hS1 => PV.move rfl) ?_
    refine HP.skip rfl rfl rfl rfl rfl rfl hS ?_
    refine HP.skip rfl rfl rfl rfl rfl rfl hS ?_
    refine HP.skip rfl rfl rfl rfl rfl rfl hS ?_
    refine HP.skip rfl rfl rfl rfl rfl rfl hS ?_
    refine HP.skip rfl rfl rfl rfl rfl rfl hS ?_
    refine HP.skip rfl rfl rfl rfl rfl rfl hS ?_
    refine HP.skip rfl rfl rfl rfl rfl rfl hS ?_
    refine HP.skip rfl rfl rfl rfl rfl rfl hS ?_
    refine HP.skip rfl rfl rfl rfl rfl rfl hS ?_
    refine HP.skip rfl rfl rfl rfl rfl rfl hS ?_
    refine HP.skip rfl rfl rfl rfl rfl rfl hS ?_
    refine HP.take rfl rfl rfl rfl hS (fun wS hS1 => PV.pickT rfl rfl) ?_
    refine HP.doneS ?_
    refine CW.condT rfl ?_
    refine CW.seq ?_
    refine CW.reg ?_
    refine WL.pure rfl rfl rfl (PV.assign rfl) ?_
    refine WL.nilS ?_
    refine CW.ret ?_
    refine RQ.then ?_
    refine RQ.r1 rfl ?_
    refine ⟨?_, hB⟩
    exact bF (by rintro ⟨h1, h2, h3⟩; first | omega | (have h4 := congrArg List.length h3; omega))
  try simp only [decide_eq_true_eq, decide_eq_false_iff_not, Bool.not_eq_true', Bool.not_eq_false', Bool.not_eq_eq_eq_not, Bool.not_true, Bool.not_false, Int.not_lt, Int.not_le, Classical.not_not, beq_iff_eq, beq_eq_false_iff_ne] at hc1
  refine HP.takeG rfl rfl rfl rfl rfl rfl hS (fun wS hS1 => PV.move rfl) ?_
  refine HP.takeG rfl rfl rfl rfl rfl rfl hS (fun wS hS1 => PV.nilCheck rfl) ?_
  refine HP.takeG rfl rfl rfl rfl rfl rfl hS (fun wS hS1 => (by first | exact PV.fieldAddr T.fl29_1 rfl (by first | assumption | exact Bx.cells (by assumption)) | exact PV.fieldAddrP T.fl29_1 rfl rfl)) ?_
  refine HP.takeG rfl rfl rfl rfl rfl rfl hS (fun wS hS1 => (by first | exact PV.load0 T.na2 rfl (by first | exact Cells.up (by assumption) (hBr.trans hS1) | exact Bx.cells (Bx.updD (by assumption) hS1 (Dj.nlR _)) | exact Cells.upd (by assumption) hS1 (by simp)) (Ext.refl _) rfl | exact PV.load1 T.na2 rfl (by first | exact Cells.up (by assumption) (hBr.trans hS1) | exact Bx.cells (Bx.updD (by assumption) hS1 (Dj.nlR _)) | exact Cells.upd (by assumption) hS1 (by simp)) (Ext.refl _) rfl)) ?_
  refine HP.takeG rfl rfl rfl rfl rfl rfl hS (fun wS hS1 => PV.move rfl) ?_
  refine HP.takeG rfl rfl rfl rfl rfl rfl hS (fun wS hS1 => PV.nilCheck rfl) ?_
  refine HP.takeG rfl rfl rfl rfl rfl rfl hS (fun wS hS1 => (by first | exact PV.fieldAddr T.fl29_1 rfl (by first | assumption | exact Bx.cells (by assumption)) | exact PV.fieldAddrP T.fl29_1 rfl rfl)) ?_
  refine HP.takeG rfl rfl rfl rfl rfl rfl hS (fun wS hS1 => (by first | exact PV.load0 T.na2 rfl (by first | exact Cells.up (by assumption) (hBr.trans hS1) | exact Bx.cells (Bx.updD (by assumption) hS1 (Dj.nlR _)) | exact Cells.upd (by assumption) hS1 (by simp)) (Ext.refl _) rfl | exact PV.load1 T.na2 rfl (by first | exact Cells.up (by assumption) (hBr.trans hS1) | exact Bx.cells (Bx.updD (by assumption) hS1 (Dj.nlR _)) | exact Cells.upd (by assumption) hS1 (by simp)) (Ext.refl _) rfl)) ?_
  refine HP.takeG rfl rfl rfl rfl rfl rfl hS (fun wS hS1 => PV.neq rfl rfl) ?_
  refine HP.take rfl rfl rfl rfl hS (fun wS hS1 => PV.pickF rfl rfl) ?_
  refine HP.take rfl rfl rfl rfl hS (fun wS hS1 => PV.move rfl) ?_
  refine HP.split (t := 26) rfl (fun hc2 => ?_) (fun hc2 => ?_)
  · skip
    try simp only [decide_eq_true_eq, decide_eq_false_iff_not, Bool.not_eq_true', Bool.not_eq_false', Bool.not_eq_eq_eq_not, Bool.not_true, Bool.not_false, Int.not_lt, Int.not_le, Classical.not_not, beq_iff_eq, beq_eq_false_iff_ne] at hc2
    refine HP.skip rfl rfl rfl rfl rfl rfl hS ?_
    refine HP.skip rfl rfl rfl rfl rfl rfl hS ?_
    refine HP.skip rfl rfl rfl rfl rfl rfl hS ?_
    refine HP.skip rfl rfl rfl rfl rfl rfl hS ?_
    refine HP.skip rfl rfl rfl rfl rfl rfl hS ?_
    refine HP.skip rfl rfl rfl rfl rfl rfl hS ?_
    refine HP.skip rfl rfl rfl rfl rfl rfl hS ?_
    refine HP.skip rfl rfl rfl rfl rfl rfl hS ?_
    refine HP.skip rfl rfl rfl rfl rfl rfl hS ?_
    refine HP.skip rfl rfl rfl rfl rfl rfl hS ?_
    refine HP.skip rfl rfl rfl rfl rfl rfl hS ?_
    refine HP.take rfl rfl rfl rfl hS (fun wS hS1 => PV.pickT rfl rfl) ?_
    refine HP.doneS ?_
    refine CW.condT rfl ?_
    refine CW.seq ?_
    refine CW.reg ?_
    refine WL.pure rfl rfl rfl (PV.assign rfl) ?_
    refine WL.nilS ?_
    refine CW.ret ?_
    refine RQ.then ?_
    refine RQ.r1 rfl ?_
    refine ⟨?_, hB⟩
    exact bF (by rintro ⟨h1, h2, h3⟩; first | omega | (have h4 := congrArg List.length h3; omega))
  try simp only [decide_eq_true_eq, decide_eq_false_iff_not, Bool.not_eq_true', Bool.not_eq_false', Bool.not_eq_eq_eq_not, Bool.not_true, Bool.not_false, Int.not_lt, Int.not_le, Classical.not_not, beq_iff_eq, beq_eq_false_iff_ne] at hc2
  refine HP.takeG rfl rfl rfl rfl rfl rfl hS (fun wS hS1 => PV.move rfl) ?_
  refine HP.takeG rfl rfl rfl rfl rfl rfl hS (fun wS hS1 => PV.nilCheck rfl) ?_
  refine HP.takeG rfl rfl rfl rfl rfl rfl hS (fun wS hS1 => (by first | exact PV.fieldAddr T.fl29_2 rfl (by first | assumption | exact Bx.cells (by assumption)) | exact PV.fieldAddrP T.fl29_2 rfl rfl)) ?_
  refine HP.takeG rfl rfl rfl rfl rfl rfl hS (fun wS hS1 => (by first | exact PV.load0 T.na27 rfl (by first | exact Cells.up (by assumption) (hBr.trans hS1) | exact Bx.cells (Bx.updD (by assumption) hS1 (Dj.nlR _)) | exact Cells.upd (by assumption) hS1 (by simp)) (Ext.refl _) rfl | exact PV.load1 T.na27 rfl (by first | exact Cells.up (by assumption) (hBr.trans hS1) | exact Bx.cells (Bx.updD (by assumption) hS1 (Dj.nlR _)) | exact Cells.upd (by assumption) hS1 (by simp)) (Ext.refl _) rfl)) ?_
  refine HP.takeG rfl rfl rfl rfl rfl rfl hS (fun wS hS1 => (by first | exact PV.len rfl (by assumption) T.sl27 | exact PV.lenOs rfl (by assumption) T.sl27)) ?_
  refine HP.takeG rfl rfl rfl rfl rfl rfl hS (fun wS hS1 => PV.move rfl) ?_
  refine HP.takeG rfl rfl rfl rfl rfl rfl hS (fun wS hS1 => PV.nilCheck rfl) ?_
  refine HP.takeG rfl rfl rfl rfl rfl rfl hS (fun wS hS1 => (by first | exact PV.fieldAddr T.fl29_2 rfl (by first | assumption | exact Bx.cells (by assumption)) | exact PV.fieldAddrP T.fl29_2 rfl rfl)) ?_
  refine HP.takeG rfl rfl rfl rfl rfl rfl hS (fun wS hS1 => (by first | exact PV.load0 T.na27 rfl (by first | exact Cells.up (by assumption) (hBr.trans hS1) | exact Bx.cells (Bx.updD (by assumption) hS1 (Dj.nlR _)) | exact Cells.upd (by assumption) hS1 (by simp)) (Ext.refl _) rfl | exact PV.load1 T.na27 rfl (by first | exact Cells.up (by assumption) (hBr.trans hS1) | exact Bx.cells (Bx.updD (by assumption) hS1 (Dj.nlR _)) | exact Cells.upd (by assumption) hS1 (by simp)) (Ext.refl _) rfl)) ?_
  refine HP.takeG rfl rfl rfl rfl rfl rfl hS (fun wS hS1 => (by first | exact PV.len rfl (by assumption) T.sl27 | exact PV.lenOs rfl (by assumption) T.sl27)) ?_
  refine HP.takeG rfl rfl rfl rfl rfl rfl hS (fun wS hS1 => PV.neq rfl rfl) ?_
  refine HP.take rfl rfl rfl rfl hS (fun wS hS1 => PV.pickF rfl rfl) ?_
  refine HP.doneS ?_
  refine CW.cond rfl (fun hc3 => ?_) (fun hc3 => ?_)
  · skip
    try simp only [decide_eq_true_eq, decide_eq_false_iff_not, Bool.not_eq_true', Bool.not_eq_false', Bool.not_eq_eq_eq_not, Bool.not_true, Bool.not_false, Int.not_lt, Int.not_le, Classical.not_not, beq_iff_eq, beq_eq_false_iff_ne] at hc3
    refine CW.seq ?_
    refine CW.reg ?_
    refine WL.pure rfl rfl rfl (PV.assign rfl) ?_
    refine WL.nilS ?_
    refine CW.ret ?_
    refine RQ.then ?_
    refine RQ.r1 rfl ?_
    refine ⟨?_, hB⟩
    exact bF (by rintro ⟨h1, h2, h3⟩; first | omega | (have h4 := congrArg List.length h3; omega))
  try simp only [decide_eq_true_eq, decide_eq_false_iff_not, Bool.not_eq_true', Bool.not_eq_false', Bool.not_eq_eq_eq_not, Bool.not_true, Bool.not_false, Int.not_lt, Int.not_le, Classical.not_not, beq_iff_eq, beq_eq_false_iff_ne] at hc3
  refine CW.skipS ?_
  refine CW.seq ?_
  refine CW.seq ?_
  refine CW.reg ?_
  refine WL.pure rfl rfl rfl (PV.assign rfl) ?_
  refine WL.nilS ?_
  refine CW.block ?_
  refine CW.loop (σk := [(0, _), (1, _)]) (fun ρ wz m => ∃ (k : Nat), ρ = [(5, .int .i64 (k : Nat))] ∧ m = xa2.length - k ∧ UpdL [] w1 wz ∧ (k ≤ xa2.length) ∧ (xa2.take k = xb2.take k)) (ρ₀ := [(5, _)]) (m₀ := _) ⟨rfl, rfl, rfl, trivial⟩ ⟨0, rfl, rfl, (UpdL.refl _ _), (by first | omega | rfl | (simp; done) | assumption | (simp_all; done)), (by first | omega | rfl | (simp; done) | assumption | (simp_all; done))⟩ ?_
  rintro _ wl1 _ ⟨k, rfl, rfl, hU0, hk, he⟩
  have hB := hB.loop hU0 trivial
  refine CW.seq ?_
  refine CW.seq ?_
  refine CW.reg ?_
  refine WL.pure rfl rfl rfl (PV.move rfl) ?_
  refine WL.pure rfl rfl rfl (PV.move rfl) ?_
  refine WL.pure rfl rfl rfl (PV.nilCheck rfl) ?_
  refine WL.pure rfl rfl rfl ((by first | exact PV.fieldAddr T.fl29_2 rfl (by first | assumption | exact Bx.cells (by assumption)) | exact PV.fieldAddrP T.fl29_2 rfl rfl)) ?_
  refine WL.pure rfl rfl rfl ((by first | exact PV.load0 T.na27 rfl (by first | exact Cells.up (by assumption) hB | exact Bx.cells (by assumption) | assumption) (Ext.refl _) rfl | exact PV.load1 T.na27 rfl (by first | exact Cells.up (by assumption) hB | exact Bx.cells (by assumption) | assumption) (Ext.refl _) rfl)) ?_
  refine WL.pure rfl rfl rfl ((by first | exact PV.len rfl (by assumption) T.sl27 | exact PV.lenOs rfl (by assumption) T.sl27)) ?_
  refine WL.pure rfl rfl rfl (PV.lss rfl rfl) ?_
  refine WL.nilS ?_
  refine CW.cond rfl (fun hc4 => ?_) (fun hc4 => ?_)
  · skip
    try simp only [decide_eq_true_eq, decide_eq_false_iff_not, Bool.not_eq_true', Bool.not_eq_false', Bool.not_eq_eq_eq_not, Bool.not_true, Bool.not_false, Int.not_lt, Int.not_le, Classical.not_not, beq_iff_eq, beq_eq_false_iff_ne] at hc4
    refine CW.skipS ?_
    refine CW.seq ?_
    refine CW.block ?_
    refine CW.seq ?_
    refine CW.draw T.mixed (by kernel_rfl) (fun _ _ _ _ _ h => h) (fun w8 w9 => Upd none w8 w9) 15 (.take 0 (.take 1 (.take 2 (.take 3 (.take 4 (.take 5 (.take 6 (.take 7 (.take 8 (.take 9 (.take 10 (.take 11 (.take 12 (.take 13 (.take 14 .done))))))))))))))) (by kernel_rfl) (fun w2 hXd => ?_)
    have hB := hB.trans hXd
    have hU0 := hU0.ext hXd
    have hBr := hB
    have hS : Upd none w2 w2 := Ext.toUpd (Ext.refl _)
    refine HP.take rfl rfl rfl rfl hS (fun wS hS1 => PV.move rfl) ?_
    refine HP.take rfl rfl rfl rfl hS (fun wS hS1 => PV.nilCheck rfl) ?_
    refine HP.take rfl rfl rfl rfl hS (fun wS hS1 => (by first | exact PV.fieldAddr T.fl29_2 rfl (by first | assumption | exact Bx.cells (by assumption)) | exact PV.fieldAddrP T.fl29_2 rfl rfl)) ?_
    refine HP.take rfl rfl rfl rfl hS (fun wS hS1 => (by first | exact PV.load0 T.na27 rfl (by first | exact Cells.up (by assumption) (hBr.trans hS1) | exact Bx.cells (Bx.updD (by assumption) hS1 (Dj.nlR _)) | exact Cells.upd (by assumption) hS1 (by simp)) (Ext.refl _) rfl | exact PV.load1 T.na27 rfl (by first | exact Cells.up (by assumption) (hBr.trans hS1) | exact Bx.cells (Bx.updD (by assumption) hS1 (Dj.nlR _)) | exact Cells.upd (by assumption) hS1 (by simp)) (Ext.refl _) rfl)) ?_
    refine HP.take rfl rfl rfl rfl hS (fun wS hS1 => PV.move rfl) ?_
    first
      | refine HP.at (x := .tmp 51) (y := .tmp 52) (E := ER) ((0, 0, 0, 0)) rfl rfl (by assumption) (by first | omega | (simp; omega) | (simp_all; omega)) (fun p1 csp1 hpp1 hcp1 hq => ?_)
      | refine HP.atZ (x := .tmp 51) (y := .tmp 52) (E := ER) ((0, 0, 0, 0)) rfl rfl (by assumption) (by first | omega | (simp; omega) | (simp_all; omega)) (fun p1 csp1 hpp1 hzp1 hcp1 hq => ?_)
    cases hq
    refine HP.take rfl rfl rfl rfl hS (fun wS hS1 => (by first | exact PV.indexAddr hpp1 rfl rfl T.sl27 | exact PV.indexAddr hpp1 rfl (by rw [← hzp1]; rfl) T.sl27)) ?_
    refine HP.take rfl rfl rfl rfl hS (fun wS hS1 => (by first | exact PV.loadA T.ag67 rfl (by first | exact Cells.up (by assumption) (hBr.trans hS1) | exact Bx.cells (Bx.updD (by assumption) hS1 (Dj.nlR _)) | exact Cells.upd (by assumption) hS1 (by simp)) (Ext.refl _) rfl | exact PV.loadP (ds := [_, _, _, _]) T.ag67 rfl (by first | exact Cells.up (by assumption) (hBr.trans hS1) | exact Bx.cells (Bx.updD (by assumption) hS1 (Dj.nlR _)) | exact Cells.upd (by assumption) hS1 (by simp)) (Ext.refl _) rfl rfl)) ?_
    refine HP.take rfl rfl rfl rfl hS (fun wS hS1 => PV.move rfl) ?_
    refine HP.take rfl rfl rfl rfl hS (fun wS hS1 => PV.nilCheck rfl) ?_
    refine HP.take rfl rfl rfl rfl hS (fun wS hS1 => (by first | exact PV.fieldAddr T.fl29_2 rfl (by first | assumption | exact Bx.cells (by assumption)) | exact PV.fieldAddrP T.fl29_2 rfl rfl)) ?_
    refine HP.take rfl rfl rfl rfl hS (fun wS hS1 => (by first | exact PV.load0 T.na27 rfl (by first | exact Cells.up (by assumption) (hBr.trans hS1) | exact Bx.cells (Bx.updD (by assumption) hS1 (Dj.nlR _)) | exact Cells.upd (by assumption) hS1 (by simp)) (Ext.refl _) rfl | exact PV.load1 T.na27 rfl (by first | exact Cells.up (by assumption) (hBr.trans hS1) | exact Bx.cells (Bx.updD (by assumption) hS1 (Dj.nlR _)) | exact Cells.upd (by assumption) hS1 (by simp)) (Ext.refl _) rfl)) ?_
    refine HP.take rfl rfl rfl rfl hS (fun wS hS1 => PV.move rfl) ?_
    first
      | refine HP.at (x := .tmp 58) (y := .tmp 59) (E := ER) ((0, 0, 0, 0)) rfl rfl (by assumption) (by first | omega | (simp; omega) | (simp_all; omega)) (fun p2 csp2 hpp2 hcp2 hq => ?_)
      | refine HP.atZ (x := .tmp 58) (y := .tmp 59) (E := ER) ((0, 0, 0, 0)) rfl rfl (by assumption) (by first | omega | (simp; omega) | (simp_all; omega)) (fun p2 csp2 hpp2 hzp2 hcp2 hq => ?_)
    cases hq
    refine HP.take rfl rfl rfl rfl hS (fun wS hS1 => (by first | exact PV.indexAddr hpp2 rfl rfl T.sl27 | exact PV.indexAddr hpp2 rfl (by rw [← hzp2]; rfl) T.sl27)) ?_
    refine HP.take rfl rfl rfl rfl hS (fun wS hS1 => (by first | exact PV.loadA T.ag67 rfl (by first | exact Cells.up (by assumption) (hBr.trans hS1) | exact Bx.cells (Bx.updD (by assumption) hS1 (Dj.nlR _)) | exact Cells.upd (by assumption) hS1 (by simp)) (Ext.refl _) rfl | exact PV.loadP (ds := [_, _, _, _]) T.ag67 rfl (by first | exact Cells.up (by assumption) (hBr.trans hS1) | exact Bx.cells (Bx.updD (by assumption) hS1 (Dj.nlR _)) | exact Cells.upd (by assumption) hS1 (by simp)) (Ext.refl _) rfl rfl)) ?_
    refine HP.take rfl rfl rfl rfl hS (fun wS hS1 => PV.neq4 T.s467 rfl rfl) ?_
    refine HP.doneS ?_
    refine CW.cond rfl (fun hc5 => ?_) (fun hc5 => ?_)
    · skip
      try simp only [decide_eq_true_eq, decide_eq_false_iff_not, Bool.not_eq_true', Bool.not_eq_false', Bool.not_eq_eq_eq_not, Bool.not_true, Bool.not_false, Int.not_lt, Int.not_le, Classical.not_not, beq_iff_eq, beq_eq_false_iff_ne] at hc5
      refine CW.seq ?_
      refine CW.reg ?_
      refine WL.pure rfl rfl rfl (PV.assign rfl) ?_
      refine WL.nilS ?_
      refine CW.ret ?_
      refine RQ.block ?_
      refine RQ.then ?_
      refine RQ.then ?_
      refine RQ.block ?_
      refine RQ.then ?_
      refine RQ.r1 rfl ?_
      refine ⟨?_, hB⟩
      exact bF (by rintro ⟨h1, h2, rfl⟩; exact (r4_no (by assumption)).elim)
    try simp only [decide_eq_true_eq, decide_eq_false_iff_not, Bool.not_eq_true', Bool.not_eq_false', Bool.not_eq_eq_eq_not, Bool.not_true, Bool.not_false, Int.not_lt, Int.not_le, Classical.not_not, beq_iff_eq, beq_eq_false_iff_ne] at hc5
    refine CW.skip ?_
    refine NQ.block ?_
    refine NQ.then ?_
    refine CW.reg ?_
    refine WL.pure rfl rfl rfl (PV.move rfl) ?_
    refine WL.pure rfl rfl rfl (PV.add rfl rfl (by constructor <;> omega)) ?_
    refine WL.pure rfl rfl rfl (PV.assign rfl) ?_
    refine WL.nil ?_
    refine NQ.next (ρ := [(5, _)]) ⟨rfl, rfl, rfl, trivial⟩ ?_
    exact ⟨_, ⟨k + 1, rfl, rfl, hU0, (by first | omega | assumption | (simp_all; done) | (simp_all; omega)), (by exact take_eq_succ (by omega) (by omega) he (r4_ext (by assumption)))⟩, by omega⟩
  try simp only [decide_eq_true_eq, decide_eq_false_iff_not, Bool.not_eq_true', Bool.not_eq_false', Bool.not_eq_eq_eq_not, Bool.not_true, Bool.not_false, Int.not_lt, Int.not_le, Classical.not_not, beq_iff_eq, beq_eq_false_iff_ne] at hc4
  refine CW.exit ?_
  refine XQ.then ?_
  refine XQ.then ?_
  refine XQ.here ?_
  refine NQ.then ?_
  refine CW.seq ?_
  refine CW.reg ?_
  refine WL.pure rfl rfl rfl (PV.assign rfl) ?_
  refine WL.nilS ?_
  refine CW.ret ?_
  refine RQ.r1 rfl ?_
  refine ⟨?_, hB⟩
  exact bT ⟨by omega, by omega, eq_of_takes (by omega) (by omega) he⟩
theorem c_spec_SameGrammar {w : World} {a0 : Int} {a1 : Int} {va2 : Value} {xa2 : List R4} {b0 : Int} {b1 : Int} {vb2 : Value} {xb2 : List R4}  (ha2 : Rd ER w va2 xa2) (hb2 : Rd ER w vb2 xb2) : Calls Try.prog 16 #[.agg #[.int .i64 a0, .int .i64 a1, va2], .agg #[.int .i64 b0, .int .i64 b1, vb2]] w (Ret1 (RQt (.bool (decide (a0 = b0 ∧ a1 = b1 ∧ xa2 = xb2))) w)) := by
  have hB : Ext w w := Ext.refl w
  have hla2 := ha2.leI; have hlb2 := hb2.leI
  refine callsOf (vs := [_, _]) Try.func16 rfl Try.ntmps16 rfl rfl ?_
  refine CW.seq ?_
  refine CW.reg ?_
  refine WL.op rfl (OpK.box rfl rfl (by first | rfl | exact Rd.cells1 (by assumption) | exact Osl.cells1 (by assumption) | exact Osn.cells1 (by assumption)) (fun b1 w1 hXw1 hb1 hge1 => ?_))
  have hl1 := Lo.new hB hge1
  have hB := hB.trans hXw1
  refine WL.op rfl (OpK.box rfl rfl (by first | rfl | exact Rd.cells1 (by assumption) | exact Osl.cells1 (by assumption) | exact Osn.cells1 (by assumption)) (fun b2 w2 hXw2 hb2 hge2 => ?_))
  have hl2 := Lo.new hB hge2
  have hd1_2 := Dj.new hb1.ltO hge2
  have hB := hB.trans hXw2
  have hb1 := hb1.up hXw2
  refine WL.pure rfl rfl rfl (PV.assign rfl) ?_
  refine WL.nilS ?_
  refine CW.seq ?_
  refine CW.reg ?_
  refine WL.op rfl (OpK.callR rfl T.cf53 rfl (c_spec_l06Same (by first | exact Bx.cells (by assumption) | exact Cells.up (by assumption) hB | assumption) (by first | exact Bx.cells (by assumption) | exact Cells.up (by assumption) hB | assumption) (by first | assumption | exact Rd.up (by assumption) hB | exact Osl.rd (by assumption) | exact Osn.rdR (by assumption)) (by first | assumption | exact Rd.up (by assumption) hB | exact Osl.rd (by assumption) | exact Osn.rdR (by assumption))) (fun w3 hXw3 => ?_))
  have hB := hB.trans hXw3
  have hb1 := hb1.up hXw3
  have hb2 := hb2.up hXw3
  refine WL.pure rfl rfl rfl (PV.assign rfl) ?_
  refine WL.nilS ?_
  refine CW.ret ?_
  refine RQ.r1 rfl ?_
  refine ⟨?_, hB⟩
  first | rfl | exact bT (by omega) | exact bF (by omega) | exact bD (by omega) | exact iE (by omega) | (simp_all; done) | (simp_all; omega) | (simp_all; intros; omega)
theorem c_slices_Equal_impl_Rule_impl_Rule {w : World} {va vb : Value} {xs ys : List R4} (ha : Rd ER w va xs) (hb : Rd ER w vb ys) : Calls Try.prog 55 #[va, vb] w (Ret1 (RQt (.bool (decide (xs = ys))) w)) := by
  have hB : Ext w w := Ext.refl w
  have hla := ha.leI; have hlb := hb.leI
  refine callsOf (vs := [_, _]) Try.func55 rfl Try.ntmps55 rfl rfl ?_
  refine CW.seq ?_
  refine CW.reg ?_
  refine WL.pure rfl rfl rfl (PV.assign rfl) ?_
  refine WL.nilS ?_
  refine CW.seq ?_
  refine CW.seq ?_
  refine CW.reg ?_
  refine WL.pure rfl rfl rfl (PV.move rfl) ?_
  refine WL.pure rfl rfl rfl ((by first | exact PV.len rfl (by assumption) T.sl27 | exact PV.lenOs rfl (by assumption) T.sl27)) ?_
  refine WL.pure rfl rfl rfl (PV.move rfl) ?_
  refine WL.pure rfl rfl rfl ((by first | exact PV.len rfl (by assumption) T.sl27 | exact PV.lenOs rfl (by assumption) T.sl27)) ?_
  refine WL.pure rfl rfl rfl (PV.neq rfl rfl) ?_
  refine WL.nilS ?_
  refine CW.cond rfl (fun hc1 => ?_) (fun hc1 => ?_)
  · skip
    try simp only [decide_eq_true_eq, decide_eq_false_iff_not, Bool.not_eq_true', Bool.not_eq_false', Bool.not_eq_eq_eq_not, Bool.not_true, Bool.not_false, Int.not_lt, Int.not_le, Classical.not_not, beq_iff_eq, beq_eq_false_iff_ne] at hc1
    refine CW.seq ?_
    refine CW.reg ?_
    refine WL.pure rfl rfl rfl (PV.assign rfl) ?_
    refine WL.nilS ?_
    refine CW.ret ?_
    refine RQ.then ?_
    refine RQ.r1 rfl ?_
    refine ⟨?_, hB⟩
    first | exact bT (eq_of_takes (by omega) (by omega) he) | exact bF (by rintro rfl; first | omega | exact (r4_no (by assumption)).elim)
  try simp only [decide_eq_true_eq, decide_eq_false_iff_not, Bool.not_eq_true', Bool.not_eq_false', Bool.not_eq_eq_eq_not, Bool.not_true, Bool.not_false, Int.not_lt, Int.not_le, Classical.not_not, beq_iff_eq, beq_eq_false_iff_ne] at hc1
  refine CW.skipS ?_
  refine CW.seq ?_
  refine CW.seq ?_
  refine CW.reg ?_
  refine WL.pure rfl rfl rfl (PV.move rfl) ?_
  refine WL.pure rfl rfl rfl ((by first | exact PV.len rfl (by assumption) T.sl27 | exact PV.lenOs rfl (by assumption) T.sl27)) ?_
  refine WL.pure rfl rfl rfl (PV.move rfl) ?_
  refine WL.nilS ?_
  refine CW.block ?_
  refine CW.loop (σk := [(0, _), (1, _), (12, _)]) (fun ρ wz m => ∃ (k : Nat), ρ = [(13, .int .i64 (k : Nat))] ∧ m = xs.length - k ∧ UpdL [] w wz ∧ (k ≤ xs.length) ∧ (xs.take k = ys.take k)) (ρ₀ := [(13, _)]) (m₀ := _) ⟨rfl, rfl, rfl, rfl, trivial⟩ ⟨0, rfl, rfl, (UpdL.refl _ _), (by first | omega | rfl | (simp; done) | assumption | (simp_all; done)), (by first | omega | rfl | (simp; done) | assumption | (simp_all; done))⟩ ?_
  rintro _ wl1 _ ⟨k, rfl, rfl, hU0, hk, he⟩
  have hB := hB.loop hU0 trivial
  refine CW.seq ?_
  refine CW.reg ?_
  refine WL.pure rfl rfl rfl (PV.lss rfl rfl) ?_
  refine WL.nilS ?_
  refine CW.seq ?_
  refine CW.cond rfl (fun hc2 => ?_) (fun hc2 => ?_)
  · skip
    try simp only [decide_eq_true_eq, decide_eq_false_iff_not, Bool.not_eq_true', Bool.not_eq_false', Bool.not_eq_eq_eq_not, Bool.not_true, Bool.not_false, Int.not_lt, Int.not_le, Classical.not_not, beq_iff_eq, beq_eq_false_iff_ne] at hc2
    refine CW.skipS ?_
    refine CW.seq ?_
    refine CW.block ?_
    refine CW.seq ?_
    refine CW.reg ?_
    refine WL.pure rfl rfl rfl (PV.move rfl) ?_
    refine WL.pure rfl rfl rfl (PV.assign rfl) ?_
    refine WL.nilS ?_
    refine CW.seq ?_
    refine CW.draw T.mixed (by kernel_rfl) (fun _ _ _ _ _ h => h) (fun w8 w9 => Upd none w8 w9) 9 (.take 0 (.take 1 (.take 2 (.take 3 (.take 4 (.take 5 (.take 6 (.take 7 (.take 8 .done))))))))) (by kernel_rfl) (fun w1 hXd => ?_)
    have hB := hB.trans hXd
    have hU0 := hU0.ext hXd
    have hBr := hB
    have hS : Upd none w1 w1 := Ext.toUpd (Ext.refl _)
    refine HP.take rfl rfl rfl rfl hS (fun wS hS1 => PV.move rfl) ?_
    refine HP.take rfl rfl rfl rfl hS (fun wS hS1 => PV.move rfl) ?_
    first
      | refine HP.at (x := .tmp 16) (y := .tmp 17) (E := ER) ((0, 0, 0, 0)) rfl rfl (by assumption) (by first | omega | (simp; omega) | (simp_all; omega)) (fun p1 csp1 hpp1 hcp1 hq => ?_)
      | refine HP.atZ (x := .tmp 16) (y := .tmp 17) (E := ER) ((0, 0, 0, 0)) rfl rfl (by assumption) (by first | omega | (simp; omega) | (simp_all; omega)) (fun p1 csp1 hpp1 hzp1 hcp1 hq => ?_)
    cases hq
    refine HP.take rfl rfl rfl rfl hS (fun wS hS1 => (by first | exact PV.indexAddr hpp1 rfl rfl T.sl27 | exact PV.indexAddr hpp1 rfl (by rw [← hzp1]; rfl) T.sl27)) ?_
    refine HP.take rfl rfl rfl rfl hS (fun wS hS1 => (by first | exact PV.loadA T.ag67 rfl (by first | exact Cells.up (by assumption) (hBr.trans hS1) | exact Bx.cells (Bx.updD (by assumption) hS1 (Dj.nlR _)) | exact Cells.upd (by assumption) hS1 (by simp)) (Ext.refl _) rfl | exact PV.loadP (ds := [_, _, _, _]) T.ag67 rfl (by first | exact Cells.up (by assumption) (hBr.trans hS1) | exact Bx.cells (Bx.updD (by assumption) hS1 (Dj.nlR _)) | exact Cells.upd (by assumption) hS1 (by simp)) (Ext.refl _) rfl rfl)) ?_
    refine HP.take rfl rfl rfl rfl hS (fun wS hS1 => PV.move rfl) ?_
    refine HP.take rfl rfl rfl rfl hS (fun wS hS1 => PV.move rfl) ?_
    first
      | refine HP.at (x := .tmp 20) (y := .tmp 21) (E := ER) ((0, 0, 0, 0)) rfl rfl (by assumption) (by first | omega | (simp; omega) | (simp_all; omega)) (fun p2 csp2 hpp2 hcp2 hq => ?_)
      | refine HP.atZ (x := .tmp 20) (y := .tmp 21) (E := ER) ((0, 0, 0, 0)) rfl rfl (by assumption) (by first | omega | (simp; omega) | (simp_all; omega)) (fun p2 csp2 hpp2 hzp2 hcp2 hq => ?_)
    cases hq
    refine HP.take rfl rfl rfl rfl hS (fun wS hS1 => (by first | exact PV.indexAddr hpp2 rfl rfl T.sl27 | exact PV.indexAddr hpp2 rfl (by rw [← hzp2]; rfl) T.sl27)) ?_
    refine HP.take rfl rfl rfl rfl hS (fun wS hS1 => (by first | exact PV.loadA T.ag67 rfl (by first | exact Cells.up (by assumption) (hBr.trans hS1) | exact Bx.cells (Bx.updD (by assumption) hS1 (Dj.nlR _)) | exact Cells.upd (by assumption) hS1 (by simp)) (Ext.refl _) rfl | exact PV.loadP (ds := [_, _, _, _]) T.ag67 rfl (by first | exact Cells.up (by assumption) (hBr.trans hS1) | exact Bx.cells (Bx.updD (by assumption) hS1 (Dj.nlR _)) | exact Cells.upd (by assumption) hS1 (by simp)) (Ext.refl _) rfl rfl)) ?_
    refine HP.take rfl rfl rfl rfl hS (fun wS hS1 => PV.neq4 T.s467 rfl rfl) ?_
    refine HP.doneS ?_
    refine CW.cond rfl (fun hc3 => ?_) (fun hc3 => ?_)
    · skip
      try simp only [decide_eq_true_eq, decide_eq_false_iff_not, Bool.not_eq_true', Bool.not_eq_false', Bool.not_eq_eq_eq_not, Bool.not_true, Bool.not_false, Int.not_lt, Int.not_le, Classical.not_not, beq_iff_eq, beq_eq_false_iff_ne] at hc3
      refine CW.seq ?_
      refine CW.reg ?_
      refine WL.pure rfl rfl rfl (PV.assign rfl) ?_
      refine WL.nilS ?_
      refine CW.ret ?_
      refine RQ.block ?_
      refine RQ.then ?_
      refine RQ.then ?_
      refine RQ.block ?_
      refine RQ.then ?_
      refine RQ.r1 rfl ?_
      refine ⟨?_, hB⟩
      first | exact bT (eq_of_takes (by omega) (by omega) he) | exact bF (by rintro rfl; first | omega | exact (r4_no (by assumption)).elim)
    try simp only [decide_eq_true_eq, decide_eq_false_iff_not, Bool.not_eq_true', Bool.not_eq_false', Bool.not_eq_eq_eq_not, Bool.not_true, Bool.not_false, Int.not_lt, Int.not_le, Classical.not_not, beq_iff_eq, beq_eq_false_iff_ne] at hc3
    refine CW.skip ?_
    refine NQ.block ?_
    refine NQ.then ?_
    refine CW.reg ?_
    refine WL.pure rfl rfl rfl (PV.add rfl rfl (by constructor <;> omega)) ?_
    refine WL.pure rfl rfl rfl (PV.move rfl) ?_
    refine WL.nil ?_
    refine NQ.next (ρ := [(13, _)]) ⟨rfl, rfl, rfl, rfl, trivial⟩ ?_
    exact ⟨_, ⟨k + 1, rfl, rfl, hU0, (by first | omega | assumption | (simp_all; done) | (simp_all; omega)), (by exact take_eq_succ (by omega) (by omega) he (r4_ext (by assumption)))⟩, by omega⟩
  try simp only [decide_eq_true_eq, decide_eq_false_iff_not, Bool.not_eq_true', Bool.not_eq_false', Bool.not_eq_eq_eq_not, Bool.not_true, Bool.not_false, Int.not_lt, Int.not_le, Classical.not_not, beq_iff_eq, beq_eq_false_iff_ne] at hc2
  refine CW.exit ?_
  refine XQ.then ?_
  refine XQ.then ?_
  refine XQ.here ?_
  refine NQ.then ?_
  refine CW.seq ?_
  refine CW.reg ?_
  refine WL.pure rfl rfl rfl (PV.assign rfl) ?_
  refine WL.nilS ?_
  refine CW.ret ?_
  refine RQ.r1 rfl ?_
  refine ⟨?_, hB⟩
  first | exact bT (eq_of_takes (by omega) (by omega) he) | exact bF (by rintro rfl; first | omega | exact (r4_no (by assumption)).elim)
theorem c_impl_SameGrammar {w : World} {a0 : Int} {a1 : Int} {va2 : Value} {xa2 : List R4} {b0 : Int} {b1 : Int} {vb2 : Value} {xb2 : List R4}  (ha2 : Rd ER w va2 xa2) (hb2 : Rd ER w vb2 xb2) : Calls Try.prog 18 #[.agg #[.int .i64 a0, .int .i64 a1, va2], .agg #[.int .i64 b0, .int .i64 b1, vb2]] w (Ret1 (RQt (.bool (decide (a0 = b0 ∧ a1 = b1 ∧ xa2 = xb2))) w)) := by
  have hB : Ext w w := Ext.refl w
  have hla2 := ha2.leI; have hlb2 := hb2.leI
  refine callsOf (vs := [_, _]) Try.func18 rfl Try.ntmps18 rfl rfl ?_
  refine CW.seq ?_
  refine CW.reg ?_
  refine WL.op rfl (OpK.box rfl rfl (by first | rfl | exact Rd.cells1 (by assumption) | exact Osl.cells1 (by assumption) | exact Osn.cells1 (by assumption)) (fun b1 w1 hXw1 hb1 hge1 => ?_))
  have hl1 := Lo.new hB hge1
  have hB := hB.trans hXw1
  refine WL.op rfl (OpK.box rfl rfl (by first | rfl | exact Rd.cells1 (by assumption) | exact Osl.cells1 (by assumption) | exact Osn.cells1 (by assumption)) (fun b2 w2 hXw2 hb2 hge2 => ?_))
  have hl2 := Lo.new hB hge2
  have hd1_2 := Dj.new hb1.ltO hge2
  have hB := hB.trans hXw2
  have hb1 := hb1.up hXw2
  refine WL.pure rfl rfl rfl (PV.assign rfl) ?_
  refine WL.nilS ?_
  refine CW.seq ?_
  refine CW.reg ?_
  refine WL.pure rfl rfl rfl ((by first | exact PV.fieldAddr T.fl29_0 rfl (by first | assumption | exact Bx.cells (by assumption)) | exact PV.fieldAddrP T.fl29_0 rfl rfl)) ?_
  refine WL.pure rfl rfl rfl ((by first | exact PV.load0 T.na2 rfl (by first | exact Cells.up (by assumption) hB | exact Bx.cells (by assumption) | assumption) (Ext.refl _) rfl | exact PV.load1 T.na2 rfl (by first | exact Cells.up (by assumption) hB | exact Bx.cells (by assumption) | assumption) (Ext.refl _) rfl)) ?_
  refine WL.pure rfl rfl rfl ((by first | exact PV.fieldAddr T.fl29_0 rfl (by first | assumption | exact Bx.cells (by assumption)) | exact PV.fieldAddrP T.fl29_0 rfl rfl)) ?_
  refine WL.pure rfl rfl rfl ((by first | exact PV.load0 T.na2 rfl (by first | exact Cells.up (by assumption) hB | exact Bx.cells (by assumption) | assumption) (Ext.refl _) rfl | exact PV.load1 T.na2 rfl (by first | exact Cells.up (by assumption) hB | exact Bx.cells (by assumption) | assumption) (Ext.refl _) rfl)) ?_
  refine WL.pure rfl rfl rfl (PV.eql rfl rfl) ?_
  refine WL.pure rfl rfl rfl (PV.move rfl) ?_
  refine WL.split (t := 10) rfl (fun hc1 => ?_) (fun hc1 => ?_)
  rotate_left
  · skip
    try simp only [decide_eq_true_eq, decide_eq_false_iff_not, Bool.not_eq_true', Bool.not_eq_false', Bool.not_eq_eq_eq_not, Bool.not_true, Bool.not_false, Int.not_lt, Int.not_le, Classical.not_not, beq_iff_eq, beq_eq_false_iff_ne] at hc1
    refine WL.skip rfl rfl rfl rfl rfl ?_
    refine WL.skip rfl rfl rfl rfl rfl ?_
    refine WL.skip rfl rfl rfl rfl rfl ?_
    refine WL.skip rfl rfl rfl rfl rfl ?_
    refine WL.skip rfl rfl rfl rfl rfl ?_
    refine WL.pure rfl rfl rfl (PV.pickF rfl rfl) ?_
    refine WL.pure rfl rfl rfl (PV.move rfl) ?_
    refine WL.skip rfl rfl rfl rfl rfl ?_
    refine WL.skip rfl rfl rfl rfl rfl ?_
    refine WL.skip rfl rfl rfl rfl rfl ?_
    refine WL.skip rfl rfl rfl rfl rfl ?_
    refine WL.skip rfl rfl rfl rfl rfl ?_
    refine WL.pure rfl rfl rfl (PV.pickF rfl rfl) ?_
    refine WL.pure rfl rfl rfl (PV.assign rfl) ?_
    refine WL.nilS ?_
    refine CW.ret ?_
    refine RQ.r1 rfl ?_
    refine ⟨?_, hB⟩
    first | rfl | exact bT (by omega) | exact bF (by omega) | exact bD (by omega) | exact iE (by omega) | (simp_all; done) | (simp_all; omega) | (simp_all; intros; omega)
  try simp only [decide_eq_true_eq, decide_eq_false_iff_not, Bool.not_eq_true', Bool.not_eq_false', Bool.not_eq_eq_eq_not, Bool.not_true, Bool.not_false, Int.not_lt, Int.not_le, Classical.not_not, beq_iff_eq, beq_eq_false_iff_ne] at hc1
  refine WL.pureG rfl rfl rfl rfl rfl ((by first | exact PV.fieldAddr T.fl29_1 rfl (by first | assumption | exact Bx.cells (by assumption)) | exact PV.fieldAddrP T.fl29_1 rfl rfl)) ?_
  refine WL.pureG rfl rfl rfl rfl rfl ((by first | exact PV.load0 T.na2 rfl (by first | exact Cells.up (by assumption) hB | exact Bx.cells (by assumption) | assumption) (Ext.refl _) rfl | exact PV.load1 T.na2 rfl (by first | exact Cells.up (by assumption) hB | exact Bx.cells (by assumption) | assumption) (Ext.refl _) rfl)) ?_
  refine WL.pureG rfl rfl rfl rfl rfl ((by first | exact PV.fieldAddr T.fl29_1 rfl (by first | assumption | exact Bx.cells (by assumption)) | exact PV.fieldAddrP T.fl29_1 rfl rfl)) ?_
  refine WL.pureG rfl rfl rfl rfl rfl ((by first | exact PV.load0 T.na2 rfl (by first | exact Cells.up (by assumption) hB | exact Bx.cells (by assumption) | assumption) (Ext.refl _) rfl | exact PV.load1 T.na2 rfl (by first | exact Cells.up (by assumption) hB | exact Bx.cells (by assumption) | assumption) (Ext.refl _) rfl)) ?_
  refine WL.pureG rfl rfl rfl rfl rfl (PV.eql rfl rfl) ?_
  refine WL.pure rfl rfl rfl (PV.pickT rfl rfl) ?_
  refine WL.pure rfl rfl rfl (PV.move rfl) ?_
  refine WL.split (t := 17) rfl (fun hc2 => ?_) (fun hc2 => ?_)
  rotate_left
  · skip
    try simp only [decide_eq_true_eq, decide_eq_false_iff_not, Bool.not_eq_true', Bool.not_eq_false', Bool.not_eq_eq_eq_not, Bool.not_true, Bool.not_false, Int.not_lt, Int.not_le, Classical.not_not, beq_iff_eq, beq_eq_false_iff_ne] at hc2
    refine WL.skip rfl rfl rfl rfl rfl ?_
    refine WL.skip rfl rfl rfl rfl rfl ?_
    refine WL.skip rfl rfl rfl rfl rfl ?_
    refine WL.skip rfl rfl rfl rfl rfl ?_
    refine WL.skip rfl rfl rfl rfl rfl ?_
    refine WL.pure rfl rfl rfl (PV.pickF rfl rfl) ?_
    refine WL.pure rfl rfl rfl (PV.assign rfl) ?_
    refine WL.nilS ?_
    refine CW.ret ?_
    refine RQ.r1 rfl ?_
    refine ⟨?_, hB⟩
    first | rfl | exact bT (by omega) | exact bF (by omega) | exact bD (by omega) | exact iE (by omega) | (simp_all; done) | (simp_all; omega) | (simp_all; intros; omega)
  try simp only [decide_eq_true_eq, decide_eq_false_iff_not, Bool.not_eq_true', Bool.not_eq_false', Bool.not_eq_eq_eq_not, Bool.not_true, Bool.not_false, Int.not_lt, Int.not_le, Classical.not_not, beq_iff_eq, beq_eq_false_iff_ne] at hc2
  refine WL.pureG rfl rfl rfl rfl rfl ((by first | exact PV.fieldAddr T.fl29_2 rfl (by first | assumption | exact Bx.cells (by assumption)) | exact PV.fieldAddrP T.fl29_2 rfl rfl)) ?_
  refine WL.pureG rfl rfl rfl rfl rfl ((by first | exact PV.load0 T.na27 rfl (by first | exact Cells.up (by assumption) hB | exact Bx.cells (by assumption) | assumption) (Ext.refl _) rfl | exact PV.load1 T.na27 rfl (by first | exact Cells.up (by assumption) hB | exact Bx.cells (by assumption) | assumption) (Ext.refl _) rfl)) ?_
  refine WL.pureG rfl rfl rfl rfl rfl ((by first | exact PV.fieldAddr T.fl29_2 rfl (by first | assumption | exact Bx.cells (by assumption)) | exact PV.fieldAddrP T.fl29_2 rfl rfl)) ?_
  refine WL.pureG rfl rfl rfl rfl rfl ((by first | exact PV.load0 T.na27 rfl (by first | exact Cells.up (by assumption) hB | exact Bx.cells (by assumption) | assumption) (Ext.refl _) rfl | exact PV.load1 T.na27 rfl (by first | exact Cells.up (by assumption) hB | exact Bx.cells (by assumption) | assumption) (Ext.refl _) rfl)) ?_
  refine WL.opG rfl rfl rfl (OpK.callR rfl T.cf55 rfl (c_slices_Equal_impl_Rule_impl_Rule (by first | assumption | exact Rd.up (by assumption) hB | exact Osl.rd (by assumption) | exact Osn.rdR (by assumption)) (by first | assumption | exact Rd.up (by assumption) hB | exact Osl.rd (by assumption) | exact Osn.rdR (by assumption))) (fun w3 hXw3 => ?_))
  have hB := hB.trans hXw3
  have hb1 := hb1.up hXw3
  have hb2 := hb2.up hXw3
  refine WL.pure rfl rfl rfl (PV.pickT rfl rfl) ?_
  refine WL.pure rfl rfl rfl (PV.assign rfl) ?_
  refine WL.nilS ?_
  refine CW.ret ?_
  refine RQ.r1 rfl ?_
  refine ⟨?_, hB⟩
  first | rfl | exact bT (by omega) | exact bF (by omega) | exact bD (by omega) | exact iE (by omega) | (simp_all; done) | (simp_all; omega) | (simp_all; intros; omega)
theorem c_laws_eqRule {w : World} {a0 a1 a2 a3 b0 b1 b2 b3 : Int} : Calls Try.prog 88 #[.agg #[.int .i64 a0, .int .i64 a1, .int .i64 a2, .int .i64 a3], .agg #[.int .i64 b0, .int .i64 b1, .int .i64 b2, .int .i64 b3]] w (Ret1 (RQt (.bool (decide (a0 = b0 ∧ a1 = b1 ∧ a2 = b2 ∧ a3 = b3))) w)) := by
  have hB : Ext w w := Ext.refl w
  refine callsOf (vs := [_, _]) Try.func88 rfl Try.ntmps88 rfl rfl ?_
  refine CW.seq ?_
  refine CW.reg ?_
  refine WL.op rfl (OpK.box rfl rfl (by first | rfl | exact Rd.cells1 (by assumption) | exact Osl.cells1 (by assumption) | exact Osn.cells1 (by assumption)) (fun b1 w1 hXw1 hb1 hge1 => ?_))
  have hl1 := Lo.new hB hge1
  have hB := hB.trans hXw1
  refine WL.op rfl (OpK.box rfl rfl (by first | rfl | exact Rd.cells1 (by assumption) | exact Osl.cells1 (by assumption) | exact Osn.cells1 (by assumption)) (fun b2 w2 hXw2 hb2 hge2 => ?_))
  have hl2 := Lo.new hB hge2
  have hd1_2 := Dj.new hb1.ltO hge2
  have hB := hB.trans hXw2
  have hb1 := hb1.up hXw2
  refine WL.pure rfl rfl rfl (PV.assign rfl) ?_
  refine WL.nilS ?_
  refine CW.seq ?_
  refine CW.seq ?_
  refine CW.reg ?_
  refine WL.pure rfl rfl rfl ((by first | exact PV.fieldAddr T.fl67_0 rfl (by first | assumption | exact Bx.cells (by assumption)) | exact PV.fieldAddrP T.fl67_0 rfl rfl)) ?_
  refine WL.pure rfl rfl rfl ((by first | exact PV.load0 T.na2 rfl (by first | exact Cells.up (by assumption) hB | exact Bx.cells (by assumption) | assumption) (Ext.refl _) rfl | exact PV.load1 T.na2 rfl (by first | exact Cells.up (by assumption) hB | exact Bx.cells (by assumption) | assumption) (Ext.refl _) rfl)) ?_
  refine WL.pure rfl rfl rfl ((by first | exact PV.fieldAddr T.fl67_0 rfl (by first | assumption | exact Bx.cells (by assumption)) | exact PV.fieldAddrP T.fl67_0 rfl rfl)) ?_
  refine WL.pure rfl rfl rfl ((by first | exact PV.load0 T.na2 rfl (by first | exact Cells.up (by assumption) hB | exact Bx.cells (by assumption) | assumption) (Ext.refl _) rfl | exact PV.load1 T.na2 rfl (by first | exact Cells.up (by assumption) hB | exact Bx.cells (by assumption) | assumption) (Ext.refl _) rfl)) ?_
  refine WL.pure rfl rfl rfl (PV.neq rfl rfl) ?_
  refine WL.nilS ?_
  refine CW.cond rfl (fun hc1 => ?_) (fun hc1 => ?_)
  · skip
    try simp only [decide_eq_true_eq, decide_eq_false_iff_not, Bool.not_eq_true', Bool.not_eq_false', Bool.not_eq_eq_eq_not, Bool.not_true, Bool.not_false, Int.not_lt, Int.not_le, Classical.not_not, beq_iff_eq, beq_eq_false_iff_ne] at hc1
    refine CW.seq ?_
    refine CW.reg ?_
    refine WL.pure rfl rfl rfl (PV.assign rfl) ?_
    refine WL.nilS ?_
    refine CW.ret ?_
    refine RQ.then ?_
    refine RQ.r1 rfl ?_
    refine ⟨?_, hB⟩
    first | rfl | exact bT (by omega) | exact bF (by omega) | exact bD (by omega) | exact iE (by omega) | (simp_all; done) | (simp_all; omega) | (simp_all; intros; omega)
  try simp only [decide_eq_true_eq, decide_eq_false_iff_not, Bool.not_eq_true', Bool.not_eq_false', Bool.not_eq_eq_eq_not, Bool.not_true, Bool.not_false, Int.not_lt, Int.not_le, Classical.not_not, beq_iff_eq, beq_eq_false_iff_ne] at hc1
  refine CW.skipS ?_
  refine CW.seq ?_
  refine CW.seq ?_
  refine CW.reg ?_
  refine WL.pure rfl rfl rfl ((by first | exact PV.fieldAddr T.fl67_1 rfl (by first | assumption | exact Bx.cells (by assumption)) | exact PV.fieldAddrP T.fl67_1 rfl rfl)) ?_
  refine WL.pure rfl rfl rfl ((by first | exact PV.load0 T.na2 rfl (by first | exact Cells.up (by assumption) hB | exact Bx.cells (by assumption) | assumption) (Ext.refl _) rfl | exact PV.load1 T.na2 rfl (by first | exact Cells.up (by assumption) hB | exact Bx.cells (by assumption) | assumption) (Ext.refl _) rfl)) ?_
  refine WL.pure rfl rfl rfl ((by first | exact PV.fieldAddr T.fl67_1 rfl (by first | assumption | exact Bx.cells (by assumption)) | exact PV.fieldAddrP T.fl67_1 rfl rfl)) ?_
  refine WL.pure rfl rfl rfl ((by first | exact PV.load0 T.na2 rfl (by first | exact Cells.up (by assumption) hB | exact Bx.cells (by assumption) | assumption) (Ext.refl _) rfl | exact PV.load1 T.na2 rfl (by first | exact Cells.up (by assumption) hB | exact Bx.cells (by assumption) | assumption) (Ext.refl _) rfl)) ?_
  refine WL.pure rfl rfl rfl (PV.neq rfl rfl) ?_
  refine WL.nilS ?_
  refine CW.cond rfl (fun hc2 => ?_) (fun hc2 => ?_)
  · skip
    try simp only [decide_eq_true_eq, decide_eq_false_iff_not, Bool.not_eq_true', Bool.not_eq_false', Bool.not_eq_eq_eq_not, Bool.not_true, Bool.not_false, Int.not_lt, Int.not_le, Classical.not_not, beq_iff_eq, beq_eq_false_iff_ne] at hc2
    refine CW.seq ?_
    refine CW.reg ?_
    refine WL.pure rfl rfl rfl (PV.assign rfl) ?_
    refine WL.nilS ?_
    refine CW.ret ?_
    refine RQ.then ?_
    refine RQ.r1 rfl ?_
    refine ⟨?_, hB⟩
    first | rfl | exact bT (by omega) | exact bF (by omega) | exact bD (by omega) | exact iE (by omega) | (simp_all; done) | (simp_all; omega) | (simp_all; intros; omega)
  try simp only [decide_eq_true_eq, decide_eq_false_iff_not, Bool.not_eq_true', Bool.not_eq_false', Bool.not_eq_eq_eq_not, Bool.not_true, Bool.not_false, Int.not_lt, Int.not_le, Classical.not_not, beq_iff_eq, beq_eq_false_iff_ne] at hc2
  refine CW.skipS ?_
  refine CW.seq ?_
  refine CW.seq ?_
  refine CW.reg ?_
  refine WL.pure rfl rfl rfl ((by first | exact PV.fieldAddr T.fl67_2 rfl (by first | assumption | exact Bx.cells (by assumption)) | exact PV.fieldAddrP T.fl67_2 rfl rfl)) ?_
  refine WL.pure rfl rfl rfl ((by first | exact PV.load0 T.na2 rfl (by first | exact Cells.up (by assumption) hB | exact Bx.cells (by assumption) | assumption) (Ext.refl _) rfl | exact PV.load1 T.na2 rfl (by first | exact Cells.up (by assumption) hB | exact Bx.cells (by assumption) | assumption) (Ext.refl _) rfl)) ?_
  refine WL.pure rfl rfl rfl ((by first | exact PV.fieldAddr T.fl67_2 rfl (by first | assumption | exact Bx.cells (by assumption)) | exact PV.fieldAddrP T.fl67_2 rfl rfl)) ?_
  refine WL.pure rfl rfl rfl ((by first | exact PV.load0 T.na2 rfl (by first | exact Cells.up (by assumption) hB | exact Bx.cells (by assumption) | assumption) (Ext.refl _) rfl | exact PV.load1 T.na2 rfl (by first | exact Cells.up (by assumption) hB | exact Bx.cells (by assumption) | assumption) (Ext.refl _) rfl)) ?_
  refine WL.pure rfl rfl rfl (PV.neq rfl rfl) ?_
  refine WL.nilS ?_
  refine CW.cond rfl (fun hc3 => ?_) (fun hc3 => ?_)
  · skip
    try simp only [decide_eq_true_eq, decide_eq_false_iff_not, Bool.not_eq_true', Bool.not_eq_false', Bool.not_eq_eq_eq_not, Bool.not_true, Bool.not_false, Int.not_lt, Int.not_le, Classical.not_not, beq_iff_eq, beq_eq_false_iff_ne] at hc3
    refine CW.seq ?_
    refine CW.reg ?_
    refine WL.pure rfl rfl rfl (PV.assign rfl) ?_
    refine WL.nilS ?_
    refine CW.ret ?_
    refine RQ.then ?_
    refine RQ.r1 rfl ?_
    refine ⟨?_, hB⟩
    first | rfl | exact bT (by omega) | exact bF (by omega) | exact bD (by omega) | exact iE (by omega) | (simp_all; done) | (simp_all; omega) | (simp_all; intros; omega)
  try simp only [decide_eq_true_eq, decide_eq_false_iff_not, Bool.not_eq_true', Bool.not_eq_false', Bool.not_eq_eq_eq_not, Bool.not_true, Bool.not_false, Int.not_lt, Int.not_le, Classical.not_not, beq_iff_eq, beq_eq_false_iff_ne] at hc3
  refine CW.skipS ?_
  refine CW.seq ?_
  refine CW.seq ?_
  refine CW.reg ?_
  refine WL.pure rfl rfl rfl ((by first | exact PV.fieldAddr T.fl67_3 rfl (by first | assumption | exact Bx.cells (by assumption)) | exact PV.fieldAddrP T.fl67_3 rfl rfl)) ?_
  refine WL.pure rfl rfl rfl ((by first | exact PV.load0 T.na2 rfl (by first | exact Cells.up (by assumption) hB | exact Bx.cells (by assumption) | assumption) (Ext.refl _) rfl | exact PV.load1 T.na2 rfl (by first | exact Cells.up (by assumption) hB | exact Bx.cells (by assumption) | assumption) (Ext.refl _) rfl)) ?_
  refine WL.pure rfl rfl rfl ((by first | exact PV.fieldAddr T.fl67_3 rfl (by first | assumption | exact Bx.cells (by assumption)) | exact PV.fieldAddrP T.fl67_3 rfl rfl)) ?_
  refine WL.pure rfl rfl rfl ((by first | exact PV.load0 T.na2 rfl (by first | exact Cells.up (by assumption) hB | exact Bx.cells (by assumption) | assumption) (Ext.refl _) rfl | exact PV.load1 T.na2 rfl (by first | exact Cells.up (by assumption) hB | exact Bx.cells (by assumption) | assumption) (Ext.refl _) rfl)) ?_
  refine WL.pure rfl rfl rfl (PV.neq rfl rfl) ?_
  refine WL.nilS ?_
  refine CW.cond rfl (fun hc4 => ?_) (fun hc4 => ?_)
  · skip
    try simp only [decide_eq_true_eq, decide_eq_false_iff_not, Bool.not_eq_true', Bool.not_eq_false', Bool.not_eq_eq_eq_not, Bool.not_true, Bool.not_false, Int.not_lt, Int.not_le, Classical.not_not, beq_iff_eq, beq_eq_false_iff_ne] at hc4
    refine CW.seq ?_
    refine CW.reg ?_
    refine WL.pure rfl rfl rfl (PV.assign rfl) ?_
    refine WL.nilS ?_
    refine CW.ret ?_
    refine RQ.then ?_
    refine RQ.r1 rfl ?_
    refine ⟨?_, hB⟩
    first | rfl | exact bT (by omega) | exact bF (by omega) | exact bD (by omega) | exact iE (by omega) | (simp_all; done) | (simp_all; omega) | (simp_all; intros; omega)
  try simp only [decide_eq_true_eq, decide_eq_false_iff_not, Bool.not_eq_true', Bool.not_eq_false', Bool.not_eq_eq_eq_not, Bool.not_true, Bool.not_false, Int.not_lt, Int.not_le, Classical.not_not, beq_iff_eq, beq_eq_false_iff_ne] at hc4
  refine CW.skipS ?_
  refine CW.seq ?_
  refine CW.reg ?_
  refine WL.pure rfl rfl rfl (PV.assign rfl) ?_
  refine WL.nilS ?_
  refine CW.ret ?_
  refine RQ.r1 rfl ?_
  refine ⟨?_, hB⟩
  first | rfl | exact bT (by omega) | exact bF (by omega) | exact bD (by omega) | exact iE (by omega) | (simp_all; done) | (simp_all; omega) | (simp_all; intros; omega)
theorem c_laws_eqRuleS {w : World} {va vb : Value} {xs ys : List R4} (ha : Rd ER w va xs) (hb : Rd ER w vb ys) : Calls Try.prog 56 #[va, vb] w (Ret1 (RQt (.bool (decide (xs = ys))) w)) := by
  have hB : Ext w w := Ext.refl w
  have hla := ha.leI; have hlb := hb.leI
  refine callsOf (vs := [_, _]) Try.func56 rfl Try.ntmps56 rfl rfl ?_
  refine CW.seq ?_
  refine CW.reg ?_
  refine WL.pure rfl rfl rfl (PV.assign rfl) ?_
  refine WL.nilS ?_
  refine CW.seq ?_
  refine CW.seq ?_
  refine CW.reg ?_
  refine WL.pure rfl rfl rfl (PV.move rfl) ?_
  refine WL.pure rfl rfl rfl ((by first | exact PV.len rfl (by assumption) T.sl27 | exact PV.lenOs rfl (by assumption) T.sl27)) ?_
  refine WL.pure rfl rfl rfl (PV.move rfl) ?_
  refine WL.pure rfl rfl rfl ((by first | exact PV.len rfl (by assumption) T.sl27 | exact PV.lenOs rfl (by assumption) T.sl27)) ?_
  refine WL.pure rfl rfl rfl (PV.neq rfl rfl) ?_
  refine WL.nilS ?_
  refine CW.cond rfl (fun hc1 => ?_) (fun hc1 => ?_)
  · skip
    try simp only [decide_eq_true_eq, decide_eq_false_iff_not, Bool.not_eq_true', Bool.not_eq_false', Bool.not_eq_eq_eq_not, Bool.not_true, Bool.not_false, Int.not_lt, Int.not_le, Classical.not_not, beq_iff_eq, beq_eq_false_iff_ne] at hc1
    refine CW.seq ?_
    refine CW.reg ?_
    refine WL.pure rfl rfl rfl (PV.assign rfl) ?_
    refine WL.nilS ?_
    refine CW.ret ?_
    refine RQ.then ?_
    refine RQ.r1 rfl ?_
    refine ⟨?_, hB⟩
    first | exact bT (eq_of_takes (by omega) (by omega) he) | exact bF (by rintro rfl; first | omega | exact (r4_no (by assumption)).elim)
  try simp only [decide_eq_true_eq, decide_eq_false_iff_not, Bool.not_eq_true', Bool.not_eq_false', Bool.not_eq_eq_eq_not, Bool.not_true, Bool.not_false, Int.not_lt, Int.not_le, Classical.not_not, beq_iff_eq, beq_eq_false_iff_ne] at hc1
  refine CW.skipS ?_
  refine CW.seq ?_
  refine CW.seq ?_
  refine CW.reg ?_
  refine WL.pure rfl rfl rfl (PV.assign rfl) ?_
  refine WL.nilS ?_
  refine CW.block ?_
  refine CW.loop (σk := [(0, _), (1, _)]) (fun ρ wz m => ∃ (k : Nat), ρ = [(5, .int .i64 (k : Nat))] ∧ m = xs.length - k ∧ UpdL [] w wz ∧ (k ≤ xs.length) ∧ (xs.take k = ys.take k)) (ρ₀ := [(5, _)]) (m₀ := _) ⟨rfl, rfl, rfl, trivial⟩ ⟨0, rfl, rfl, (UpdL.refl _ _), (by first | omega | rfl | (simp; done) | assumption | (simp_all; done)), (by first | omega | rfl | (simp; done) | assumption | (simp_all; done))⟩ ?_
  rintro _ wl1 _ ⟨k, rfl, rfl, hU0, hk, he⟩
  have hB := hB.loop hU0 trivial
  refine CW.seq ?_
  refine CW.seq ?_
  refine CW.reg ?_
  refine WL.pure rfl rfl rfl (PV.move rfl) ?_
  refine WL.pure rfl rfl rfl (PV.move rfl) ?_
  refine WL.pure rfl rfl rfl ((by first | exact PV.len rfl (by assumption) T.sl27 | exact PV.lenOs rfl (by assumption) T.sl27)) ?_
  refine WL.pure rfl rfl rfl (PV.lss rfl rfl) ?_
  refine WL.nilS ?_
  refine CW.cond rfl (fun hc2 => ?_) (fun hc2 => ?_)
  · skip
    try simp only [decide_eq_true_eq, decide_eq_false_iff_not, Bool.not_eq_true', Bool.not_eq_false', Bool.not_eq_eq_eq_not, Bool.not_true, Bool.not_false, Int.not_lt, Int.not_le, Classical.not_not, beq_iff_eq, beq_eq_false_iff_ne] at hc2
    refine CW.skipS ?_
    refine CW.seq ?_
    refine CW.block ?_
    refine CW.seq ?_
    refine CW.draw T.mixed (by kernel_rfl) (fun _ _ _ _ _ h => h) (fun w8 w9 => Upd none w8 w9) 10 (.take 0 (.take 1 (.take 2 (.take 3 (.take 4 (.take 5 (.take 6 (.take 7 (.must 8 (.take 9 .done)))))))))) (by kernel_rfl) (fun w1 hXd => ?_)
    have hB := hB.trans hXd
    have hU0 := hU0.ext hXd
    have hBr := hB
    have hS : Upd none w1 w1 := Ext.toUpd (Ext.refl _)
    refine HP.take rfl rfl rfl rfl hS (fun wS hS1 => PV.move rfl) ?_
    refine HP.take rfl rfl rfl rfl hS (fun wS hS1 => PV.move rfl) ?_
    first
      | refine HP.at (x := .tmp 17) (y := .tmp 18) (E := ER) ((0, 0, 0, 0)) rfl rfl (by assumption) (by first | omega | (simp; omega) | (simp_all; omega)) (fun p1 csp1 hpp1 hcp1 hq => ?_)
      | refine HP.atZ (x := .tmp 17) (y := .tmp 18) (E := ER) ((0, 0, 0, 0)) rfl rfl (by assumption) (by first | omega | (simp; omega) | (simp_all; omega)) (fun p1 csp1 hpp1 hzp1 hcp1 hq => ?_)
    cases hq
    refine HP.take rfl rfl rfl rfl hS (fun wS hS1 => (by first | exact PV.indexAddr hpp1 rfl rfl T.sl27 | exact PV.indexAddr hpp1 rfl (by rw [← hzp1]; rfl) T.sl27)) ?_
    refine HP.take rfl rfl rfl rfl hS (fun wS hS1 => (by first | exact PV.loadA T.ag67 rfl (by first | exact Cells.up (by assumption) (hBr.trans hS1) | exact Bx.cells (Bx.updD (by assumption) hS1 (Dj.nlR _)) | exact Cells.upd (by assumption) hS1 (by simp)) (Ext.refl _) rfl | exact PV.loadP (ds := [_, _, _, _]) T.ag67 rfl (by first | exact Cells.up (by assumption) (hBr.trans hS1) | exact Bx.cells (Bx.updD (by assumption) hS1 (Dj.nlR _)) | exact Cells.upd (by assumption) hS1 (by simp)) (Ext.refl _) rfl rfl)) ?_
    refine HP.take rfl rfl rfl rfl hS (fun wS hS1 => PV.move rfl) ?_
    refine HP.take rfl rfl rfl rfl hS (fun wS hS1 => PV.move rfl) ?_
    first
      | refine HP.at (x := .tmp 21) (y := .tmp 22) (E := ER) ((0, 0, 0, 0)) rfl rfl (by assumption) (by first | omega | (simp; omega) | (simp_all; omega)) (fun p2 csp2 hpp2 hcp2 hq => ?_)
      | refine HP.atZ (x := .tmp 21) (y := .tmp 22) (E := ER) ((0, 0, 0, 0)) rfl rfl (by assumption) (by first | omega | (simp; omega) | (simp_all; omega)) (fun p2 csp2 hpp2 hzp2 hcp2 hq => ?_)
    cases hq
    refine HP.take rfl rfl rfl rfl hS (fun wS hS1 => (by first | exact PV.indexAddr hpp2 rfl rfl T.sl27 | exact PV.indexAddr hpp2 rfl (by rw [← hzp2]; rfl) T.sl27)) ?_
    refine HP.take rfl rfl rfl rfl hS (fun wS hS1 => (by first | exact PV.loadA T.ag67 rfl (by first | exact Cells.up (by assumption) (hBr.trans hS1) | exact Bx.cells (Bx.updD (by assumption) hS1 (Dj.nlR _)) | exact Cells.upd (by assumption) hS1 (by simp)) (Ext.refl _) rfl | exact PV.loadP (ds := [_, _, _, _]) T.ag67 rfl (by first | exact Cells.up (by assumption) (hBr.trans hS1) | exact Bx.cells (Bx.updD (by assumption) hS1 (Dj.nlR _)) | exact Cells.upd (by assumption) hS1 (by simp)) (Ext.refl _) rfl rfl)) ?_
    refine HP.must rfl rfl (OpK.callR rfl T.cf88 rfl (c_laws_eqRule) (fun w2 hXw2 => ?_))
    refine ⟨Upd.trans hS hXw2, ?_⟩
    have hS := Upd.trans hS hXw2
    have hB := hB.trans hXw2
    have hU0 := hU0.ext hXw2
    refine HP.take rfl rfl rfl rfl hS (fun wS hS1 => PV.not rfl) ?_
    refine HP.doneS ?_
    refine CW.cond rfl (fun hc3 => ?_) (fun hc3 => ?_)
    · skip
      try simp only [decide_eq_true_eq, decide_eq_false_iff_not, Bool.not_eq_true', Bool.not_eq_false', Bool.not_eq_eq_eq_not, Bool.not_true, Bool.not_false, Int.not_lt, Int.not_le, Classical.not_not, beq_iff_eq, beq_eq_false_iff_ne] at hc3
      refine CW.seq ?_
      refine CW.reg ?_
      refine WL.pure rfl rfl rfl (PV.assign rfl) ?_
      refine WL.nilS ?_
      refine CW.ret ?_
      refine RQ.block ?_
      refine RQ.then ?_
      refine RQ.then ?_
      refine RQ.block ?_
      refine RQ.then ?_
      refine RQ.r1 rfl ?_
      refine ⟨?_, hB⟩
      first | exact bT (eq_of_takes (by omega) (by omega) he) | exact bF (by rintro rfl; first | omega | exact (r4_no (by assumption)).elim)
    try simp only [decide_eq_true_eq, decide_eq_false_iff_not, Bool.not_eq_true', Bool.not_eq_false', Bool.not_eq_eq_eq_not, Bool.not_true, Bool.not_false, Int.not_lt, Int.not_le, Classical.not_not, beq_iff_eq, beq_eq_false_iff_ne] at hc3
    refine CW.skip ?_
    refine NQ.block ?_
    refine NQ.then ?_
    refine CW.reg ?_
    refine WL.pure rfl rfl rfl (PV.move rfl) ?_
    refine WL.pure rfl rfl rfl (PV.add rfl rfl (by constructor <;> omega)) ?_
    refine WL.pure rfl rfl rfl (PV.assign rfl) ?_
    refine WL.nil ?_
    refine NQ.next (ρ := [(5, _)]) ⟨rfl, rfl, rfl, trivial⟩ ?_
    exact ⟨_, ⟨k + 1, rfl, rfl, hU0, (by first | omega | assumption | (simp_all; done) | (simp_all; omega)), (by exact take_eq_succ (by omega) (by omega) he (r4_ext (by assumption)))⟩, by omega⟩
  try simp only [decide_eq_true_eq, decide_eq_false_iff_not, Bool.not_eq_true', Bool.not_eq_false', Bool.not_eq_eq_eq_not, Bool.not_true, Bool.not_false, Int.not_lt, Int.not_le, Classical.not_not, beq_iff_eq, beq_eq_false_iff_ne] at hc2
  refine CW.exit ?_
  refine XQ.then ?_
  refine XQ.then ?_
  refine XQ.here ?_
  refine NQ.then ?_
  refine CW.seq ?_
  refine CW.reg ?_
  refine WL.pure rfl rfl rfl (PV.assign rfl) ?_
  refine WL.nilS ?_
  refine CW.ret ?_
  refine RQ.r1 rfl ?_
  refine ⟨?_, hB⟩
  first | exact bT (eq_of_takes (by omega) (by omega) he) | exact bF (by rintro rfl; first | omega | exact (r4_no (by assumption)).elim)
theorem c_laws_eqGrammar {w : World} {a0 : Int} {a1 : Int} {va2 : Value} {xa2 : List R4} {b0 : Int} {b1 : Int} {vb2 : Value} {xb2 : List R4}  (ha2 : Rd ER w va2 xa2) (hb2 : Rd ER w vb2 xb2) : Calls Try.prog 19 #[.agg #[.int .i64 a0, .int .i64 a1, va2], .agg #[.int .i64 b0, .int .i64 b1, vb2]] w (Ret1 (RQt (.bool (decide (a0 = b0 ∧ a1 = b1 ∧ xa2 = xb2))) w)) := by
  have hB : Ext w w := Ext.refl w
  have hla2 := ha2.leI; have hlb2 := hb2.leI
  refine callsOf (vs := [_, _]) Try.func19 rfl Try.ntmps19 rfl rfl ?_
  refine CW.seq ?_
  refine CW.reg ?_
  refine WL.op rfl (OpK.box rfl rfl (by first | rfl | exact Rd.cells1 (by assumption) | exact Osl.cells1 (by assumption) | exact Osn.cells1 (by assumption)) (fun b1 w1 hXw1 hb1 hge1 => ?_))
  have hl1 := Lo.new hB hge1
  have hB := hB.trans hXw1
  refine WL.op rfl (OpK.box rfl rfl (by first | rfl | exact Rd.cells1 (by assumption) | exact Osl.cells1 (by assumption) | exact Osn.cells1 (by assumption)) (fun b2 w2 hXw2 hb2 hge2 => ?_))
  have hl2 := Lo.new hB hge2
  have hd1_2 := Dj.new hb1.ltO hge2
  have hB := hB.trans hXw2
  have hb1 := hb1.up hXw2
  refine WL.pure rfl rfl rfl (PV.assign rfl) ?_
  refine WL.nilS ?_
  refine CW.seq ?_
  refine CW.seq ?_
  refine CW.reg ?_
  refine WL.pure rfl rfl rfl ((by first | exact PV.fieldAddr T.fl29_0 rfl (by first | assumption | exact Bx.cells (by assumption)) | exact PV.fieldAddrP T.fl29_0 rfl rfl)) ?_
  refine WL.pure rfl rfl rfl ((by first | exact PV.load0 T.na2 rfl (by first | exact Cells.up (by assumption) hB | exact Bx.cells (by assumption) | assumption) (Ext.refl _) rfl | exact PV.load1 T.na2 rfl (by first | exact Cells.up (by assumption) hB | exact Bx.cells (by assumption) | assumption) (Ext.refl _) rfl)) ?_
  refine WL.pure rfl rfl rfl ((by first | exact PV.fieldAddr T.fl29_0 rfl (by first | assumption | exact Bx.cells (by assumption)) | exact PV.fieldAddrP T.fl29_0 rfl rfl)) ?_
  refine WL.pure rfl rfl rfl ((by first | exact PV.load0 T.na2 rfl (by first | exact Cells.up (by assumption) hB | exact Bx.cells (by assumption) | assumption) (Ext.refl _) rfl | exact PV.load1 T.na2 rfl (by first | exact Cells.up (by assumption) hB | exact Bx.cells (by assumption) | assumption) (Ext.refl _) rfl)) ?_
  refine WL.pure rfl rfl rfl (PV.neq rfl rfl) ?_
  refine WL.nilS ?_
  refine CW.cond rfl (fun hc1 => ?_) (fun hc1 => ?_)
  · skip
    try simp only [decide_eq_true_eq, decide_eq_false_iff_not, Bool.not_eq_true', Bool.not_eq_false', Bool.not_eq_eq_eq_not, Bool.not_true, Bool.not_false, Int.not_lt, Int.not_le, Classical.not_not, beq_iff_eq, beq_eq_false_iff_ne] at hc1
    refine CW.seq ?_
    refine CW.reg ?_
    refine WL.pure rfl rfl rfl (PV.assign rfl) ?_
    refine WL.nilS ?_
    refine CW.ret ?_
    refine RQ.then ?_
    refine RQ.r1 rfl ?_
    refine ⟨?_, hB⟩
    first | rfl | exact bT (by omega) | exact bF (by omega) | exact bD (by omega) | exact iE (by omega) | (simp_all; done) | (simp_all; omega) | (simp_all; intros; omega)
  try simp only [decide_eq_true_eq, decide_eq_false_iff_not, Bool.not_eq_true', Bool.not_eq_false', Bool.not_eq_eq_eq_not, Bool.not_true, Bool.not_false, Int.not_lt, Int.not_le, Classical.not_not, beq_iff_eq, beq_eq_false_iff_ne] at hc1
  refine CW.skipS ?_
  refine CW.seq ?_
  refine CW.seq ?_
  refine CW.reg ?_
  refine WL.pure rfl rfl rfl ((by first | exact PV.fieldAddr T.fl29_1 rfl (by first | assumption | exact Bx.cells (by assumption)) | exact PV.fieldAddrP T.fl29_1 rfl rfl)) ?_
  refine WL.pure rfl rfl rfl ((by first | exact PV.load0 T.na2 rfl (by first | exact Cells.up (by assumption) hB | exact Bx.cells (by assumption) | assumption) (Ext.refl _) rfl | exact PV.load1 T.na2 rfl (by first | exact Cells.up (by assumption) hB | exact Bx.cells (by assumption) | assumption) (Ext.refl _) rfl)) ?_
  refine WL.pure rfl rfl rfl ((by first | exact PV.fieldAddr T.fl29_1 rfl (by first | assumption | exact Bx.cells (by assumption)) | exact PV.fieldAddrP T.fl29_1 rfl rfl)) ?_
  refine WL.pure rfl rfl rfl ((by first | exact PV.load0 T.na2 rfl (by first | exact Cells.up (by assumption) hB | exact Bx.cells (by assumption) | assumption) (Ext.refl _) rfl | exact PV.load1 T.na2 rfl (by first | exact Cells.up (by assumption) hB | exact Bx.cells (by assumption) | assumption) (Ext.refl _) rfl)) ?_
  refine WL.pure rfl rfl rfl (PV.neq rfl rfl) ?_
  refine WL.nilS ?_
  refine CW.cond rfl (fun hc2 => ?_) (fun hc2 => ?_)
  · skip
    try simp only [decide_eq_true_eq, decide_eq_false_iff_not, Bool.not_eq_true', Bool.not_eq_false', Bool.not_eq_eq_eq_not, Bool.not_true, Bool.not_false, Int.not_lt, Int.not_le, Classical.not_not, beq_iff_eq, beq_eq_false_iff_ne] at hc2
    refine CW.seq ?_
    refine CW.reg ?_
    refine WL.pure rfl rfl rfl (PV.assign rfl) ?_
    refine WL.nilS ?_
    refine CW.ret ?_
    refine RQ.then ?_
    refine RQ.r1 rfl ?_
    refine ⟨?_, hB⟩
    first | rfl | exact bT (by omega) | exact bF (by omega) | exact bD (by omega) | exact iE (by omega) | (simp_all; done) | (simp_all; omega) | (simp_all; intros; omega)
  try simp only [decide_eq_true_eq, decide_eq_false_iff_not, Bool.not_eq_true', Bool.not_eq_false', Bool.not_eq_eq_eq_not, Bool.not_true, Bool.not_false, Int.not_lt, Int.not_le, Classical.not_not, beq_iff_eq, beq_eq_false_iff_ne] at hc2
  refine CW.skipS ?_
  refine CW.seq ?_
  refine CW.seq ?_
  refine CW.reg ?_
  refine WL.pure rfl rfl rfl ((by first | exact PV.fieldAddr T.fl29_2 rfl (by first | assumption | exact Bx.cells (by assumption)) | exact PV.fieldAddrP T.fl29_2 rfl rfl)) ?_
  refine WL.pure rfl rfl rfl ((by first | exact PV.load0 T.na27 rfl (by first | exact Cells.up (by assumption) hB | exact Bx.cells (by assumption) | assumption) (Ext.refl _) rfl | exact PV.load1 T.na27 rfl (by first | exact Cells.up (by assumption) hB | exact Bx.cells (by assumption) | assumption) (Ext.refl _) rfl)) ?_
  refine WL.pure rfl rfl rfl ((by first | exact PV.fieldAddr T.fl29_2 rfl (by first | assumption | exact Bx.cells (by assumption)) | exact PV.fieldAddrP T.fl29_2 rfl rfl)) ?_
  refine WL.pure rfl rfl rfl ((by first | exact PV.load0 T.na27 rfl (by first | exact Cells.up (by assumption) hB | exact Bx.cells (by assumption) | assumption) (Ext.refl _) rfl | exact PV.load1 T.na27 rfl (by first | exact Cells.up (by assumption) hB | exact Bx.cells (by assumption) | assumption) (Ext.refl _) rfl)) ?_
  refine WL.op rfl (OpK.callR rfl T.cf56 rfl (c_laws_eqRuleS (by first | assumption | exact Rd.up (by assumption) hB | exact Osl.rd (by assumption) | exact Osn.rdR (by assumption)) (by first | assumption | exact Rd.up (by assumption) hB | exact Osl.rd (by assumption) | exact Osn.rdR (by assumption))) (fun w3 hXw3 => ?_))
  have hB := hB.trans hXw3
  have hb1 := hb1.up hXw3
  have hb2 := hb2.up hXw3
  refine WL.pure rfl rfl rfl (PV.not rfl) ?_
  refine WL.nilS ?_
  refine CW.cond rfl (fun hc3 => ?_) (fun hc3 => ?_)
  · skip
    try simp only [decide_eq_true_eq, decide_eq_false_iff_not, Bool.not_eq_true', Bool.not_eq_false', Bool.not_eq_eq_eq_not, Bool.not_true, Bool.not_false, Int.not_lt, Int.not_le, Classical.not_not, beq_iff_eq, beq_eq_false_iff_ne] at hc3
    refine CW.seq ?_
    refine CW.reg ?_
    refine WL.pure rfl rfl rfl (PV.assign rfl) ?_
    refine WL.nilS ?_
    refine CW.ret ?_
    refine RQ.then ?_
    refine RQ.r1 rfl ?_
    refine ⟨?_, hB⟩
    first | rfl | exact bT (by omega) | exact bF (by omega) | exact bD (by omega) | exact iE (by omega) | (simp_all; done) | (simp_all; omega) | (simp_all; intros; omega)
  try simp only [decide_eq_true_eq, decide_eq_false_iff_not, Bool.not_eq_true', Bool.not_eq_false', Bool.not_eq_eq_eq_not, Bool.not_true, Bool.not_false, Int.not_lt, Int.not_le, Classical.not_not, beq_iff_eq, beq_eq_false_iff_ne] at hc3
  refine CW.skipS ?_
  refine CW.seq ?_
  refine CW.reg ?_
  refine WL.pure rfl rfl rfl (PV.assign rfl) ?_
  refine WL.nilS ?_
  refine CW.ret ?_
  refine RQ.r1 rfl ?_
  refine ⟨?_, hB⟩
  first | rfl | exact bT (by omega) | exact bF (by omega) | exact bD (by omega) | exact iE (by omega) | (simp_all; done) | (simp_all; omega) | (simp_all; intros; omega)
theorem c_laws_FnExactSameGrammar {w : World} {a0 : Int} {a1 : Int} {va2 : Value} {xa2 : List R4} {b0 : Int} {b1 : Int} {vb2 : Value} {xb2 : List R4}  (ha2 : Rd ER w va2 xa2) (hb2 : Rd ER w vb2 xb2) : Calls Try.prog 3 #[.agg #[.int .i64 a0, .int .i64 a1, va2], .agg #[.int .i64 b0, .int .i64 b1, vb2]] w (Ret1 (RQt (.bool true) w)) := by
  have hB : Ext w w := Ext.refl w
  have hla2 := ha2.leI; have hlb2 := hb2.leI
  refine callsOf (vs := [_, _]) Try.func3 rfl Try.ntmps3 rfl rfl ?_
  refine CW.seq ?_
  refine CW.reg ?_
  refine WL.op rfl (OpK.box rfl rfl (by first | rfl | exact Rd.cells1 (by assumption) | exact Osl.cells1 (by assumption) | exact Osn.cells1 (by assumption)) (fun b1 w1 hXw1 hb1 hge1 => ?_))
  have hl1 := Lo.new hB hge1
  have hB := hB.trans hXw1
  refine WL.op rfl (OpK.box rfl rfl (by first | rfl | exact Rd.cells1 (by assumption) | exact Osl.cells1 (by assumption) | exact Osn.cells1 (by assumption)) (fun b2 w2 hXw2 hb2 hge2 => ?_))
  have hl2 := Lo.new hB hge2
  have hd1_2 := Dj.new hb1.ltO hge2
  have hB := hB.trans hXw2
  have hb1 := hb1.up hXw2
  refine WL.pure rfl rfl rfl (PV.assign rfl) ?_
  refine WL.nilS ?_
  refine CW.seq ?_
  refine CW.reg ?_
  refine WL.pure rfl rfl rfl (PV.assign rfl) ?_
  refine WL.nilS ?_
  refine CW.seq ?_
  refine CW.reg ?_
  refine WL.pure rfl rfl rfl ((by first | exact PV.loadA T.ag24 rfl (by first | exact Cells.up (by assumption) hB | exact Bx.cells (by assumption) | assumption) (Ext.refl _) rfl | exact PV.loadP (ds := [_, _, _]) T.ag24 rfl (by first | exact Cells.up (by assumption) hB | exact Bx.cells (by assumption) | assumption) (Ext.refl _) rfl rfl)) ?_
  refine WL.pure rfl rfl rfl (PV.move rfl) ?_
  refine WL.op rfl (OpK.callR rfl T.cf15 rfl (c_laws_szGrammar (by first | assumption | exact Rd.up (by assumption) hB | exact Osl.rd (by assumption) | exact Osn.rdR (by assumption)) (by first | assumption | omega | (simp only [marks_len, marksB_len]; omega))) (fun w3 hXw3 => ?_))
  have hB := hB.trans hXw3
  have hb1 := hb1.up hXw3
  have hb2 := hb2.up hXw3
  refine WL.pure rfl rfl rfl (PV.assign rfl) ?_
  refine WL.nilS ?_
  refine CW.seq ?_
  refine CW.seq ?_
  refine CW.reg ?_
  refine WL.pure rfl rfl rfl (PV.move rfl) ?_
  refine WL.pure rfl rfl rfl (PV.lss rfl rfl) ?_
  refine WL.nilS ?_
  refine CW.cond rfl (fun hc1 => ?_) (fun hc1 => ?_)
  · skip
    try simp only [decide_eq_true_eq, decide_eq_false_iff_not, Bool.not_eq_true', Bool.not_eq_false', Bool.not_eq_eq_eq_not, Bool.not_true, Bool.not_false, Int.not_lt, Int.not_le, Classical.not_not, beq_iff_eq, beq_eq_false_iff_ne] at hc1
    refine CW.seq ?_
    refine CW.reg ?_
    refine WL.pure rfl rfl rfl (PV.assign rfl) ?_
    refine WL.nilS ?_
    refine CW.ret ?_
    refine RQ.then ?_
    refine RQ.r1 rfl ?_
    refine ⟨?_, hB⟩
    first | rfl | (exfalso; revert hc1; simp; done) | (exfalso; revert hc1; simp; omega) | (exfalso; omega) | first | rfl | exact bT (by omega) | exact bF (by omega) | exact bD (by omega) | exact iE (by omega) | (simp_all; done) | (simp_all; omega) | (simp_all; intros; omega)
  try simp only [decide_eq_true_eq, decide_eq_false_iff_not, Bool.not_eq_true', Bool.not_eq_false', Bool.not_eq_eq_eq_not, Bool.not_true, Bool.not_false, Int.not_lt, Int.not_le, Classical.not_not, beq_iff_eq, beq_eq_false_iff_ne] at hc1
  refine CW.skipS ?_
  refine CW.seq ?_
  refine CW.reg ?_
  refine WL.pure rfl rfl rfl ((by first | exact PV.loadA T.ag24 rfl (by first | exact Cells.up (by assumption) hB | exact Bx.cells (by assumption) | assumption) (Ext.refl _) rfl | exact PV.loadP (ds := [_, _, _]) T.ag24 rfl (by first | exact Cells.up (by assumption) hB | exact Bx.cells (by assumption) | assumption) (Ext.refl _) rfl rfl)) ?_
  refine WL.pure rfl rfl rfl (PV.move rfl) ?_
  refine WL.op rfl (OpK.callR rfl T.cf15 rfl (c_laws_szGrammar (by first | assumption | exact Rd.up (by assumption) hB | exact Osl.rd (by assumption) | exact Osn.rdR (by assumption)) (by first | assumption | omega | (simp only [marks_len, marksB_len]; omega))) (fun w4 hXw4 => ?_))
  have hB := hB.trans hXw4
  have hb1 := hb1.up hXw4
  have hb2 := hb2.up hXw4
  refine WL.pure rfl rfl rfl (PV.assign rfl) ?_
  refine WL.nilS ?_
  refine CW.seq ?_
  refine CW.seq ?_
  refine CW.reg ?_
  refine WL.pure rfl rfl rfl (PV.move rfl) ?_
  refine WL.pure rfl rfl rfl (PV.lss rfl rfl) ?_
  refine WL.nilS ?_
  refine CW.cond rfl (fun hc2 => ?_) (fun hc2 => ?_)
  · skip
    try simp only [decide_eq_true_eq, decide_eq_false_iff_not, Bool.not_eq_true', Bool.not_eq_false', Bool.not_eq_eq_eq_not, Bool.not_true, Bool.not_false, Int.not_lt, Int.not_le, Classical.not_not, beq_iff_eq, beq_eq_false_iff_ne] at hc2
    refine CW.seq ?_
    refine CW.reg ?_
    refine WL.pure rfl rfl rfl (PV.assign rfl) ?_
    refine WL.nilS ?_
    refine CW.ret ?_
    refine RQ.then ?_
    refine RQ.r1 rfl ?_
    refine ⟨?_, hB⟩
    first | rfl | (exfalso; revert hc2; simp; done) | (exfalso; revert hc2; simp; omega) | (exfalso; omega) | first | rfl | exact bT (by omega) | exact bF (by omega) | exact bD (by omega) | exact iE (by omega) | (simp_all; done) | (simp_all; omega) | (simp_all; intros; omega)
  try simp only [decide_eq_true_eq, decide_eq_false_iff_not, Bool.not_eq_true', Bool.not_eq_false', Bool.not_eq_eq_eq_not, Bool.not_true, Bool.not_false, Int.not_lt, Int.not_le, Classical.not_not, beq_iff_eq, beq_eq_false_iff_ne] at hc2
  refine CW.skipS ?_
  refine CW.seq ?_
  refine CW.draw T.mixed (by kernel_rfl) (fun _ _ _ _ _ h => h) (fun w8 w9 => Upd none w8 w9) 6 (.take 0 (.take 2 (.must 1 (.must 3 (.must 4 (.take 5 .done)))))) (by kernel_rfl) (fun w5 hXd => ?_)
  have hB := hB.trans hXd
  have hb1 := hb1.up hXd
  have hb2 := hb2.up hXd
  have hBr := hB
  have hS : Upd none w5 w5 := Ext.toUpd (Ext.refl _)
  refine HP.take rfl rfl rfl rfl hS (fun wS hS1 => (by first | exact PV.loadA T.ag24 rfl (by first | exact Cells.up (by assumption) (hBr.trans hS1) | exact Bx.cells (Bx.updD (by assumption) hS1 (Dj.nlR _)) | exact Cells.upd (by assumption) hS1 (by simp)) (Ext.refl _) rfl | exact PV.loadP (ds := [_, _, _]) T.ag24 rfl (by first | exact Cells.up (by assumption) (hBr.trans hS1) | exact Bx.cells (Bx.updD (by assumption) hS1 (Dj.nlR _)) | exact Cells.upd (by assumption) hS1 (by simp)) (Ext.refl _) rfl rfl)) ?_
  refine HP.take rfl rfl rfl rfl hS (fun wS hS1 => (by first | exact PV.loadA T.ag24 rfl (by first | exact Cells.up (by assumption) (hBr.trans hS1) | exact Bx.cells (Bx.updD (by assumption) hS1 (Dj.nlR _)) | exact Cells.upd (by assumption) hS1 (by simp)) (Ext.refl _) rfl | exact PV.loadP (ds := [_, _, _]) T.ag24 rfl (by first | exact Cells.up (by assumption) (hBr.trans hS1) | exact Bx.cells (Bx.updD (by assumption) hS1 (Dj.nlR _)) | exact Cells.upd (by assumption) hS1 (by simp)) (Ext.refl _) rfl rfl)) ?_
  refine HP.must rfl rfl (OpK.call rfl T.cf17 rfl (c_laws_toGrammar (by first | assumption | exact Rd.up (by assumption) hB | exact Osl.rd (by assumption) | exact Osn.rdR (by assumption)) (by first | assumption | omega | (simp only [marks_len, marksB_len]; omega))) (fun rv1 w6 hR => ?_))
  obtain ⟨hXw6, v3, og3, rfl, ho3, hq3⟩ := hR
  have hl3 := Lo.up hq3 hB
  have hv3 := Lo.up hq3 hS
  have hd1_3 := Dj.lo hb1.ltO hq3
  have hd2_3 := Dj.lo hb2.ltO hq3
  refine ⟨Upd.trans hS hXw6, ?_⟩
  have hS := Upd.trans hS hXw6
  have hB := hB.trans hXw6
  have hb1 := hb1.up hXw6
  have hb2 := hb2.up hXw6
  refine HP.must rfl rfl (OpK.call rfl T.cf17 rfl (c_laws_toGrammar (by first | assumption | exact Rd.up (by assumption) hB | exact Osl.rd (by assumption) | exact Osn.rdR (by assumption)) (by first | assumption | omega | (simp only [marks_len, marksB_len]; omega))) (fun rv2 w7 hR => ?_))
  obtain ⟨hXw7, v4, og4, rfl, ho4, hq4⟩ := hR
  have hl4 := Lo.up hq4 hB
  have hv4 := Lo.up hq4 hS
  have hd1_4 := Dj.lo hb1.ltO hq4
  have hd2_4 := Dj.lo hb2.ltO hq4
  have hd3_4 := Dj.lo ho3.ltO hq4
  refine ⟨Upd.trans hS hXw7, ?_⟩
  have hS := Upd.trans hS hXw7
  have hB := hB.trans hXw7
  have hb1 := hb1.up hXw7
  have hb2 := hb2.up hXw7
  have ho3 := ho3.up hXw7
  refine HP.must rfl rfl (OpK.callR rfl T.cf16 rfl (c_spec_SameGrammar (by first | assumption | exact Rd.up (by assumption) hB | exact Osl.rd (by assumption) | exact Osn.rdR (by assumption)) (by first | assumption | exact Rd.up (by assumption) hB | exact Osl.rd (by assumption) | exact Osn.rdR (by assumption))) (fun w8 hXw8 => ?_))
  refine ⟨Upd.trans hS hXw8, ?_⟩
  have hS := Upd.trans hS hXw8
  have hB := hB.trans hXw8
  have hb1 := hb1.up hXw8
  have hb2 := hb2.up hXw8
  have ho3 := ho3.up hXw8
  have ho4 := ho4.up hXw8
  refine HP.take rfl rfl rfl rfl hS (fun wS hS1 => PV.assign rfl) ?_
  refine HP.doneS ?_
  refine CW.seq ?_
  refine CW.reg ?_
  refine WL.pure rfl rfl rfl ((by first | exact PV.loadA T.ag24 rfl (by first | exact Cells.up (by assumption) hB | exact Bx.cells (by assumption) | assumption) (Ext.refl _) rfl | exact PV.loadP (ds := [_, _, _]) T.ag24 rfl (by first | exact Cells.up (by assumption) hB | exact Bx.cells (by assumption) | assumption) (Ext.refl _) rfl rfl)) ?_
  refine WL.op rfl (OpK.call rfl T.cf17 rfl (c_laws_toGrammar (by first | assumption | exact Rd.up (by assumption) hB | exact Osl.rd (by assumption) | exact Osn.rdR (by assumption)) (by first | assumption | omega | (simp only [marks_len, marksB_len]; omega))) (fun rv3 w9 hR => ?_))
  obtain ⟨hXw9, v5, og5, rfl, ho5, hq5⟩ := hR
  have hl5 := Lo.up hq5 hB
  have hd1_5 := Dj.lo hb1.ltO hq5
  have hd2_5 := Dj.lo hb2.ltO hq5
  have hd3_5 := Dj.lo ho3.ltO hq5
  have hd4_5 := Dj.lo ho4.ltO hq5
  have hB := hB.trans hXw9
  have hb1 := hb1.up hXw9
  have hb2 := hb2.up hXw9
  have ho3 := ho3.up hXw9
  have ho4 := ho4.up hXw9
  refine WL.op rfl (OpK.alloc rfl T.zv29 rfl (fun b6 w10 hXw10 hb6 hge6 => ?_))
  have hl6 := Lo.new hB hge6
  have hd1_6 := Dj.new hb1.ltO hge6
  have hd2_6 := Dj.new hb2.ltO hge6
  have hd3_6 := Dj.new ho3.ltO hge6
  have hd4_6 := Dj.new ho4.ltO hge6
  have hd5_6 := Dj.new ho5.ltO hge6
  have hB := hB.trans hXw10
  have hb1 := hb1.up hXw10
  have hb2 := hb2.up hXw10
  have ho3 := ho3.up hXw10
  have ho4 := ho4.up hXw10
  have ho5 := ho5.up hXw10
  refine WL.op rfl (OpK.storeA T.sz29 rfl rfl rfl rfl (by simp [Value.oneCell'] <;> first | done | (repeat' apply And.intro) <;> first | rfl | exact Osl.oneCell (by assumption) | exact Osn.oneCell (by assumption) | exact Rd.oneCell (by assumption) | assumption) hb6 (fun w11 hXw11 hb6 => ?_))
  have hB := hB.updL hXw11 hl6
  have hb1 := hb1.updD hXw11 hd1_6
  have hb2 := hb2.updD hXw11 hd2_6
  have ho3 := ho3.updD hXw11 hd3_6
  have ho4 := ho4.updD hXw11 hd4_6
  have ho5 := ho5.updD hXw11 hd5_6
  refine WL.nilS ?_
  refine CW.seq ?_
  refine CW.reg ?_
  refine WL.pure rfl rfl rfl ((by first | exact PV.loadA T.ag24 rfl (by first | exact Cells.up (by assumption) hB | exact Bx.cells (by assumption) | assumption) (Ext.refl _) rfl | exact PV.loadP (ds := [_, _, _]) T.ag24 rfl (by first | exact Cells.up (by assumption) hB | exact Bx.cells (by assumption) | assumption) (Ext.refl _) rfl rfl)) ?_
  refine WL.op rfl (OpK.call rfl T.cf17 rfl (c_laws_toGrammar (by first | assumption | exact Rd.up (by assumption) hB | exact Osl.rd (by assumption) | exact Osn.rdR (by assumption)) (by first | assumption | omega | (simp only [marks_len, marksB_len]; omega))) (fun rv4 w12 hR => ?_))
  obtain ⟨hXw12, v7, og7, rfl, ho7, hq7⟩ := hR
  have hl7 := Lo.up hq7 hB
  have hd1_7 := Dj.lo hb1.ltO hq7
  have hd2_7 := Dj.lo hb2.ltO hq7
  have hd3_7 := Dj.lo ho3.ltO hq7
  have hd4_7 := Dj.lo ho4.ltO hq7
  have hd5_7 := Dj.lo ho5.ltO hq7
  have hd6_7 := Dj.lo hb6.ltO hq7
  have hB := hB.trans hXw12
  have hb1 := hb1.up hXw12
  have hb2 := hb2.up hXw12
  have ho3 := ho3.up hXw12
  have ho4 := ho4.up hXw12
  have ho5 := ho5.up hXw12
  have hb6 := hb6.up hXw12
  refine WL.op rfl (OpK.alloc rfl T.zv29 rfl (fun b8 w13 hXw13 hb8 hge8 => ?_))
  have hl8 := Lo.new hB hge8
  have hd1_8 := Dj.new hb1.ltO hge8
  have hd2_8 := Dj.new hb2.ltO hge8
  have hd3_8 := Dj.new ho3.ltO hge8
  have hd4_8 := Dj.new ho4.ltO hge8
  have hd5_8 := Dj.new ho5.ltO hge8
  have hd6_8 := Dj.new hb6.ltO hge8
  have hd7_8 := Dj.new ho7.ltO hge8
  have hB := hB.trans hXw13
  have hb1 := hb1.up hXw13
  have hb2 := hb2.up hXw13
  have ho3 := ho3.up hXw13
  have ho4 := ho4.up hXw13
  have ho5 := ho5.up hXw13
  have hb6 := hb6.up hXw13
  have ho7 := ho7.up hXw13
  refine WL.op rfl (OpK.storeA T.sz29 rfl rfl rfl rfl (by simp [Value.oneCell'] <;> first | done | (repeat' apply And.intro) <;> first | rfl | exact Osl.oneCell (by assumption) | exact Osn.oneCell (by assumption) | exact Rd.oneCell (by assumption) | assumption) hb8 (fun w14 hXw14 hb8 => ?_))
  have hB := hB.updL hXw14 hl8
  have hb1 := hb1.updD hXw14 hd1_8
  have hb2 := hb2.updD hXw14 hd2_8
  have ho3 := ho3.updD hXw14 hd3_8
  have ho4 := ho4.updD hXw14 hd4_8
  have ho5 := ho5.updD hXw14 hd5_8
  have hb6 := hb6.updD hXw14 hd6_8
  have ho7 := ho7.updD hXw14 hd7_8
  refine WL.nilS ?_
  refine CW.seq ?_
  refine CW.reg ?_
  refine WL.pure rfl rfl rfl ((by first | exact PV.loadA T.ag29 rfl (by first | exact Cells.up (by assumption) hB | exact Bx.cells (by assumption) | assumption) (Ext.refl _) rfl | exact PV.loadP (ds := [_, _, _]) T.ag29 rfl (by first | exact Cells.up (by assumption) hB | exact Bx.cells (by assumption) | assumption) (Ext.refl _) rfl rfl)) ?_
  refine WL.pure rfl rfl rfl ((by first | exact PV.loadA T.ag29 rfl (by first | exact Cells.up (by assumption) hB | exact Bx.cells (by assumption) | assumption) (Ext.refl _) rfl | exact PV.loadP (ds := [_, _, _]) T.ag29 rfl (by first | exact Cells.up (by assumption) hB | exact Bx.cells (by assumption) | assumption) (Ext.refl _) rfl rfl)) ?_
  refine WL.op rfl (OpK.callR rfl T.cf18 rfl (c_impl_SameGrammar (by first | assumption | exact Rd.up (by assumption) hB | exact Osl.rd (by assumption) | exact Osn.rdR (by assumption)) (by first | assumption | exact Rd.up (by assumption) hB | exact Osl.rd (by assumption) | exact Osn.rdR (by assumption))) (fun w15 hXw15 => ?_))
  have hB := hB.trans hXw15
  have hb1 := hb1.up hXw15
  have hb2 := hb2.up hXw15
  have ho3 := ho3.up hXw15
  have ho4 := ho4.up hXw15
  have ho5 := ho5.up hXw15
  have hb6 := hb6.up hXw15
  have ho7 := ho7.up hXw15
  have hb8 := hb8.up hXw15
  refine WL.pure rfl rfl rfl (PV.assign rfl) ?_
  refine WL.nilS ?_
  refine CW.seq ?_
  refine CW.seq ?_
  refine CW.reg ?_
  refine WL.pure rfl rfl rfl (PV.move rfl) ?_
  refine WL.pure rfl rfl rfl (PV.move rfl) ?_
  refine WL.pure rfl rfl rfl (PV.neqB T.bl4 rfl rfl) ?_
  refine WL.nilS ?_
  refine CW.cond rfl (fun hc3 => ?_) (fun hc3 => ?_)
  · skip
    try simp only [decide_eq_true_eq, decide_eq_false_iff_not, Bool.not_eq_true', Bool.not_eq_false', Bool.not_eq_eq_eq_not, Bool.not_true, Bool.not_false, Int.not_lt, Int.not_le, Classical.not_not, beq_iff_eq, beq_eq_false_iff_ne] at hc3
    refine CW.seq ?_
    refine CW.reg ?_
    refine WL.pure rfl rfl rfl (PV.assign rfl) ?_
    refine WL.nilS ?_
    refine CW.ret ?_
    refine RQ.then ?_
    refine RQ.r1 rfl ?_
    refine ⟨?_, hB⟩
    first | rfl | (exfalso; revert hc3; simp; done) | (exfalso; revert hc3; simp; omega) | (exfalso; omega) | first | rfl | exact bT (by omega) | exact bF (by omega) | exact bD (by omega) | exact iE (by omega) | (simp_all; done) | (simp_all; omega) | (simp_all; intros; omega)
  try simp only [decide_eq_true_eq, decide_eq_false_iff_not, Bool.not_eq_true', Bool.not_eq_false', Bool.not_eq_eq_eq_not, Bool.not_true, Bool.not_false, Int.not_lt, Int.not_le, Classical.not_not, beq_iff_eq, beq_eq_false_iff_ne] at hc3
  refine CW.skipS ?_
  refine CW.seq ?_
  refine CW.seq ?_
  refine CW.draw T.mixed (by kernel_rfl) (fun _ _ _ _ _ h => h) (fun w8 w9 => Upd none w8 w9) 5 (.take 0 (.take 1 (.must 2 (.must 3 (.take 4 .done))))) (by kernel_rfl) (fun w16 hXd => ?_)
  have hB := hB.trans hXd
  have hb1 := hb1.up hXd
  have hb2 := hb2.up hXd
  have ho3 := ho3.up hXd
  have ho4 := ho4.up hXd
  have ho5 := ho5.up hXd
  have hb6 := hb6.up hXd
  have ho7 := ho7.up hXd
  have hb8 := hb8.up hXd
  have hBr := hB
  have hS : Upd none w16 w16 := Ext.toUpd (Ext.refl _)
  refine HP.take rfl rfl rfl rfl hS (fun wS hS1 => (by first | exact PV.loadA T.ag29 rfl (by first | exact Cells.up (by assumption) (hBr.trans hS1) | exact Bx.cells (Bx.updD (by assumption) hS1 (Dj.nlR _)) | exact Cells.upd (by assumption) hS1 (by simp)) (Ext.refl _) rfl | exact PV.loadP (ds := [_, _, _]) T.ag29 rfl (by first | exact Cells.up (by assumption) (hBr.trans hS1) | exact Bx.cells (Bx.updD (by assumption) hS1 (Dj.nlR _)) | exact Cells.upd (by assumption) hS1 (by simp)) (Ext.refl _) rfl rfl)) ?_
  refine HP.take rfl rfl rfl rfl hS (fun wS hS1 => (by first | exact PV.loadA T.ag24 rfl (by first | exact Cells.up (by assumption) (hBr.trans hS1) | exact Bx.cells (Bx.updD (by assumption) hS1 (Dj.nlR _)) | exact Cells.upd (by assumption) hS1 (by simp)) (Ext.refl _) rfl | exact PV.loadP (ds := [_, _, _]) T.ag24 rfl (by first | exact Cells.up (by assumption) (hBr.trans hS1) | exact Bx.cells (Bx.updD (by assumption) hS1 (Dj.nlR _)) | exact Cells.upd (by assumption) hS1 (by simp)) (Ext.refl _) rfl rfl)) ?_
  refine HP.must rfl rfl (OpK.call rfl T.cf17 rfl (c_laws_toGrammar (by first | assumption | exact Rd.up (by assumption) hB | exact Osl.rd (by assumption) | exact Osn.rdR (by assumption)) (by first | assumption | omega | (simp only [marks_len, marksB_len]; omega))) (fun rv5 w17 hR => ?_))
  obtain ⟨hXw17, v9, og9, rfl, ho9, hq9⟩ := hR
  have hl9 := Lo.up hq9 hB
  have hv9 := Lo.up hq9 hS
  have hd1_9 := Dj.lo hb1.ltO hq9
  have hd2_9 := Dj.lo hb2.ltO hq9
  have hd3_9 := Dj.lo ho3.ltO hq9
  have hd4_9 := Dj.lo ho4.ltO hq9
  have hd5_9 := Dj.lo ho5.ltO hq9
  have hd6_9 := Dj.lo hb6.ltO hq9
  have hd7_9 := Dj.lo ho7.ltO hq9
  have hd8_9 := Dj.lo hb8.ltO hq9
  refine ⟨Upd.trans hS hXw17, ?_⟩
  have hS := Upd.trans hS hXw17
  have hB := hB.trans hXw17
  have hb1 := hb1.up hXw17
  have hb2 := hb2.up hXw17
  have ho3 := ho3.up hXw17
  have ho4 := ho4.up hXw17
  have ho5 := ho5.up hXw17
  have hb6 := hb6.up hXw17
  have ho7 := ho7.up hXw17
  have hb8 := hb8.up hXw17
  refine HP.must rfl rfl (OpK.callR rfl T.cf19 rfl (c_laws_eqGrammar (by first | assumption | exact Rd.up (by assumption) hB | exact Osl.rd (by assumption) | exact Osn.rdR (by assumption)) (by first | assumption | exact Rd.up (by assumption) hB | exact Osl.rd (by assumption) | exact Osn.rdR (by assumption))) (fun w18 hXw18 => ?_))
  refine ⟨Upd.trans hS hXw18, ?_⟩
  have hS := Upd.trans hS hXw18
  have hB := hB.trans hXw18
  have hb1 := hb1.up hXw18
  have hb2 := hb2.up hXw18
  have ho3 := ho3.up hXw18
  have ho4 := ho4.up hXw18
  have ho5 := ho5.up hXw18
  have hb6 := hb6.up hXw18
  have ho7 := ho7.up hXw18
  have hb8 := hb8.up hXw18
  have ho9 := ho9.up hXw18
  refine HP.take rfl rfl rfl rfl hS (fun wS hS1 => PV.not rfl) ?_
  refine HP.doneS ?_
  refine CW.cond rfl (fun hc4 => ?_) (fun hc4 => ?_)
  · skip
    try simp only [decide_eq_true_eq, decide_eq_false_iff_not, Bool.not_eq_true', Bool.not_eq_false', Bool.not_eq_eq_eq_not, Bool.not_true, Bool.not_false, Int.not_lt, Int.not_le, Classical.not_not, beq_iff_eq, beq_eq_false_iff_ne] at hc4
    refine CW.seq ?_
    refine CW.reg ?_
    refine WL.pure rfl rfl rfl (PV.assign rfl) ?_
    refine WL.nilS ?_
    refine CW.ret ?_
    refine RQ.then ?_
    refine RQ.r1 rfl ?_
    refine ⟨?_, hB⟩
    first | rfl | (exfalso; revert hc4; simp; done) | (exfalso; revert hc4; simp; omega) | (exfalso; omega) | first | rfl | exact bT (by omega) | exact bF (by omega) | exact bD (by omega) | exact iE (by omega) | (simp_all; done) | (simp_all; omega) | (simp_all; intros; omega)
  try simp only [decide_eq_true_eq, decide_eq_false_iff_not, Bool.not_eq_true', Bool.not_eq_false', Bool.not_eq_eq_eq_not, Bool.not_true, Bool.not_false, Int.not_lt, Int.not_le, Classical.not_not, beq_iff_eq, beq_eq_false_iff_ne] at hc4
  refine CW.skipS ?_
  refine CW.seq ?_
  refine CW.seq ?_
  refine CW.draw T.mixed (by kernel_rfl) (fun _ _ _ _ _ h => h) (fun w8 w9 => Upd none w8 w9) 5 (.take 0 (.take 1 (.must 2 (.must 3 (.take 4 .done))))) (by kernel_rfl) (fun w19 hXd => ?_)
  have hB := hB.trans hXd
  have hb1 := hb1.up hXd
  have hb2 := hb2.up hXd
  have ho3 := ho3.up hXd
  have ho4 := ho4.up hXd
  have ho5 := ho5.up hXd
  have hb6 := hb6.up hXd
  have ho7 := ho7.up hXd
  have hb8 := hb8.up hXd
  have ho9 := ho9.up hXd
  have hBr := hB
  have hS : Upd none w19 w19 := Ext.toUpd (Ext.refl _)
  refine HP.take rfl rfl rfl rfl hS (fun wS hS1 => (by first | exact PV.loadA T.ag29 rfl (by first | exact Cells.up (by assumption) (hBr.trans hS1) | exact Bx.cells (Bx.updD (by assumption) hS1 (Dj.nlR _)) | exact Cells.upd (by assumption) hS1 (by simp)) (Ext.refl _) rfl | exact PV.loadP (ds := [_, _, _]) T.ag29 rfl (by first | exact Cells.up (by assumption) (hBr.trans hS1) | exact Bx.cells (Bx.updD (by assumption) hS1 (Dj.nlR _)) | exact Cells.upd (by assumption) hS1 (by simp)) (Ext.refl _) rfl rfl)) ?_
  refine HP.take rfl rfl rfl rfl hS (fun wS hS1 => (by first | exact PV.loadA T.ag24 rfl (by first | exact Cells.up (by assumption) (hBr.trans hS1) | exact Bx.cells (Bx.updD (by assumption) hS1 (Dj.nlR _)) | exact Cells.upd (by assumption) hS1 (by simp)) (Ext.refl _) rfl | exact PV.loadP (ds := [_, _, _]) T.ag24 rfl (by first | exact Cells.up (by assumption) (hBr.trans hS1) | exact Bx.cells (Bx.updD (by assumption) hS1 (Dj.nlR _)) | exact Cells.upd (by assumption) hS1 (by simp)) (Ext.refl _) rfl rfl)) ?_
  refine HP.must rfl rfl (OpK.call rfl T.cf17 rfl (c_laws_toGrammar (by first | assumption | exact Rd.up (by assumption) hB | exact Osl.rd (by assumption) | exact Osn.rdR (by assumption)) (by first | assumption | omega | (simp only [marks_len, marksB_len]; omega))) (fun rv6 w20 hR => ?_))
  obtain ⟨hXw20, v10, og10, rfl, ho10, hq10⟩ := hR
  have hl10 := Lo.up hq10 hB
  have hv10 := Lo.up hq10 hS
  have hd1_10 := Dj.lo hb1.ltO hq10
  have hd2_10 := Dj.lo hb2.ltO hq10
  have hd3_10 := Dj.lo ho3.ltO hq10
  have hd4_10 := Dj.lo ho4.ltO hq10
  have hd5_10 := Dj.lo ho5.ltO hq10
  have hd6_10 := Dj.lo hb6.ltO hq10
  have hd7_10 := Dj.lo ho7.ltO hq10
  have hd8_10 := Dj.lo hb8.ltO hq10
  have hd9_10 := Dj.lo ho9.ltO hq10
  refine ⟨Upd.trans hS hXw20, ?_⟩
  have hS := Upd.trans hS hXw20
  have hB := hB.trans hXw20
  have hb1 := hb1.up hXw20
  have hb2 := hb2.up hXw20
  have ho3 := ho3.up hXw20
  have ho4 := ho4.up hXw20
  have ho5 := ho5.up hXw20
  have hb6 := hb6.up hXw20
  have ho7 := ho7.up hXw20
  have hb8 := hb8.up hXw20
  have ho9 := ho9.up hXw20
  refine HP.must rfl rfl (OpK.callR rfl T.cf19 rfl (c_laws_eqGrammar (by first | assumption | exact Rd.up (by assumption) hB | exact Osl.rd (by assumption) | exact Osn.rdR (by assumption)) (by first | assumption | exact Rd.up (by assumption) hB | exact Osl.rd (by assumption) | exact Osn.rdR (by assumption))) (fun w21 hXw21 => ?_))
  refine ⟨Upd.trans hS hXw21, ?_⟩
  have hS := Upd.trans hS hXw21
  have hB := hB.trans hXw21
  have hb1 := hb1.up hXw21
  have hb2 := hb2.up hXw21
  have ho3 := ho3.up hXw21
  have ho4 := ho4.up hXw21
  have ho5 := ho5.up hXw21
  have hb6 := hb6.up hXw21
  have ho7 := ho7.up hXw21
  have hb8 := hb8.up hXw21
  have ho9 := ho9.up hXw21
  have ho10 := ho10.up hXw21
  refine HP.take rfl rfl rfl rfl hS (fun wS hS1 => PV.not rfl) ?_
  refine HP.doneS ?_
  refine CW.cond rfl (fun hc5 => ?_) (fun hc5 => ?_)
  · skip
    try simp only [decide_eq_true_eq, decide_eq_false_iff_not, Bool.not_eq_true', Bool.not_eq_false', Bool.not_eq_eq_eq_not, Bool.not_true, Bool.not_false, Int.not_lt, Int.not_le, Classical.not_not, beq_iff_eq, beq_eq_false_iff_ne] at hc5
    refine CW.seq ?_
    refine CW.reg ?_
    refine WL.pure rfl rfl rfl (PV.assign rfl) ?_
    refine WL.nilS ?_
    refine CW.ret ?_
    refine RQ.then ?_
    refine RQ.r1 rfl ?_
    refine ⟨?_, hB⟩
    first | rfl | (exfalso; revert hc5; simp; done) | (exfalso; revert hc5; simp; omega) | (exfalso; omega) | first | rfl | exact bT (by omega) | exact bF (by omega) | exact bD (by omega) | exact iE (by omega) | (simp_all; done) | (simp_all; omega) | (simp_all; intros; omega)
  try simp only [decide_eq_true_eq, decide_eq_false_iff_not, Bool.not_eq_true', Bool.not_eq_false', Bool.not_eq_eq_eq_not, Bool.not_true, Bool.not_false, Int.not_lt, Int.not_le, Classical.not_not, beq_iff_eq, beq_eq_false_iff_ne] at hc5
  refine CW.skipS ?_
  refine CW.seq ?_
  refine CW.reg ?_
  refine WL.pure rfl rfl rfl (PV.assign rfl) ?_
  refine WL.nilS ?_
  refine CW.ret ?_
  refine RQ.r1 rfl ?_
  refine ⟨?_, hB⟩
  first | rfl | (exfalso; revert hc5; simp; done) | (exfalso; revert hc5; simp; omega) | (exfalso; omega) | first | rfl | exact bT (by omega) | exact bF (by omega) | exact bD (by omega) | exact iE (by omega) | (simp_all; done) | (simp_all; omega) | (simp_all; intros; omega)

end Go.Proofs.Ytcnjfbhgicoogaa
