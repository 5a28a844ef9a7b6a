/- Walks of the functions that the law FnExactIsPartZone reaches: each says what its function computes. No condition. -/
import Derived.Test.YtliakkhlgflbcaaProg
import Derived.Test.YtliakkhlgflbcaaLibM
import Derived.Test.YtliakkhlgflbcaaPlA
import Derived.Test.YtliakkhlgflbcaaPlZ
namespace Go.Proofs.Ytliakkhlgflbcaa.T
open Go Go.WX Go.Proofs

theorem sl22 : slOf Try.prog 22 = some (2, 1, 8) := by kernel_rfl
theorem fl24_1 : flOf Try.prog 24 1 = some (1, 22, 1) := by kernel_rfl
theorem na22 : naOf Try.prog 22 = true := by kernel_rfl
theorem cf56 : cfOf Try.prog 56 = true := by kernel_rfl
theorem zv2 : zvOf Try.prog 2 = some (.int .i64 0) := by kernel_rfl
theorem na2 : naOf Try.prog 2 = true := by kernel_rfl
theorem sz2 : szOf Try.prog 2 = some 1 := by kernel_rfl
theorem zv27 : zvOf Try.prog 27 = some (.agg #[.int .i64 0, .slice none 0 0]) := by kernel_rfl
theorem fl24_0 : flOf Try.prog 24 0 = some (0, 2, 1) := by kernel_rfl
theorem fl27_0 : flOf Try.prog 27 0 = some (0, 2, 1) := by kernel_rfl
theorem cf34 : cfOf Try.prog 34 = true := by kernel_rfl
theorem fl27_1 : flOf Try.prog 27 1 = some (1, 22, 1) := by kernel_rfl
theorem sz22 : szOf Try.prog 22 = some 1 := by kernel_rfl
theorem ag27 : agOf Try.prog 27 = some 2 := by kernel_rfl
theorem sz27 : szOf Try.prog 27 = some 2 := by kernel_rfl
theorem cf61 : cfOf Try.prog 61 = true := by kernel_rfl
theorem mixed : Try.prog.follows .mixedOrders = true := by kernel_rfl
theorem bu27 : buOf Try.prog 27 = some ([.int .i64 0, .slice none 0 0], [(0, 1), (1, 1)]) := by kernel_rfl
theorem cf64 : cfOf Try.prog 64 = true := by kernel_rfl
theorem cf81 : cfOf Try.prog 81 = true := by kernel_rfl
theorem cf54 : cfOf Try.prog 54 = true := by kernel_rfl
theorem cf63 : cfOf Try.prog 63 = true := by kernel_rfl
theorem cf62 : cfOf Try.prog 62 = true := by kernel_rfl
theorem cf65 : cfOf Try.prog 65 = true := by kernel_rfl
theorem cf30 : cfOf Try.prog 30 = true := by kernel_rfl
theorem cf82 : cfOf Try.prog 82 = true := by kernel_rfl
theorem cf55 : cfOf Try.prog 55 = true := by kernel_rfl
theorem cf36 : cfOf Try.prog 36 = true := by kernel_rfl
theorem ag24 : agOf Try.prog 24 = some 2 := by kernel_rfl
theorem cf15 : cfOf Try.prog 15 = true := by kernel_rfl
theorem cf17 : cfOf Try.prog 17 = true := by kernel_rfl
theorem cf52 : cfOf Try.prog 52 = true := by kernel_rfl
theorem cf53 : cfOf Try.prog 53 = true := by kernel_rfl
theorem bl4 : blOf Try.prog 4 = true := by kernel_rfl
theorem cf19 : cfOf Try.prog 19 = true := by kernel_rfl

end Go.Proofs.Ytliakkhlgflbcaa.T
namespace Go.Proofs.Ytliakkhlgflbcaa
open Go Go.WX Go.Proofs
set_option linter.unusedSimpArgs false
set_option linter.unusedVariables false

theorem c_laws_szInt64S {w : World} {va : Value} {xs : List Int} {left : Int} (ha : Rd EI w va xs) (hlf : left ≤ 1048576 ∧ -1 ≤ left) : Calls Try.prog 56 #[va, .int .i64 left] w (Ret1 (RQt (.int .i64 (max (-1) (left - xs.length))) w)) := by
  have hB : Ext w w := Ext.refl w
  have hla := ha.leI
  refine callsOf (vs := [_, _]) Try.func56 rfl Try.ntmps56 rfl rfl ?_
  refine CW.seq ?_
  refine CW.reg ?_
  refine WL.pure rfl rfl rfl (PV.assign rfl) ?_
  refine WL.nilS ?_
  refine CW.seq ?_
  refine CW.reg ?_
  refine WL.pure rfl rfl rfl (PV.move rfl) ?_
  refine WL.pure rfl rfl rfl (PV.move rfl) ?_
  refine WL.pure rfl rfl rfl ((by first | exact PV.len rfl (by assumption) T.sl22 | exact PV.lenOs rfl (by assumption) T.sl22)) ?_
  refine WL.pure rfl rfl rfl (PV.sub rfl rfl (by constructor <;> omega)) ?_
  refine WL.pure rfl rfl rfl (PV.assign rfl) ?_
  refine WL.nilS ?_
  refine CW.seq ?_
  refine CW.seq ?_
  refine CW.reg ?_
  refine WL.pure rfl rfl rfl (PV.move rfl) ?_
  refine WL.pure rfl rfl rfl (PV.lss rfl rfl) ?_
  refine WL.nilS ?_
  refine CW.cond rfl (fun hc1 => ?_) (fun hc1 => ?_)
  · skip
    try simp only [decide_eq_true_eq, decide_eq_false_iff_not, Bool.not_eq_true', Bool.not_eq_false', Bool.not_eq_eq_eq_not, Bool.not_true, Bool.not_false, Int.not_lt, Int.not_le, Classical.not_not, beq_iff_eq, beq_eq_false_iff_ne] at hc1
    refine CW.seq ?_
    refine CW.reg ?_
    refine WL.pure rfl rfl rfl (PV.assign rfl) ?_
    refine WL.nilS ?_
    refine CW.ret ?_
    refine RQ.then ?_
    refine RQ.r1 rfl ?_
    refine ⟨?_, hB⟩
    exact iE (by omega)
  try simp only [decide_eq_true_eq, decide_eq_false_iff_not, Bool.not_eq_true', Bool.not_eq_false', Bool.not_eq_eq_eq_not, Bool.not_true, Bool.not_false, Int.not_lt, Int.not_le, Classical.not_not, beq_iff_eq, beq_eq_false_iff_ne] at hc1
  refine CW.skipS ?_
  refine CW.seq ?_
  refine CW.reg ?_
  refine WL.pure rfl rfl rfl (PV.move rfl) ?_
  refine WL.pure rfl rfl rfl (PV.assign rfl) ?_
  refine WL.nilS ?_
  refine CW.ret ?_
  refine RQ.r1 rfl ?_
  refine ⟨?_, hB⟩
  exact iE (by omega)
theorem c_laws_szZone {w : World} {a0 : Int} {va1 : Value} {xa1 : List Int} {left : Int} (ha1 : Rd EI w va1 xa1) (hlf : left ≤ 1048576 ∧ -1 ≤ left) : Calls Try.prog 15 #[.agg #[.int .i64 a0, va1], .int .i64 left] w (Ret1 (RQt (.int .i64 (max (-1) (left - (xa1.length)))) w)) := by
  have hB : Ext w w := Ext.refl w
  have hla1 := ha1.leI
  refine callsOf (vs := [_, _]) Try.func15 rfl Try.ntmps15 rfl rfl ?_
  refine CW.seq ?_
  refine CW.reg ?_
  refine WL.op rfl (OpK.box rfl rfl (by first | rfl | exact Rd.cells1 (by assumption) | exact Osl.cells1 (by assumption) | exact Osn.cells1 (by assumption)) (fun b1 w1 hXw1 hb1 hge1 => ?_))
  have hl1 := Lo.new hB hge1
  have hB := hB.trans hXw1
  refine WL.pure rfl rfl rfl (PV.assign rfl) ?_
  refine WL.nilS ?_
  refine CW.seq ?_
  refine CW.reg ?_
  refine WL.pure rfl rfl rfl ((by first | exact PV.fieldAddr T.fl24_1 rfl (by first | assumption | exact Bx.cells (by assumption)) | exact PV.fieldAddrP T.fl24_1 rfl rfl)) ?_
  refine WL.pure rfl rfl rfl ((by first | exact PV.load0 T.na22 rfl (by first | exact Cells.up (by assumption) hB | exact Bx.cells (by assumption) | assumption) (Ext.refl _) rfl | exact PV.load1 T.na22 rfl (by first | exact Cells.up (by assumption) hB | exact Bx.cells (by assumption) | assumption) (Ext.refl _) rfl)) ?_
  refine WL.pure rfl rfl rfl (PV.move rfl) ?_
  refine WL.op rfl (OpK.callR rfl T.cf56 rfl (c_laws_szInt64S (by first | assumption | exact Rd.up (by assumption) hB | exact Osl.rd (by assumption) | exact Osn.rdR (by assumption)) (by first | assumption | omega | (simp only [marks_len, marksB_len]; omega))) (fun w2 hXw2 => ?_))
  have hB := hB.trans hXw2
  have hb1 := hb1.up hXw2
  refine WL.pure rfl rfl rfl (PV.assign rfl) ?_
  refine WL.nilS ?_
  refine CW.seq ?_
  refine CW.seq ?_
  refine CW.reg ?_
  refine WL.pure rfl rfl rfl (PV.move rfl) ?_
  refine WL.pure rfl rfl rfl (PV.lss rfl rfl) ?_
  refine WL.nilS ?_
  refine CW.cond rfl (fun hc1 => ?_) (fun hc1 => ?_)
  · skip
    try simp only [decide_eq_true_eq, decide_eq_false_iff_not, Bool.not_eq_true', Bool.not_eq_false', Bool.not_eq_eq_eq_not, Bool.not_true, Bool.not_false, Int.not_lt, Int.not_le, Classical.not_not, beq_iff_eq, beq_eq_false_iff_ne] at hc1
    refine CW.seq ?_
    refine CW.reg ?_
    refine WL.pure rfl rfl rfl (PV.assign rfl) ?_
    refine WL.nilS ?_
    refine CW.ret ?_
    refine RQ.then ?_
    refine RQ.r1 rfl ?_
    refine ⟨?_, hB⟩
    exact iE (by omega)
  try simp only [decide_eq_true_eq, decide_eq_false_iff_not, Bool.not_eq_true', Bool.not_eq_false', Bool.not_eq_eq_eq_not, Bool.not_true, Bool.not_false, Int.not_lt, Int.not_le, Classical.not_not, beq_iff_eq, beq_eq_false_iff_ne] at hc1
  refine CW.skipS ?_
  refine CW.seq ?_
  refine CW.reg ?_
  refine WL.pure rfl rfl rfl (PV.move rfl) ?_
  refine WL.pure rfl rfl rfl (PV.assign rfl) ?_
  refine WL.nilS ?_
  refine CW.ret ?_
  refine RQ.r1 rfl ?_
  refine ⟨?_, hB⟩
  exact iE (by omega)
theorem c_laws_toInt64S {w : World} {va : Value} {xs : List Int} (ha : Rd EI w va xs) (hN : xs.length ≤ 1048576) : Calls Try.prog 34 #[va] w (Ret1 (fun v w' => Ext w w' ∧ ∃ v1 og_v1, v = v1 ∧ Osl VI w' og_v1 v1 (xs) ∧ Lo w og_v1)) := by
  have hB : Ext w w := Ext.refl w
  have hla := ha.leI
  refine callsOf (vs := [_]) Try.func34 rfl Try.ntmps34 rfl rfl ?_
  refine CW.seq ?_
  refine CW.reg ?_
  refine WL.pure rfl rfl rfl (PV.assign rfl) ?_
  refine WL.nilS ?_
  refine CW.seq ?_
  refine CW.reg ?_
  refine WL.pure rfl rfl rfl (PV.move rfl) ?_
  refine WL.pure rfl rfl rfl ((by first | exact PV.len rfl (by assumption) T.sl22 | exact PV.lenOs rfl (by assumption) T.sl22)) ?_
  first
    | refine WL.op rfl (OpK.makeS VI (0) rfl T.sl22 T.zv2 rfl rfl rfl (by constructor <;> omega) (fun v1 g1 w1 hXw1 ho1 hge1 => ?_))
    | refine WL.op rfl (OpK.makeSZ VI (0) rfl T.sl22 T.zv2 rfl rfl rfl (by omega) (by constructor <;> omega) (fun v1 g1 w1 hXw1 ho1 hge1 => ?_))
  have hl1 := Lo.new hB hge1
  have hB := hB.trans hXw1
  refine WL.pure rfl rfl rfl (PV.assign rfl) ?_
  refine WL.nilS ?_
  refine CW.seq ?_
  refine CW.seq ?_
  refine CW.reg ?_
  refine WL.pure rfl rfl rfl (PV.assign rfl) ?_
  refine WL.nilS ?_
  refine CW.block ?_
  have hlt1 := ho1.ltO
  refine CW.loop (σk := [(0, _), (3, _)]) (fun ρ wz m => ∃ (k : Nat), ρ = [(4, .int .i64 (k : Nat))] ∧ m = xs.length - k ∧ UpdL [(some g1)] w1 wz ∧ Osl VI wz (some g1) v1 (xs.take k ++ List.replicate (xs.length - k) (0 : Int)) ∧ (k ≤ xs.length)) (ρ₀ := [(4, _)]) (m₀ := _) ⟨rfl, rfl, rfl, trivial⟩ ⟨0, rfl, rfl, (UpdL.refl _ _), osE ho1 (by first | rfl | (simp_all; done) | (simp_all; omega)), (by first | omega | rfl | (simp; done) | assumption | (simp_all; done))⟩ ?_
  rintro _ wl1 _ ⟨k, rfl, rfl, hU0, ho1, hk⟩
  have hk0_1 : OkB [(some g1)] w1 (some g1) := OkB.mem (by simp)
  have hB := hB.loop hU0 ⟨hl1, trivial⟩
  refine CW.seq ?_
  refine CW.seq ?_
  refine CW.reg ?_
  refine WL.pure rfl rfl rfl (PV.move rfl) ?_
  refine WL.pure rfl rfl rfl (PV.move rfl) ?_
  refine WL.pure rfl rfl rfl ((by first | exact PV.len rfl (by assumption) T.sl22 | exact PV.lenOs rfl (by assumption) T.sl22)) ?_
  refine WL.pure rfl rfl rfl (PV.lss rfl rfl) ?_
  refine WL.nilS ?_
  refine CW.cond rfl (fun hc1 => ?_) (fun hc1 => ?_)
  · skip
    try simp only [decide_eq_true_eq, decide_eq_false_iff_not, Bool.not_eq_true', Bool.not_eq_false', Bool.not_eq_eq_eq_not, Bool.not_true, Bool.not_false, Int.not_lt, Int.not_le, Classical.not_not, beq_iff_eq, beq_eq_false_iff_ne] at hc1
    refine CW.skipS ?_
    refine CW.seq ?_
    refine CW.block ?_
    refine CW.reg ?_
    refine WL.pure rfl rfl rfl (PV.move rfl) ?_
    refine WL.pure rfl rfl rfl (PV.move rfl) ?_
    refine WL.pure rfl rfl rfl (PV.move rfl) ?_
    refine WL.pure rfl rfl rfl (PV.move rfl) ?_
    first
      | refine WL.at (x := .tmp 16) (y := .tmp 17) (E := EI) (0) rfl rfl (by assumption) (by first | omega | (simp; omega) | (simp_all; omega)) (fun p1 csp1 hpp1 hcp1 hq => ?_)
      | refine WL.atZ (x := .tmp 16) (y := .tmp 17) (E := EI) (0) rfl rfl (by assumption) (by first | omega | (simp; omega) | (simp_all; omega)) (fun p1 csp1 hpp1 hzp1 hcp1 hq => ?_)
    cases hq
    refine WL.pure rfl rfl rfl ((by first | exact PV.indexAddr hpp1 rfl rfl T.sl22 | exact PV.indexAddr hpp1 rfl (by rw [← hzp1]; rfl) T.sl22)) ?_
    refine WL.pure rfl rfl rfl ((by first | exact PV.load0 T.na2 rfl (by first | exact Cells.up (by assumption) hB | exact Bx.cells (by assumption) | assumption) (Ext.refl _) rfl | exact PV.load1 T.na2 rfl (by first | exact Cells.up (by assumption) hB | exact Bx.cells (by assumption) | assumption) (Ext.refl _) rfl)) ?_
    first
      | refine WL.atO (x := .tmp 14) (y := .tmp 15) (f := VI) (0) rfl rfl ho1 (by first | omega | (simp; omega) | (simp_all; omega)) (fun p2 hpp2 hcp2 => ?_)
      | refine WL.atOZ (x := .tmp 14) (y := .tmp 15) (f := VI) (0) rfl rfl ho1 (by first | omega | (simp; omega) | (simp_all; omega)) (fun p2 hpp2 hzp2 hcp2 => ?_)
    refine WL.pure rfl rfl rfl ((by first | exact PV.indexAddr hpp2 rfl rfl T.sl22 | exact PV.indexAddr hpp2 rfl (by rw [← hzp2]; rfl) T.sl22)) ?_
    refine WL.op rfl (OpK.storeS VI T.sz2 rfl rfl rfl hpp2 ho1 (fun w2 hXw2 ho1 => ?_))
    have hB := hB.updL hXw2 hl1
    have hU0 := hU0.step hXw2 hk0_1
    refine WL.nil ?_
    refine NQ.block ?_
    refine NQ.then ?_
    refine CW.reg ?_
    refine WL.pure rfl rfl rfl (PV.move rfl) ?_
    refine WL.pure rfl rfl rfl (PV.add rfl rfl (by constructor <;> omega)) ?_
    refine WL.pure rfl rfl rfl (PV.assign rfl) ?_
    refine WL.nil ?_
    refine NQ.next (ρ := [(4, _)]) ⟨rfl, rfl, rfl, trivial⟩ ?_
    exact ⟨_, ⟨k + 1, rfl, rfl, hU0, osE ho1 (by exact set_fill (by omega) _ _), (by first | omega | assumption | (simp_all; done) | (simp_all; omega))⟩, by omega⟩
  try simp only [decide_eq_true_eq, decide_eq_false_iff_not, Bool.not_eq_true', Bool.not_eq_false', Bool.not_eq_eq_eq_not, Bool.not_true, Bool.not_false, Int.not_lt, Int.not_le, Classical.not_not, beq_iff_eq, beq_eq_false_iff_ne] at hc1
  refine CW.exit ?_
  refine XQ.then ?_
  refine XQ.then ?_
  refine XQ.here ?_
  refine NQ.then ?_
  refine CW.seq ?_
  refine CW.reg ?_
  refine WL.pure rfl rfl rfl (PV.move rfl) ?_
  refine WL.pure rfl rfl rfl (PV.assign rfl) ?_
  refine WL.nilS ?_
  refine CW.ret ?_
  refine RQ.r1 rfl ?_
  refine ⟨hB, v1, (some g1), ?_, osE ho1 ?_, hl1⟩
  · skip
    rfl
  · skip
    exact fill_done (by omega) _
theorem c_laws_toZone {w : World} {a0 : Int} {va1 : Value} {xa1 : List Int}  (ha1 : Rd EI w va1 xa1) (hNa1 : xa1.length ≤ 1048576) : Calls Try.prog 17 #[.agg #[.int .i64 a0, va1]] w (Ret1 (fun v w' => Ext w w' ∧ ∃ u1 og_u1, v = .agg #[.int .i64 a0, u1] ∧ Osl VI w' og_u1 u1 (xa1) ∧ Lo w og_u1)) := by
  have hB : Ext w w := Ext.refl w
  have hla1 := ha1.leI
  refine callsOf (vs := [_]) Try.func17 rfl Try.ntmps17 rfl rfl ?_
  refine CW.seq ?_
  refine CW.reg ?_
  refine WL.op rfl (OpK.box rfl rfl (by first | rfl | exact Rd.cells1 (by assumption) | exact Osl.cells1 (by assumption) | exact Osn.cells1 (by assumption)) (fun b1 w1 hXw1 hb1 hge1 => ?_))
  have hl1 := Lo.new hB hge1
  have hB := hB.trans hXw1
  refine WL.op rfl (OpK.alloc rfl T.zv27 rfl (fun b2 w2 hXw2 hb2 hge2 => ?_))
  have hl2 := Lo.new hB hge2
  have hd1_2 := Dj.new hb1.ltO hge2
  have hB := hB.trans hXw2
  have hb1 := hb1.up hXw2
  refine WL.nilS ?_
  refine CW.seq ?_
  refine CW.reg ?_
  refine WL.op rfl (OpK.alloc rfl T.zv27 rfl (fun b3 w3 hXw3 hb3 hge3 => ?_))
  have hl3 := Lo.new hB hge3
  have hd1_3 := Dj.new hb1.ltO hge3
  have hd2_3 := Dj.new hb2.ltO hge3
  have hB := hB.trans hXw3
  have hb1 := hb1.up hXw3
  have hb2 := hb2.up hXw3
  refine WL.nilS ?_
  refine CW.seq ?_
  refine CW.reg ?_
  refine WL.pure rfl rfl rfl ((by first | exact PV.fieldAddr T.fl24_0 rfl (by first | assumption | exact Bx.cells (by assumption)) | exact PV.fieldAddrP T.fl24_0 rfl rfl)) ?_
  refine WL.pure rfl rfl rfl ((by first | exact PV.load0 T.na2 rfl (by first | exact Cells.up (by assumption) hB | exact Bx.cells (by assumption) | assumption) (Ext.refl _) rfl | exact PV.load1 T.na2 rfl (by first | exact Cells.up (by assumption) hB | exact Bx.cells (by assumption) | assumption) (Ext.refl _) rfl)) ?_
  refine WL.pure rfl rfl rfl ((by first | exact PV.fieldAddr T.fl27_0 rfl (by first | assumption | exact Bx.cells (by assumption)) | exact PV.fieldAddrP T.fl27_0 rfl rfl)) ?_
  first
    | refine WL.op rfl (OpK.storeB T.sz2 rfl rfl (by first | rfl | exact Osl.oneCell (by assumption) | exact Osn.oneCell (by assumption) | exact Rd.oneCell (by assumption) | assumption) hb3 rfl (fun w4 hXw4 hb3 => ?_))
    | refine WL.op rfl (OpK.storeB0 T.sz2 rfl rfl (by first | rfl | exact Osl.oneCell (by assumption) | exact Osn.oneCell (by assumption) | exact Rd.oneCell (by assumption) | assumption) hb3 (fun w4 hXw4 hb3 => ?_))
  have hB := hB.updL hXw4 hl3
  have hb1 := hb1.updD hXw4 hd1_3
  have hb2 := hb2.updD hXw4 hd2_3
  refine WL.nilS ?_
  refine CW.seq ?_
  refine CW.reg ?_
  refine WL.pure rfl rfl rfl ((by first | exact PV.fieldAddr T.fl24_1 rfl (by first | assumption | exact Bx.cells (by assumption)) | exact PV.fieldAddrP T.fl24_1 rfl rfl)) ?_
  refine WL.pure rfl rfl rfl ((by first | exact PV.load0 T.na22 rfl (by first | exact Cells.up (by assumption) hB | exact Bx.cells (by assumption) | assumption) (Ext.refl _) rfl | exact PV.load1 T.na22 rfl (by first | exact Cells.up (by assumption) hB | exact Bx.cells (by assumption) | assumption) (Ext.refl _) rfl)) ?_
  refine WL.op rfl (OpK.call rfl T.cf34 rfl (c_laws_toInt64S (by first | assumption | exact Rd.up (by assumption) hB | exact Osl.rd (by assumption) | exact Osn.rdR (by assumption)) (by first | assumption | omega | (simp only [marks_len, marksB_len]; omega))) (fun rv1 w5 hR => ?_))
  obtain ⟨hXw5, v4, og4, rfl, ho4, hq4⟩ := hR
  have hl4 := Lo.up hq4 hB
  have hd1_4 := Dj.lo hb1.ltO hq4
  have hd2_4 := Dj.lo hb2.ltO hq4
  have hd3_4 := Dj.lo hb3.ltO hq4
  have hB := hB.trans hXw5
  have hb1 := hb1.up hXw5
  have hb2 := hb2.up hXw5
  have hb3 := hb3.up hXw5
  refine WL.pure rfl rfl rfl ((by first | exact PV.fieldAddr T.fl27_1 rfl (by first | assumption | exact Bx.cells (by assumption)) | exact PV.fieldAddrP T.fl27_1 rfl rfl)) ?_
  first
    | refine WL.op rfl (OpK.storeB T.sz22 rfl rfl (by first | rfl | exact Osl.oneCell (by assumption) | exact Osn.oneCell (by assumption) | exact Rd.oneCell (by assumption) | assumption) hb3 rfl (fun w6 hXw6 hb3 => ?_))
    | refine WL.op rfl (OpK.storeB0 T.sz22 rfl rfl (by first | rfl | exact Osl.oneCell (by assumption) | exact Osn.oneCell (by assumption) | exact Rd.oneCell (by assumption) | assumption) hb3 (fun w6 hXw6 hb3 => ?_))
  have hB := hB.updL hXw6 hl3
  have hb1 := hb1.updD hXw6 hd1_3
  have hb2 := hb2.updD hXw6 hd2_3
  have ho4 := ho4.updD hXw6 (Dj.symm hd3_4)
  refine WL.nilS ?_
  refine CW.seq ?_
  refine CW.reg ?_
  refine WL.pure rfl rfl rfl ((by first | exact PV.loadA T.ag27 rfl (by first | exact Cells.up (by assumption) hB | exact Bx.cells (by assumption) | assumption) (Ext.refl _) rfl | exact PV.loadP (ds := [_, _]) T.ag27 rfl (by first | exact Cells.up (by assumption) hB | exact Bx.cells (by assumption) | assumption) (Ext.refl _) rfl rfl)) ?_
  refine WL.op rfl (OpK.storeA T.sz27 rfl rfl rfl rfl (by simp [Value.oneCell'] <;> first | done | (repeat' apply And.intro) <;> first | rfl | exact Osl.oneCell (by assumption) | exact Osn.oneCell (by assumption) | exact Rd.oneCell (by assumption) | assumption) hb2 (fun w7 hXw7 hb2 => ?_))
  have hB := hB.updL hXw7 hl2
  have hb1 := hb1.updD hXw7 hd1_2
  have hb3 := hb3.updD hXw7 (Dj.symm hd2_3)
  have ho4 := ho4.updD hXw7 (Dj.symm hd2_4)
  refine WL.nilS ?_
  refine CW.ret ?_
  refine RQ.rc0 T.ag27 rfl (by first | exact Cells.up (by assumption) hB | exact Bx.cells (by assumption) | assumption) rfl ?_
  refine ⟨hB, rv1, og4, ?_, osE ho4 ?_, hl4⟩
  · skip
    rfl
  · skip
    rfl
theorem c_spec_l00In {w : World} {n lo hi : Int} : Calls Try.prog 61 #[.int .i64 n, .int .i64 lo, .int .i64 hi] w (Ret1 (RQt (.bool (decide (lo ≤ n ∧ n ≤ hi))) w)) := by
  have hB : Ext w w := Ext.refl w
  refine callsOf (vs := [_, _, _]) Try.func61 rfl Try.ntmps61 rfl rfl ?_
  refine CW.seq ?_
  refine CW.reg ?_
  refine WL.pure rfl rfl rfl (PV.assign rfl) ?_
  refine WL.nilS ?_
  refine CW.seq ?_
  refine CW.reg ?_
  refine WL.pure rfl rfl rfl (PV.move rfl) ?_
  refine WL.pure rfl rfl rfl (PV.move rfl) ?_
  refine WL.pure rfl rfl rfl (PV.geq rfl rfl) ?_
  refine WL.pure rfl rfl rfl (PV.move rfl) ?_
  refine WL.split (t := 10) rfl (fun hc1 => ?_) (fun hc1 => ?_)
  rotate_left
  · skip
    try simp only [decide_eq_true_eq, decide_eq_false_iff_not, Bool.not_eq_true', Bool.not_eq_false', Bool.not_eq_eq_eq_not, Bool.not_true, Bool.not_false, Int.not_lt, Int.not_le, Classical.not_not, beq_iff_eq, beq_eq_false_iff_ne] at hc1
    refine WL.skip rfl rfl rfl rfl rfl ?_
    refine WL.skip rfl rfl rfl rfl rfl ?_
    refine WL.skip rfl rfl rfl rfl rfl ?_
    refine WL.pure rfl rfl rfl (PV.pickF rfl rfl) ?_
    refine WL.pure rfl rfl rfl (PV.assign rfl) ?_
    refine WL.nilS ?_
    refine CW.ret ?_
    refine RQ.r1 rfl ?_
    refine ⟨?_, hB⟩
    first | rfl | exact bT (by omega) | exact bF (by omega) | exact bD (by omega) | exact iE (by omega) | (simp_all; done) | (simp_all; omega) | (simp_all; intros; omega)
  try simp only [decide_eq_true_eq, decide_eq_false_iff_not, Bool.not_eq_true', Bool.not_eq_false', Bool.not_eq_eq_eq_not, Bool.not_true, Bool.not_false, Int.not_lt, Int.not_le, Classical.not_not, beq_iff_eq, beq_eq_false_iff_ne] at hc1
  refine WL.pureG rfl rfl rfl rfl rfl (PV.move rfl) ?_
  refine WL.pureG rfl rfl rfl rfl rfl (PV.move rfl) ?_
  refine WL.pureG rfl rfl rfl rfl rfl (PV.leq rfl rfl) ?_
  refine WL.pure rfl rfl rfl (PV.pickT rfl rfl) ?_
  refine WL.pure rfl rfl rfl (PV.assign rfl) ?_
  refine WL.nilS ?_
  refine CW.ret ?_
  refine RQ.r1 rfl ?_
  refine ⟨?_, hB⟩
  first | rfl | exact bT (by omega) | exact bF (by omega) | exact bD (by omega) | exact iE (by omega) | (simp_all; done) | (simp_all; omega) | (simp_all; intros; omega)
theorem c_spec_l07Zone {w : World} {pa : Addr} {a0 : Int} {va1 : Value} {xa1 : List Int}  (hba : Cells w pa [.int .i64 a0, va1]) (ha1 : Rd EI w va1 xa1) : Calls Try.prog 64 #[.pointer (some pa)] w (Ret1 (RQt (.bool (decide (zoneV a0 xa1))) w)) := by
  have hB : Ext w w := Ext.refl w
  have hla1 := ha1.leI
  refine callsOf (vs := [_]) Try.func64 rfl Try.ntmps64 rfl rfl ?_
  refine CW.seq ?_
  refine CW.reg ?_
  refine WL.pure rfl rfl rfl (PV.assign rfl) ?_
  refine WL.nilS ?_
  refine CW.seq ?_
  refine CW.seq ?_
  refine CW.reg ?_
  refine WL.pure rfl rfl rfl (PV.move rfl) ?_
  refine WL.pure rfl rfl rfl (PV.nilCheck rfl) ?_
  refine WL.pure rfl rfl rfl ((by first | exact PV.fieldAddr T.fl27_0 rfl (by first | assumption | exact Bx.cells (by assumption)) | exact PV.fieldAddrP T.fl27_0 rfl rfl)) ?_
  refine WL.pure rfl rfl rfl ((by first | exact PV.load0 T.na2 rfl (by first | exact Cells.up (by assumption) hB | exact Bx.cells (by assumption) | assumption) (Ext.refl _) rfl | exact PV.load1 T.na2 rfl (by first | exact Cells.up (by assumption) hB | exact Bx.cells (by assumption) | assumption) (Ext.refl _) rfl)) ?_
  refine WL.op rfl (OpK.callR rfl T.cf61 rfl (c_spec_l00In) (fun w1 hXw1 => ?_))
  have hB := hB.trans hXw1
  refine WL.pure rfl rfl rfl (PV.not rfl) ?_
  refine WL.nilS ?_
  refine CW.cond rfl (fun hc1 => ?_) (fun hc1 => ?_)
  · skip
    try simp only [decide_eq_true_eq, decide_eq_false_iff_not, Bool.not_eq_true', Bool.not_eq_false', Bool.not_eq_eq_eq_not, Bool.not_true, Bool.not_false, Int.not_lt, Int.not_le, Classical.not_not, beq_iff_eq, beq_eq_false_iff_ne] at hc1
    refine CW.seq ?_
    refine CW.reg ?_
    refine WL.pure rfl rfl rfl (PV.assign rfl) ?_
    refine WL.nilS ?_
    refine CW.ret ?_
    refine RQ.then ?_
    refine RQ.r1 rfl ?_
    refine ⟨?_, hB⟩
    exact bF (by intro hv; have h1 := hv.1; omega)
  try simp only [decide_eq_true_eq, decide_eq_false_iff_not, Bool.not_eq_true', Bool.not_eq_false', Bool.not_eq_eq_eq_not, Bool.not_true, Bool.not_false, Int.not_lt, Int.not_le, Classical.not_not, beq_iff_eq, beq_eq_false_iff_ne] at hc1
  refine CW.skipS ?_
  refine CW.seq ?_
  refine CW.reg ?_
  refine WL.pure rfl rfl rfl (PV.move rfl) ?_
  refine WL.pure rfl rfl rfl (PV.nilCheck rfl) ?_
  refine WL.pure rfl rfl rfl ((by first | exact PV.fieldAddr T.fl27_0 rfl (by first | assumption | exact Bx.cells (by assumption)) | exact PV.fieldAddrP T.fl27_0 rfl rfl)) ?_
  refine WL.pure rfl rfl rfl ((by first | exact PV.load0 T.na2 rfl (by first | exact Cells.up (by assumption) hB | exact Bx.cells (by assumption) | assumption) (Ext.refl _) rfl | exact PV.load1 T.na2 rfl (by first | exact Cells.up (by assumption) hB | exact Bx.cells (by assumption) | assumption) (Ext.refl _) rfl)) ?_
  refine WL.pure rfl rfl rfl (PV.add rfl rfl (by constructor <;> omega)) ?_
  refine WL.pure rfl rfl rfl (PV.assign rfl) ?_
  refine WL.nilS ?_
  refine CW.seq ?_
  refine CW.seq ?_
  refine CW.reg ?_
  refine WL.pure rfl rfl rfl (PV.move rfl) ?_
  refine WL.pure rfl rfl rfl (PV.nilCheck rfl) ?_
  refine WL.pure rfl rfl rfl ((by first | exact PV.fieldAddr T.fl27_1 rfl (by first | assumption | exact Bx.cells (by assumption)) | exact PV.fieldAddrP T.fl27_1 rfl rfl)) ?_
  refine WL.pure rfl rfl rfl ((by first | exact PV.load0 T.na22 rfl (by first | exact Cells.up (by assumption) hB | exact Bx.cells (by assumption) | assumption) (Ext.refl _) rfl | exact PV.load1 T.na22 rfl (by first | exact Cells.up (by assumption) hB | exact Bx.cells (by assumption) | assumption) (Ext.refl _) rfl)) ?_
  refine WL.pure rfl rfl rfl ((by first | exact PV.len rfl (by assumption) T.sl22 | exact PV.lenOs rfl (by assumption) T.sl22)) ?_
  refine WL.pure rfl rfl rfl (PV.move rfl) ?_
  refine WL.pure rfl rfl rfl (PV.move rfl) ?_
  refine WL.pure rfl rfl rfl (PV.mul rfl rfl (by constructor <;> (have hsq := sq_le (c := a0) (by omega); omega))) ?_
  refine WL.pure rfl rfl rfl (PV.neq rfl rfl) ?_
  refine WL.nilS ?_
  refine CW.cond rfl (fun hc2 => ?_) (fun hc2 => ?_)
  · skip
    try simp only [decide_eq_true_eq, decide_eq_false_iff_not, Bool.not_eq_true', Bool.not_eq_false', Bool.not_eq_eq_eq_not, Bool.not_true, Bool.not_false, Int.not_lt, Int.not_le, Classical.not_not, beq_iff_eq, beq_eq_false_iff_ne] at hc2
    refine CW.seq ?_
    refine CW.reg ?_
    refine WL.pure rfl rfl rfl (PV.assign rfl) ?_
    refine WL.nilS ?_
    refine CW.ret ?_
    refine RQ.then ?_
    refine RQ.r1 rfl ?_
    refine ⟨?_, hB⟩
    exact bF (by intro hv; have h1 := hv.2.1; omega)
  try simp only [decide_eq_true_eq, decide_eq_false_iff_not, Bool.not_eq_true', Bool.not_eq_false', Bool.not_eq_eq_eq_not, Bool.not_true, Bool.not_false, Int.not_lt, Int.not_le, Classical.not_not, beq_iff_eq, beq_eq_false_iff_ne] at hc2
  refine CW.skipS ?_
  refine CW.seq ?_
  refine CW.seq ?_
  refine CW.reg ?_
  refine WL.pure rfl rfl rfl (PV.assign rfl) ?_
  refine WL.nilS ?_
  refine CW.block ?_
  refine CW.loop (σk := [(0, _), (3, _)]) (fun ρ wz m => ∃ (i : Nat), ρ = [(4, .int .i64 (i : Nat))] ∧ m = (a0 + 1).toNat - i ∧ UpdL [] w1 wz ∧ ((i : Int) ≤ a0 + 1) ∧ (∀ p q : Int, 0 ≤ p → p < i → 0 ≤ q → q < a0 + 1 → okc a0 xa1 p q)) (ρ₀ := [(4, _)]) (m₀ := _) ⟨rfl, rfl, rfl, trivial⟩ ⟨0, rfl, rfl, (UpdL.refl _ _), (by first | omega | rfl | (simp; done) | assumption | (simp_all; done)), (by intro p q h1 h2; exact absurd h2 (by omega))⟩ ?_
  rintro _ wl1 _ ⟨i, rfl, rfl, hU0, hi, hz⟩
  have hB := hB.loop hU0 trivial
  refine CW.seq ?_
  refine CW.seq ?_
  refine CW.reg ?_
  refine WL.pure rfl rfl rfl (PV.move rfl) ?_
  refine WL.pure rfl rfl rfl (PV.move rfl) ?_
  refine WL.pure rfl rfl rfl (PV.lss rfl rfl) ?_
  refine WL.nilS ?_
  refine CW.cond rfl (fun hc3 => ?_) (fun hc3 => ?_)
  · skip
    try simp only [decide_eq_true_eq, decide_eq_false_iff_not, Bool.not_eq_true', Bool.not_eq_false', Bool.not_eq_eq_eq_not, Bool.not_true, Bool.not_false, Int.not_lt, Int.not_le, Classical.not_not, beq_iff_eq, beq_eq_false_iff_ne] at hc3
    refine CW.skipS ?_
    refine CW.seq ?_
    refine CW.block ?_
    refine CW.seq ?_
    refine CW.reg ?_
    refine WL.pure rfl rfl rfl (PV.assign rfl) ?_
    refine WL.nilS ?_
    refine CW.block ?_
    refine CW.loop (σk := [(0, _), (3, _), (4, _)]) (fun ρ wz m => ∃ (k : Nat), ρ = [(5, .int .i64 (k : Nat))] ∧ m = (a0 + 1).toNat - k ∧ UpdL [] wl1 wz ∧ ((k : Int) ≤ a0 + 1) ∧ (∀ q : Int, 0 ≤ q → q < k → okc a0 xa1 i q)) (ρ₀ := [(5, _)]) (m₀ := _) ⟨rfl, rfl, rfl, rfl, trivial⟩ ⟨0, rfl, rfl, (UpdL.refl _ _), (by first | omega | rfl | (simp; done) | assumption | (simp_all; done)), (by intro q h1 h2; exact absurd h2 (by omega))⟩ ?_
    rintro _ wl2 _ ⟨k, rfl, rfl, hU1, hk, hq⟩
    have hU0 := hU0.trans hU1 trivial
    have hB := hB.loop hU1 trivial
    refine CW.seq ?_
    refine CW.seq ?_
    refine CW.reg ?_
    refine WL.pure rfl rfl rfl (PV.move rfl) ?_
    refine WL.pure rfl rfl rfl (PV.move rfl) ?_
    refine WL.pure rfl rfl rfl (PV.lss rfl rfl) ?_
    refine WL.nilS ?_
    refine CW.cond rfl (fun hc4 => ?_) (fun hc4 => ?_)
    · skip
      try simp only [decide_eq_true_eq, decide_eq_false_iff_not, Bool.not_eq_true', Bool.not_eq_false', Bool.not_eq_eq_eq_not, Bool.not_true, Bool.not_false, Int.not_lt, Int.not_le, Classical.not_not, beq_iff_eq, beq_eq_false_iff_ne] at hc4
      refine CW.skipS ?_
      refine CW.seq ?_
      refine CW.block ?_
      refine CW.seq ?_
      refine CW.reg ?_
      refine WL.pure rfl rfl rfl (PV.move rfl) ?_
      refine WL.pure rfl rfl rfl (PV.nilCheck rfl) ?_
      refine WL.pure rfl rfl rfl ((by first | exact PV.fieldAddr T.fl27_1 rfl (by first | assumption | exact Bx.cells (by assumption)) | exact PV.fieldAddrP T.fl27_1 rfl rfl)) ?_
      refine WL.pure rfl rfl rfl ((by first | exact PV.load0 T.na22 rfl (by first | exact Cells.up (by assumption) hB | exact Bx.cells (by assumption) | assumption) (Ext.refl _) rfl | exact PV.load1 T.na22 rfl (by first | exact Cells.up (by assumption) hB | exact Bx.cells (by assumption) | assumption) (Ext.refl _) rfl)) ?_
      refine WL.pure rfl rfl rfl (PV.move rfl) ?_
      refine WL.pure rfl rfl rfl (PV.move rfl) ?_
      refine WL.pure rfl rfl rfl (PV.mul rfl rfl (by constructor <;> (have hix := idx_lt (c := a0) (i := i) (k := k) (n := xa1.length) (by omega) (by omega) (by omega) (by assumption); omega))) ?_
      refine WL.pure rfl rfl rfl (PV.move rfl) ?_
      refine WL.pure rfl rfl rfl (PV.add rfl rfl (by constructor <;> (have hix := idx_lt (c := a0) (i := i) (k := k) (n := xa1.length) (by omega) (by omega) (by omega) (by assumption); omega))) ?_
      first
        | refine WL.at (x := .tmp 40) (y := .tmp 45) (E := EI) (0) rfl rfl (by assumption) (by have hix := idx_lt (c := a0) (i := i) (k := k) (n := xa1.length) (by omega) (by omega) (by omega) (by assumption); omega) (fun p1 csp1 hpp1 hcp1 hq => ?_)
        | refine WL.atZ (x := .tmp 40) (y := .tmp 45) (E := EI) (0) rfl rfl (by assumption) (by have hix := idx_lt (c := a0) (i := i) (k := k) (n := xa1.length) (by omega) (by omega) (by omega) (by assumption); omega) (fun p1 csp1 hpp1 hzp1 hcp1 hq => ?_)
      cases hq
      refine WL.pure rfl rfl rfl ((by first | exact PV.indexAddr hpp1 rfl rfl T.sl22 | exact PV.indexAddr hpp1 rfl (by rw [← hzp1]; rfl) T.sl22)) ?_
      refine WL.pure rfl rfl rfl ((by first | exact PV.load0 T.na2 rfl (by first | exact Cells.up (by assumption) hB | exact Bx.cells (by assumption) | assumption) (Ext.refl _) rfl | exact PV.load1 T.na2 rfl (by first | exact Cells.up (by assumption) hB | exact Bx.cells (by assumption) | assumption) (Ext.refl _) rfl)) ?_
      refine WL.pure rfl rfl rfl (PV.assign rfl) ?_
      refine WL.nilS ?_
      refine CW.seq ?_
      refine CW.reg ?_
      refine WL.pure rfl rfl rfl (PV.move rfl) ?_
      refine WL.op rfl (OpK.callR rfl T.cf61 rfl (c_spec_l00In) (fun w2 hXw2 => ?_))
      have hB := hB.trans hXw2
      have hU0 := hU0.ext hXw2
      have hU1 := hU1.ext hXw2
      refine WL.pure rfl rfl rfl (PV.not rfl) ?_
      refine WL.pure rfl rfl rfl (PV.move rfl) ?_
      refine WL.split (t := 51) rfl (fun hc5 => ?_) (fun hc5 => ?_)
      rotate_left
      · skip
        try simp only [decide_eq_true_eq, decide_eq_false_iff_not, Bool.not_eq_true', Bool.not_eq_false', Bool.not_eq_eq_eq_not, Bool.not_true, Bool.not_false, Int.not_lt, Int.not_le, Classical.not_not, beq_iff_eq, beq_eq_false_iff_ne] at hc5
        refine WL.skip rfl rfl rfl rfl rfl ?_
        refine WL.skip rfl rfl rfl rfl rfl ?_
        refine WL.pure rfl rfl rfl (PV.pickF rfl rfl) ?_
        refine WL.pure rfl rfl rfl (PV.move rfl) ?_
        refine WL.pureG rfl rfl rfl rfl rfl (PV.move rfl) ?_
        refine WL.pureG rfl rfl rfl rfl rfl (PV.move rfl) ?_
        refine WL.pureG rfl rfl rfl rfl rfl (PV.eql rfl rfl) ?_
        refine WL.pureG rfl rfl rfl rfl rfl (PV.move rfl) ?_
        refine WL.split (t := 59) rfl (fun hc6 => ?_) (fun hc6 => ?_)
        rotate_left
        · skip
          try simp only [decide_eq_true_eq, decide_eq_false_iff_not, Bool.not_eq_true', Bool.not_eq_false', Bool.not_eq_eq_eq_not, Bool.not_true, Bool.not_false, Int.not_lt, Int.not_le, Classical.not_not, beq_iff_eq, beq_eq_false_iff_ne] at hc6
          refine WL.skip rfl rfl rfl rfl rfl ?_
          refine WL.skip rfl rfl rfl rfl rfl ?_
          refine WL.pureG rfl rfl rfl rfl rfl (PV.pickF rfl rfl) ?_
          refine WL.pure rfl rfl rfl (PV.pickF rfl rfl) ?_
          refine WL.pure rfl rfl rfl (PV.move rfl) ?_
          refine WL.pureG rfl rfl rfl rfl rfl (PV.move rfl) ?_
          refine WL.pureG rfl rfl rfl rfl rfl (PV.eql rfl rfl) ?_
          refine WL.pureG rfl rfl rfl rfl rfl (PV.move rfl) ?_
          refine WL.split (t := 67) rfl (fun hc7 => ?_) (fun hc7 => ?_)
          rotate_left
          · skip
            try simp only [decide_eq_true_eq, decide_eq_false_iff_not, Bool.not_eq_true', Bool.not_eq_false', Bool.not_eq_eq_eq_not, Bool.not_true, Bool.not_false, Int.not_lt, Int.not_le, Classical.not_not, beq_iff_eq, beq_eq_false_iff_ne] at hc7
            refine WL.skip rfl rfl rfl rfl rfl ?_
            refine WL.skip rfl rfl rfl rfl rfl ?_
            refine WL.pureG rfl rfl rfl rfl rfl (PV.pickF rfl rfl) ?_
            refine WL.pure rfl rfl rfl (PV.pickF rfl rfl) ?_
            refine WL.nilS ?_
            refine CW.condF rfl ?_
            refine CW.skip ?_
            refine NQ.block ?_
            refine NQ.then ?_
            refine CW.reg ?_
            refine WL.pure rfl rfl rfl (PV.move rfl) ?_
            refine WL.pure rfl rfl rfl (PV.add rfl rfl (by constructor <;> omega)) ?_
            refine WL.pure rfl rfl rfl (PV.assign rfl) ?_
            refine WL.nil ?_
            refine NQ.next (ρ := [(5, _)]) ⟨rfl, rfl, rfl, rfl, trivial⟩ ?_
            exact ⟨_, ⟨k + 1, rfl, rfl, hU1, (by first | omega | assumption | (simp_all; done) | (simp_all; omega)), (by intro q h1 h2; by_cases h : q < (k : Int); exact hq q h1 h; obtain rfl : q = (k : Int) := (by omega); simp only [okc]; omega)⟩, by omega⟩
          try simp only [decide_eq_true_eq, decide_eq_false_iff_not, Bool.not_eq_true', Bool.not_eq_false', Bool.not_eq_eq_eq_not, Bool.not_true, Bool.not_false, Int.not_lt, Int.not_le, Classical.not_not, beq_iff_eq, beq_eq_false_iff_ne] at hc7
          refine WL.pureG rfl rfl rfl rfl rfl (PV.move rfl) ?_
          refine WL.pureG rfl rfl rfl rfl rfl (PV.gtr rfl rfl) ?_
          refine WL.pureG rfl rfl rfl rfl rfl (PV.pickT rfl rfl) ?_
          refine WL.pure rfl rfl rfl (PV.pickF rfl rfl) ?_
          refine WL.nilS ?_
          refine CW.cond rfl (fun hc8 => ?_) (fun hc8 => ?_)
          · skip
            try simp only [decide_eq_true_eq, decide_eq_false_iff_not, Bool.not_eq_true', Bool.not_eq_false', Bool.not_eq_eq_eq_not, Bool.not_true, Bool.not_false, Int.not_lt, Int.not_le, Classical.not_not, beq_iff_eq, beq_eq_false_iff_ne] at hc8
            refine CW.seq ?_
            refine CW.reg ?_
            refine WL.pure rfl rfl rfl (PV.assign rfl) ?_
            refine WL.nilS ?_
            refine CW.ret ?_
            refine RQ.block ?_
            refine RQ.then ?_
            refine RQ.then ?_
            refine RQ.block ?_
            refine RQ.block ?_
            refine RQ.then ?_
            refine RQ.then ?_
            refine RQ.block ?_
            refine RQ.then ?_
            refine RQ.r1 rfl ?_
            refine ⟨?_, hB⟩
            exact bF (by intro hv; have hv3 := hv.2.2 i k (by omega) (by omega) (by omega) (by omega); simp only [okc] at hv3; omega)
          try simp only [decide_eq_true_eq, decide_eq_false_iff_not, Bool.not_eq_true', Bool.not_eq_false', Bool.not_eq_eq_eq_not, Bool.not_true, Bool.not_false, Int.not_lt, Int.not_le, Classical.not_not, beq_iff_eq, beq_eq_false_iff_ne] at hc8
          refine CW.skip ?_
          refine NQ.block ?_
          refine NQ.then ?_
          refine CW.reg ?_
          refine WL.pure rfl rfl rfl (PV.move rfl) ?_
          refine WL.pure rfl rfl rfl (PV.add rfl rfl (by constructor <;> omega)) ?_
          refine WL.pure rfl rfl rfl (PV.assign rfl) ?_
          refine WL.nil ?_
          refine NQ.next (ρ := [(5, _)]) ⟨rfl, rfl, rfl, rfl, trivial⟩ ?_
          exact ⟨_, ⟨k + 1, rfl, rfl, hU1, (by first | omega | assumption | (simp_all; done) | (simp_all; omega)), (by intro q h1 h2; by_cases h : q < (k : Int); exact hq q h1 h; obtain rfl : q = (k : Int) := (by omega); simp only [okc]; omega)⟩, by omega⟩
        try simp only [decide_eq_true_eq, decide_eq_false_iff_not, Bool.not_eq_true', Bool.not_eq_false', Bool.not_eq_eq_eq_not, Bool.not_true, Bool.not_false, Int.not_lt, Int.not_le, Classical.not_not, beq_iff_eq, beq_eq_false_iff_ne] at hc6
        refine WL.pureG rfl rfl rfl rfl rfl (PV.move rfl) ?_
        refine WL.pureG rfl rfl rfl rfl rfl (PV.neq rfl rfl) ?_
        refine WL.pureG rfl rfl rfl rfl rfl (PV.pickT rfl rfl) ?_
        refine WL.pure rfl rfl rfl (PV.pickF rfl rfl) ?_
        refine WL.pure rfl rfl rfl (PV.move rfl) ?_
        refine WL.split (t := 64) rfl (fun hc9 => ?_) (fun hc9 => ?_)
        · skip
          try simp only [decide_eq_true_eq, decide_eq_false_iff_not, Bool.not_eq_true', Bool.not_eq_false', Bool.not_eq_eq_eq_not, Bool.not_true, Bool.not_false, Int.not_lt, Int.not_le, Classical.not_not, beq_iff_eq, beq_eq_false_iff_ne] at hc9
          refine WL.skip rfl rfl rfl rfl rfl ?_
          refine WL.skip rfl rfl rfl rfl rfl ?_
          refine WL.skip rfl rfl rfl rfl rfl ?_
          refine WL.skipU rfl rfl rfl rfl rfl ?_
          refine WL.skipU rfl rfl rfl rfl rfl ?_
          refine WL.skip rfl rfl rfl rfl rfl ?_
          refine WL.pure rfl rfl rfl (PV.pickT rfl rfl) ?_
          refine WL.nilS ?_
          refine CW.condT rfl ?_
          refine CW.seq ?_
          refine CW.reg ?_
          refine WL.pure rfl rfl rfl (PV.assign rfl) ?_
          refine WL.nilS ?_
          refine CW.ret ?_
          refine RQ.block ?_
          refine RQ.then ?_
          refine RQ.then ?_
          refine RQ.block ?_
          refine RQ.block ?_
          refine RQ.then ?_
          refine RQ.then ?_
          refine RQ.block ?_
          refine RQ.then ?_
          refine RQ.r1 rfl ?_
          refine ⟨?_, hB⟩
          exact bF (by intro hv; have hv3 := hv.2.2 i k (by omega) (by omega) (by omega) (by omega); simp only [okc] at hv3; omega)
        try simp only [decide_eq_true_eq, decide_eq_false_iff_not, Bool.not_eq_true', Bool.not_eq_false', Bool.not_eq_eq_eq_not, Bool.not_true, Bool.not_false, Int.not_lt, Int.not_le, Classical.not_not, beq_iff_eq, beq_eq_false_iff_ne] at hc9
        refine WL.pureG rfl rfl rfl rfl rfl (PV.move rfl) ?_
        refine WL.pureG rfl rfl rfl rfl rfl (PV.eql rfl rfl) ?_
        refine WL.pureG rfl rfl rfl rfl rfl (PV.move rfl) ?_
        refine WL.split (t := 67) rfl (fun hc10 => ?_) (fun hc10 => ?_)
        rotate_left
        · skip
          try simp only [decide_eq_true_eq, decide_eq_false_iff_not, Bool.not_eq_true', Bool.not_eq_false', Bool.not_eq_eq_eq_not, Bool.not_true, Bool.not_false, Int.not_lt, Int.not_le, Classical.not_not, beq_iff_eq, beq_eq_false_iff_ne] at hc10
          refine WL.skip rfl rfl rfl rfl rfl ?_
          refine WL.skip rfl rfl rfl rfl rfl ?_
          refine WL.pureG rfl rfl rfl rfl rfl (PV.pickF rfl rfl) ?_
          refine WL.pure rfl rfl rfl (PV.pickF rfl rfl) ?_
          refine WL.nilS ?_
          refine CW.condF rfl ?_
          refine CW.skip ?_
          refine NQ.block ?_
          refine NQ.then ?_
          refine CW.reg ?_
          refine WL.pure rfl rfl rfl (PV.move rfl) ?_
          refine WL.pure rfl rfl rfl (PV.add rfl rfl (by constructor <;> omega)) ?_
          refine WL.pure rfl rfl rfl (PV.assign rfl) ?_
          refine WL.nil ?_
          refine NQ.next (ρ := [(5, _)]) ⟨rfl, rfl, rfl, rfl, trivial⟩ ?_
          exact ⟨_, ⟨k + 1, rfl, rfl, hU1, (by first | omega | assumption | (simp_all; done) | (simp_all; omega)), (by intro q h1 h2; by_cases h : q < (k : Int); exact hq q h1 h; obtain rfl : q = (k : Int) := (by omega); simp only [okc]; omega)⟩, by omega⟩
        try simp only [decide_eq_true_eq, decide_eq_false_iff_not, Bool.not_eq_true', Bool.not_eq_false', Bool.not_eq_eq_eq_not, Bool.not_true, Bool.not_false, Int.not_lt, Int.not_le, Classical.not_not, beq_iff_eq, beq_eq_false_iff_ne] at hc10
        refine WL.pureG rfl rfl rfl rfl rfl (PV.move rfl) ?_
        refine WL.pureG rfl rfl rfl rfl rfl (PV.gtr rfl rfl) ?_
        refine WL.pureG rfl rfl rfl rfl rfl (PV.pickT rfl rfl) ?_
        refine WL.pure rfl rfl rfl (PV.pickF rfl rfl) ?_
        refine WL.nilS ?_
        refine CW.cond rfl (fun hc11 => ?_) (fun hc11 => ?_)
        · skip
          try simp only [decide_eq_true_eq, decide_eq_false_iff_not, Bool.not_eq_true', Bool.not_eq_false', Bool.not_eq_eq_eq_not, Bool.not_true, Bool.not_false, Int.not_lt, Int.not_le, Classical.not_not, beq_iff_eq, beq_eq_false_iff_ne] at hc11
          refine CW.seq ?_
          refine CW.reg ?_
          refine WL.pure rfl rfl rfl (PV.assign rfl) ?_
          refine WL.nilS ?_
          refine CW.ret ?_
          refine RQ.block ?_
          refine RQ.then ?_
          refine RQ.then ?_
          refine RQ.block ?_
          refine RQ.block ?_
          refine RQ.then ?_
          refine RQ.then ?_
          refine RQ.block ?_
          refine RQ.then ?_
          refine RQ.r1 rfl ?_
          refine ⟨?_, hB⟩
          exact bF (by intro hv; have hv3 := hv.2.2 i k (by omega) (by omega) (by omega) (by omega); simp only [okc] at hv3; omega)
        try simp only [decide_eq_true_eq, decide_eq_false_iff_not, Bool.not_eq_true', Bool.not_eq_false', Bool.not_eq_eq_eq_not, Bool.not_true, Bool.not_false, Int.not_lt, Int.not_le, Classical.not_not, beq_iff_eq, beq_eq_false_iff_ne] at hc11
        refine CW.skip ?_
        refine NQ.block ?_
        refine NQ.then ?_
        refine CW.reg ?_
        refine WL.pure rfl rfl rfl (PV.move rfl) ?_
        refine WL.pure rfl rfl rfl (PV.add rfl rfl (by constructor <;> omega)) ?_
        refine WL.pure rfl rfl rfl (PV.assign rfl) ?_
        refine WL.nil ?_
        refine NQ.next (ρ := [(5, _)]) ⟨rfl, rfl, rfl, rfl, trivial⟩ ?_
        exact ⟨_, ⟨k + 1, rfl, rfl, hU1, (by first | omega | assumption | (simp_all; done) | (simp_all; omega)), (by intro q h1 h2; by_cases h : q < (k : Int); exact hq q h1 h; obtain rfl : q = (k : Int) := (by omega); simp only [okc]; omega)⟩, by omega⟩
      try simp only [decide_eq_true_eq, decide_eq_false_iff_not, Bool.not_eq_true', Bool.not_eq_false', Bool.not_eq_eq_eq_not, Bool.not_true, Bool.not_false, Int.not_lt, Int.not_le, Classical.not_not, beq_iff_eq, beq_eq_false_iff_ne] at hc5
      refine WL.pureG rfl rfl rfl rfl rfl (PV.move rfl) ?_
      refine WL.pureG rfl rfl rfl rfl rfl (PV.neq rfl rfl) ?_
      refine WL.pure rfl rfl rfl (PV.pickT rfl rfl) ?_
      refine WL.pure rfl rfl rfl (PV.move rfl) ?_
      refine WL.split (t := 55) rfl (fun hc12 => ?_) (fun hc12 => ?_)
      · skip
        try simp only [decide_eq_true_eq, decide_eq_false_iff_not, Bool.not_eq_true', Bool.not_eq_false', Bool.not_eq_eq_eq_not, Bool.not_true, Bool.not_false, Int.not_lt, Int.not_le, Classical.not_not, beq_iff_eq, beq_eq_false_iff_ne] at hc12
        refine WL.skip rfl rfl rfl rfl rfl ?_
        refine WL.skip rfl rfl rfl rfl rfl ?_
        refine WL.skip rfl rfl rfl rfl rfl ?_
        refine WL.skip rfl rfl rfl rfl rfl ?_
        refine WL.skipU rfl rfl rfl rfl rfl ?_
        refine WL.skipU rfl rfl rfl rfl rfl ?_
        refine WL.skip rfl rfl rfl rfl rfl ?_
        refine WL.pure rfl rfl rfl (PV.pickT rfl rfl) ?_
        refine WL.pure rfl rfl rfl (PV.move rfl) ?_
        refine WL.skip rfl rfl rfl rfl rfl ?_
        refine WL.skip rfl rfl rfl rfl rfl ?_
        refine WL.skip rfl rfl rfl rfl rfl ?_
        refine WL.skipU rfl rfl rfl rfl rfl ?_
        refine WL.skipU rfl rfl rfl rfl rfl ?_
        refine WL.skip rfl rfl rfl rfl rfl ?_
        refine WL.pure rfl rfl rfl (PV.pickT rfl rfl) ?_
        refine WL.nilS ?_
        refine CW.condT rfl ?_
        refine CW.seq ?_
        refine CW.reg ?_
        refine WL.pure rfl rfl rfl (PV.assign rfl) ?_
        refine WL.nilS ?_
        refine CW.ret ?_
        refine RQ.block ?_
        refine RQ.then ?_
        refine RQ.then ?_
        refine RQ.block ?_
        refine RQ.block ?_
        refine RQ.then ?_
        refine RQ.then ?_
        refine RQ.block ?_
        refine RQ.then ?_
        refine RQ.r1 rfl ?_
        refine ⟨?_, hB⟩
        exact bF (by intro hv; have hv3 := hv.2.2 i k (by omega) (by omega) (by omega) (by omega); simp only [okc] at hv3; omega)
      try simp only [decide_eq_true_eq, decide_eq_false_iff_not, Bool.not_eq_true', Bool.not_eq_false', Bool.not_eq_eq_eq_not, Bool.not_true, Bool.not_false, Int.not_lt, Int.not_le, Classical.not_not, beq_iff_eq, beq_eq_false_iff_ne] at hc12
      refine WL.pureG rfl rfl rfl rfl rfl (PV.move rfl) ?_
      refine WL.pureG rfl rfl rfl rfl rfl (PV.move rfl) ?_
      refine WL.pureG rfl rfl rfl rfl rfl (PV.eql rfl rfl) ?_
      refine WL.pureG rfl rfl rfl rfl rfl (PV.move rfl) ?_
      refine WL.split (t := 59) rfl (fun hc13 => ?_) (fun hc13 => ?_)
      rotate_left
      · skip
        try simp only [decide_eq_true_eq, decide_eq_false_iff_not, Bool.not_eq_true', Bool.not_eq_false', Bool.not_eq_eq_eq_not, Bool.not_true, Bool.not_false, Int.not_lt, Int.not_le, Classical.not_not, beq_iff_eq, beq_eq_false_iff_ne] at hc13
        refine WL.skip rfl rfl rfl rfl rfl ?_
        refine WL.skip rfl rfl rfl rfl rfl ?_
        refine WL.pureG rfl rfl rfl rfl rfl (PV.pickF rfl rfl) ?_
        refine WL.pure rfl rfl rfl (PV.pickF rfl rfl) ?_
        refine WL.pure rfl rfl rfl (PV.move rfl) ?_
        refine WL.pureG rfl rfl rfl rfl rfl (PV.move rfl) ?_
        refine WL.pureG rfl rfl rfl rfl rfl (PV.eql rfl rfl) ?_
        refine WL.pureG rfl rfl rfl rfl rfl (PV.move rfl) ?_
        refine WL.split (t := 67) rfl (fun hc14 => ?_) (fun hc14 => ?_)
        rotate_left
        · skip
          try simp only [decide_eq_true_eq, decide_eq_false_iff_not, Bool.not_eq_true', Bool.not_eq_false', Bool.not_eq_eq_eq_not, Bool.not_true, Bool.not_false, Int.not_lt, Int.not_le, Classical.not_not, beq_iff_eq, beq_eq_false_iff_ne] at hc14
          refine WL.skip rfl rfl rfl rfl rfl ?_
          refine WL.skip rfl rfl rfl rfl rfl ?_
          refine WL.pureG rfl rfl rfl rfl rfl (PV.pickF rfl rfl) ?_
          refine WL.pure rfl rfl rfl (PV.pickF rfl rfl) ?_
          refine WL.nilS ?_
          refine CW.condF rfl ?_
          refine CW.skip ?_
          refine NQ.block ?_
          refine NQ.then ?_
          refine CW.reg ?_
          refine WL.pure rfl rfl rfl (PV.move rfl) ?_
          refine WL.pure rfl rfl rfl (PV.add rfl rfl (by constructor <;> omega)) ?_
          refine WL.pure rfl rfl rfl (PV.assign rfl) ?_
          refine WL.nil ?_
          refine NQ.next (ρ := [(5, _)]) ⟨rfl, rfl, rfl, rfl, trivial⟩ ?_
          exact ⟨_, ⟨k + 1, rfl, rfl, hU1, (by first | omega | assumption | (simp_all; done) | (simp_all; omega)), (by intro q h1 h2; by_cases h : q < (k : Int); exact hq q h1 h; obtain rfl : q = (k : Int) := (by omega); simp only [okc]; omega)⟩, by omega⟩
        try simp only [decide_eq_true_eq, decide_eq_false_iff_not, Bool.not_eq_true', Bool.not_eq_false', Bool.not_eq_eq_eq_not, Bool.not_true, Bool.not_false, Int.not_lt, Int.not_le, Classical.not_not, beq_iff_eq, beq_eq_false_iff_ne] at hc14
        refine WL.pureG rfl rfl rfl rfl rfl (PV.move rfl) ?_
        refine WL.pureG rfl rfl rfl rfl rfl (PV.gtr rfl rfl) ?_
        refine WL.pureG rfl rfl rfl rfl rfl (PV.pickT rfl rfl) ?_
        refine WL.pure rfl rfl rfl (PV.pickF rfl rfl) ?_
        refine WL.nilS ?_
        refine CW.cond rfl (fun hc15 => ?_) (fun hc15 => ?_)
        · skip
          try simp only [decide_eq_true_eq, decide_eq_false_iff_not, Bool.not_eq_true', Bool.not_eq_false', Bool.not_eq_eq_eq_not, Bool.not_true, Bool.not_false, Int.not_lt, Int.not_le, Classical.not_not, beq_iff_eq, beq_eq_false_iff_ne] at hc15
          refine CW.seq ?_
          refine CW.reg ?_
          refine WL.pure rfl rfl rfl (PV.assign rfl) ?_
          refine WL.nilS ?_
          refine CW.ret ?_
          refine RQ.block ?_
          refine RQ.then ?_
          refine RQ.then ?_
          refine RQ.block ?_
          refine RQ.block ?_
          refine RQ.then ?_
          refine RQ.then ?_
          refine RQ.block ?_
          refine RQ.then ?_
          refine RQ.r1 rfl ?_
          refine ⟨?_, hB⟩
          exact bF (by intro hv; have hv3 := hv.2.2 i k (by omega) (by omega) (by omega) (by omega); simp only [okc] at hv3; omega)
        try simp only [decide_eq_true_eq, decide_eq_false_iff_not, Bool.not_eq_true', Bool.not_eq_false', Bool.not_eq_eq_eq_not, Bool.not_true, Bool.not_false, Int.not_lt, Int.not_le, Classical.not_not, beq_iff_eq, beq_eq_false_iff_ne] at hc15
        refine CW.skip ?_
        refine NQ.block ?_
        refine NQ.then ?_
        refine CW.reg ?_
        refine WL.pure rfl rfl rfl (PV.move rfl) ?_
        refine WL.pure rfl rfl rfl (PV.add rfl rfl (by constructor <;> omega)) ?_
        refine WL.pure rfl rfl rfl (PV.assign rfl) ?_
        refine WL.nil ?_
        refine NQ.next (ρ := [(5, _)]) ⟨rfl, rfl, rfl, rfl, trivial⟩ ?_
        exact ⟨_, ⟨k + 1, rfl, rfl, hU1, (by first | omega | assumption | (simp_all; done) | (simp_all; omega)), (by intro q h1 h2; by_cases h : q < (k : Int); exact hq q h1 h; obtain rfl : q = (k : Int) := (by omega); simp only [okc]; omega)⟩, by omega⟩
      try simp only [decide_eq_true_eq, decide_eq_false_iff_not, Bool.not_eq_true', Bool.not_eq_false', Bool.not_eq_eq_eq_not, Bool.not_true, Bool.not_false, Int.not_lt, Int.not_le, Classical.not_not, beq_iff_eq, beq_eq_false_iff_ne] at hc13
      refine WL.pureG rfl rfl rfl rfl rfl (PV.move rfl) ?_
      refine WL.pureG rfl rfl rfl rfl rfl (PV.neq rfl rfl) ?_
      refine WL.pureG rfl rfl rfl rfl rfl (PV.pickT rfl rfl) ?_
      refine WL.pure rfl rfl rfl (PV.pickF rfl rfl) ?_
      refine WL.pure rfl rfl rfl (PV.move rfl) ?_
      refine WL.split (t := 64) rfl (fun hc16 => ?_) (fun hc16 => ?_)
      · skip
        try simp only [decide_eq_true_eq, decide_eq_false_iff_not, Bool.not_eq_true', Bool.not_eq_false', Bool.not_eq_eq_eq_not, Bool.not_true, Bool.not_false, Int.not_lt, Int.not_le, Classical.not_not, beq_iff_eq, beq_eq_false_iff_ne] at hc16
        refine WL.skip rfl rfl rfl rfl rfl ?_
        refine WL.skip rfl rfl rfl rfl rfl ?_
        refine WL.skip rfl rfl rfl rfl rfl ?_
        refine WL.skipU rfl rfl rfl rfl rfl ?_
        refine WL.skipU rfl rfl rfl rfl rfl ?_
        refine WL.skip rfl rfl rfl rfl rfl ?_
        refine WL.pure rfl rfl rfl (PV.pickT rfl rfl) ?_
        refine WL.nilS ?_
        refine CW.condT rfl ?_
        refine CW.seq ?_
        refine CW.reg ?_
        refine WL.pure rfl rfl rfl (PV.assign rfl) ?_
        refine WL.nilS ?_
        refine CW.ret ?_
        refine RQ.block ?_
        refine RQ.then ?_
        refine RQ.then ?_
        refine RQ.block ?_
        refine RQ.block ?_
        refine RQ.then ?_
        refine RQ.then ?_
        refine RQ.block ?_
        refine RQ.then ?_
        refine RQ.r1 rfl ?_
        refine ⟨?_, hB⟩
        exact bF (by intro hv; have hv3 := hv.2.2 i k (by omega) (by omega) (by omega) (by omega); simp only [okc] at hv3; omega)
      try simp only [decide_eq_true_eq, decide_eq_false_iff_not, Bool.not_eq_true', Bool.not_eq_false', Bool.not_eq_eq_eq_not, Bool.not_true, Bool.not_false, Int.not_lt, Int.not_le, Classical.not_not, beq_iff_eq, beq_eq_false_iff_ne] at hc16
      refine WL.pureG rfl rfl rfl rfl rfl (PV.move rfl) ?_
      refine WL.pureG rfl rfl rfl rfl rfl (PV.eql rfl rfl) ?_
      refine WL.pureG rfl rfl rfl rfl rfl (PV.move rfl) ?_
      refine WL.split (t := 67) rfl (fun hc17 => ?_) (fun hc17 => ?_)
      rotate_left
      · skip
        try simp only [decide_eq_true_eq, decide_eq_false_iff_not, Bool.not_eq_true', Bool.not_eq_false', Bool.not_eq_eq_eq_not, Bool.not_true, Bool.not_false, Int.not_lt, Int.not_le, Classical.not_not, beq_iff_eq, beq_eq_false_iff_ne] at hc17
        refine WL.skip rfl rfl rfl rfl rfl ?_
        refine WL.skip rfl rfl rfl rfl rfl ?_
        refine WL.pureG rfl rfl rfl rfl rfl (PV.pickF rfl rfl) ?_
        refine WL.pure rfl rfl rfl (PV.pickF rfl rfl) ?_
        refine WL.nilS ?_
        refine CW.condF rfl ?_
        refine CW.skip ?_
        refine NQ.block ?_
        refine NQ.then ?_
        refine CW.reg ?_
        refine WL.pure rfl rfl rfl (PV.move rfl) ?_
        refine WL.pure rfl rfl rfl (PV.add rfl rfl (by constructor <;> omega)) ?_
        refine WL.pure rfl rfl rfl (PV.assign rfl) ?_
        refine WL.nil ?_
        refine NQ.next (ρ := [(5, _)]) ⟨rfl, rfl, rfl, rfl, trivial⟩ ?_
        exact ⟨_, ⟨k + 1, rfl, rfl, hU1, (by first | omega | assumption | (simp_all; done) | (simp_all; omega)), (by intro q h1 h2; by_cases h : q < (k : Int); exact hq q h1 h; obtain rfl : q = (k : Int) := (by omega); simp only [okc]; omega)⟩, by omega⟩
      try simp only [decide_eq_true_eq, decide_eq_false_iff_not, Bool.not_eq_true', Bool.not_eq_false', Bool.not_eq_eq_eq_not, Bool.not_true, Bool.not_false, Int.not_lt, Int.not_le, Classical.not_not, beq_iff_eq, beq_eq_false_iff_ne] at hc17
      refine WL.pureG rfl rfl rfl rfl rfl (PV.move rfl) ?_
      refine WL.pureG rfl rfl rfl rfl rfl (PV.gtr rfl rfl) ?_
      refine WL.pureG rfl rfl rfl rfl rfl (PV.pickT rfl rfl) ?_
      refine WL.pure rfl rfl rfl (PV.pickF rfl rfl) ?_
      refine WL.nilS ?_
      refine CW.cond rfl (fun hc18 => ?_) (fun hc18 => ?_)
      · skip
        try simp only [decide_eq_true_eq, decide_eq_false_iff_not, Bool.not_eq_true', Bool.not_eq_false', Bool.not_eq_eq_eq_not, Bool.not_true, Bool.not_false, Int.not_lt, Int.not_le, Classical.not_not, beq_iff_eq, beq_eq_false_iff_ne] at hc18
        refine CW.seq ?_
        refine CW.reg ?_
        refine WL.pure rfl rfl rfl (PV.assign rfl) ?_
        refine WL.nilS ?_
        refine CW.ret ?_
        refine RQ.block ?_
        refine RQ.then ?_
        refine RQ.then ?_
        refine RQ.block ?_
        refine RQ.block ?_
        refine RQ.then ?_
        refine RQ.then ?_
        refine RQ.block ?_
        refine RQ.then ?_
        refine RQ.r1 rfl ?_
        refine ⟨?_, hB⟩
        exact bF (by intro hv; have hv3 := hv.2.2 i k (by omega) (by omega) (by omega) (by omega); simp only [okc] at hv3; omega)
      try simp only [decide_eq_true_eq, decide_eq_false_iff_not, Bool.not_eq_true', Bool.not_eq_false', Bool.not_eq_eq_eq_not, Bool.not_true, Bool.not_false, Int.not_lt, Int.not_le, Classical.not_not, beq_iff_eq, beq_eq_false_iff_ne] at hc18
      refine CW.skip ?_
      refine NQ.block ?_
      refine NQ.then ?_
      refine CW.reg ?_
      refine WL.pure rfl rfl rfl (PV.move rfl) ?_
      refine WL.pure rfl rfl rfl (PV.add rfl rfl (by constructor <;> omega)) ?_
      refine WL.pure rfl rfl rfl (PV.assign rfl) ?_
      refine WL.nil ?_
      refine NQ.next (ρ := [(5, _)]) ⟨rfl, rfl, rfl, rfl, trivial⟩ ?_
      exact ⟨_, ⟨k + 1, rfl, rfl, hU1, (by first | omega | assumption | (simp_all; done) | (simp_all; omega)), (by intro q h1 h2; by_cases h : q < (k : Int); exact hq q h1 h; obtain rfl : q = (k : Int) := (by omega); simp only [okc]; omega)⟩, by omega⟩
    try simp only [decide_eq_true_eq, decide_eq_false_iff_not, Bool.not_eq_true', Bool.not_eq_false', Bool.not_eq_eq_eq_not, Bool.not_true, Bool.not_false, Int.not_lt, Int.not_le, Classical.not_not, beq_iff_eq, beq_eq_false_iff_ne] at hc4
    refine CW.exit ?_
    refine XQ.then ?_
    refine XQ.then ?_
    refine XQ.here ?_
    refine NQ.block ?_
    refine NQ.then ?_
    refine CW.reg ?_
    refine WL.pure rfl rfl rfl (PV.move rfl) ?_
    refine WL.pure rfl rfl rfl (PV.add rfl rfl (by constructor <;> omega)) ?_
    refine WL.pure rfl rfl rfl (PV.assign rfl) ?_
    refine WL.nil ?_
    refine NQ.next (ρ := [(4, _)]) ⟨rfl, rfl, rfl, trivial⟩ ?_
    exact ⟨_, ⟨i + 1, rfl, rfl, hU0, (by first | omega | assumption | (simp_all; done) | (simp_all; omega)), (by intro p q h1 h2 h3 h4; by_cases h : p < (i : Int); exact hz p q h1 h h3 h4; obtain rfl : p = (i : Int) := (by omega); exact hq q h3 (by omega))⟩, by omega⟩
  try simp only [decide_eq_true_eq, decide_eq_false_iff_not, Bool.not_eq_true', Bool.not_eq_false', Bool.not_eq_eq_eq_not, Bool.not_true, Bool.not_false, Int.not_lt, Int.not_le, Classical.not_not, beq_iff_eq, beq_eq_false_iff_ne] at hc3
  refine CW.exit ?_
  refine XQ.then ?_
  refine XQ.then ?_
  refine XQ.here ?_
  refine NQ.then ?_
  refine CW.seq ?_
  refine CW.reg ?_
  refine WL.pure rfl rfl rfl (PV.assign rfl) ?_
  refine WL.nilS ?_
  refine CW.ret ?_
  refine RQ.r1 rfl ?_
  refine ⟨?_, hB⟩
  exact bT ⟨by omega, by omega, fun p q h1 h2 h3 h4 => hz p q h1 (by omega) h3 h4⟩
theorem c_spec_l07Tight {w : World} {pa : Addr} {a0 : Int} {va1 : Value} {xa1 : List Int}  (hba : Cells w pa [.int .i64 a0, va1]) (ha1 : Rd EI w va1 xa1) (hv : zoneV a0 xa1) : Calls Try.prog 81 #[.pointer (some pa)] w (Ret1 (fun v w' => Ext w w' ∧ ∃ u1 og_u1, v = .tuple #[.agg #[.int .i64 (onI (tightB a0 xa1) a0), u1], .bool (tightB a0 xa1)] ∧ Osl VI w' og_u1 u1 (onT (tightB a0 xa1) (tightL a0 xa1)) ∧ Lo w og_u1)) := by
  have hB : Ext w w := Ext.refl w
  have hla1 := ha1.leI; have hc := hv.1; have hn := hv.2.1; have hsq := sq_le (c := a0) (by omega)
  refine callsOf (vs := [_]) Try.func81 rfl Try.ntmps81 rfl rfl ?_
  refine CW.seq ?_
  refine CW.reg ?_
  refine WL.op rfl (OpK.alloc rfl T.zv27 rfl (fun b1 w1 hXw1 hb1 hge1 => ?_))
  have hl1 := Lo.new hB hge1
  have hB := hB.trans hXw1
  refine WL.pure rfl rfl rfl (PV.assign rfl) ?_
  refine WL.nilS ?_
  refine CW.seq ?_
  refine CW.reg ?_
  refine WL.pure rfl rfl rfl (PV.move rfl) ?_
  refine WL.pure rfl rfl rfl (PV.nilCheck rfl) ?_
  refine WL.pure rfl rfl rfl ((by first | exact PV.fieldAddr T.fl27_0 rfl (by first | assumption | exact Bx.cells (by assumption)) | exact PV.fieldAddrP T.fl27_0 rfl rfl)) ?_
  refine WL.pure rfl rfl rfl ((by first | exact PV.load0 T.na2 rfl (by first | exact Cells.up (by assumption) hB | exact Bx.cells (by assumption) | assumption) (Ext.refl _) rfl | exact PV.load1 T.na2 rfl (by first | exact Cells.up (by assumption) hB | exact Bx.cells (by assumption) | assumption) (Ext.refl _) rfl)) ?_
  refine WL.pure rfl rfl rfl (PV.add rfl rfl (by constructor <;> omega)) ?_
  refine WL.pure rfl rfl rfl (PV.assign rfl) ?_
  refine WL.nilS ?_
  refine CW.seq ?_
  refine CW.draw T.mixed (by kernel_rfl) (fun _ _ _ _ _ h => h) (fun w8 w9 => Upd none w8 w9) 13 (.take 0 (.take 1 (.take 2 (.take 3 (.take 5 (.take 6 (.take 7 (.take 8 (.fork 4 11 (.fork 9 11 (.take 10 (.must 11 (.must 12 .done))) (.must 9 (.take 10 (.must 12 .done)))) (.must 4 (.must 9 (.take 10 (.must 12 .done))))))))))))) (by kernel_rfl) (fun w2 hXd => ?_)
  have hB := hB.trans hXd
  have hb1 := hb1.up hXd
  have hBr := hB
  have hS : Upd none w2 w2 := Ext.toUpd (Ext.refl _)
  refine HP.take rfl rfl rfl rfl hS (fun wS hS1 => PV.move rfl) ?_
  refine HP.take rfl rfl rfl rfl hS (fun wS hS1 => PV.nilCheck rfl) ?_
  refine HP.take rfl rfl rfl rfl hS (fun wS hS1 => (by first | exact PV.fieldAddr T.fl27_0 rfl (by first | assumption | exact Bx.cells (by assumption)) | exact PV.fieldAddrP T.fl27_0 rfl rfl)) ?_
  refine HP.take rfl rfl rfl rfl hS (fun wS hS1 => (by first | exact PV.load0 T.na2 rfl (by first | exact Cells.up (by assumption) (hBr.trans hS1) | exact Bx.cells (Bx.updD (by assumption) hS1 (Dj.nlR _)) | exact Cells.upd (by assumption) hS1 (by simp)) (Ext.refl _) rfl | exact PV.load1 T.na2 rfl (by first | exact Cells.up (by assumption) (hBr.trans hS1) | exact Bx.cells (Bx.updD (by assumption) hS1 (Dj.nlR _)) | exact Cells.upd (by assumption) hS1 (by simp)) (Ext.refl _) rfl)) ?_
  refine HP.take rfl rfl rfl rfl hS (fun wS hS1 => PV.move rfl) ?_
  refine HP.take rfl rfl rfl rfl hS (fun wS hS1 => PV.nilCheck rfl) ?_
  refine HP.take rfl rfl rfl rfl hS (fun wS hS1 => (by first | exact PV.fieldAddr T.fl27_1 rfl (by first | assumption | exact Bx.cells (by assumption)) | exact PV.fieldAddrP T.fl27_1 rfl rfl)) ?_
  refine HP.take rfl rfl rfl rfl hS (fun wS hS1 => (by first | exact PV.load0 T.na22 rfl (by first | exact Cells.up (by assumption) (hBr.trans hS1) | exact Bx.cells (Bx.updD (by assumption) hS1 (Dj.nlR _)) | exact Cells.upd (by assumption) hS1 (by simp)) (Ext.refl _) rfl | exact PV.load1 T.na22 rfl (by first | exact Cells.up (by assumption) (hBr.trans hS1) | exact Bx.cells (Bx.updD (by assumption) hS1 (Dj.nlR _)) | exact Cells.upd (by assumption) hS1 (by simp)) (Ext.refl _) rfl)) ?_
  refine HP.fork rfl rfl rfl rfl ?_ ?_
  · skip
    refine (OpK.buildS VI (os := []) [] rfl T.sl22 rfl rfl T.zv2 rfl (by intro z _; rfl) rfl (fun v2 g2 w3 hXw3 ho2 hge2 => ?_))
    have hl2 := Lo.new hB hge2
    have hv2 := Lo.new hS hge2
    have hd1_2 := Dj.new hb1.ltO hge2
    refine ⟨Upd.trans hS hXw3, ?_⟩
    have hS := Upd.trans hS hXw3
    have hB := hB.trans hXw3
    have hb1 := hb1.up hXw3
    refine HP.fork rfl rfl rfl rfl ?_ ?_
    · skip
      refine (OpK.appendS (f := VI) rfl T.sl22 T.zv2 rfl rfl ho2 rfl (Rd.src (by first | assumption | exact Rd.up (by assumption) hB) (fun _ => rfl)) (by first | (simp only [List.length_cons, List.length_nil]; omega) | (simp_all; omega)) (fun v3 og3 w4 hXw4 ho3 hap3 => ?_))
      have hl3 := Lo.app hl2 hB hap3
      have hv3 := Lo.app hv2 hS hap3
      have hd1_3 := Dj.app hd1_2 hb1.ltO hap3
      refine ⟨Ext.updL hS hXw4 hv2, ?_⟩
      have hS := Ext.updL hS hXw4 hv2
      have hB := hB.updL hXw4 hl2
      have hb1 := hb1.updD hXw4 hd1_2
      refine HP.take rfl rfl rfl rfl hS (fun wS hS1 => PV.build (ks := [0, 1]) (os := [.tmp 19, .tmp 25]) (css := [[_], [_]]) (ds := [_, _]) T.bu27 rfl rfl ⟨(by first | rfl | exact Rd.cells1 (by assumption) | exact Osl.cells1 (by assumption) | exact Osn.cells1 (by assumption)), (by first | rfl | exact Rd.cells1 (by assumption) | exact Osl.cells1 (by assumption) | exact Osn.cells1 (by assumption)), trivial⟩ rfl) ?_
      refine HP.must rfl rfl (OpK.alloc rfl T.zv27 rfl (fun b4 w5 hXw5 hb4 hge4 => ?_))
      have hl4 := Lo.new hB hge4
      have hv4 := Lo.new hS hge4
      have hd1_4 := Dj.new hb1.ltO hge4
      have hd3_4 := Dj.new ho3.ltO hge4
      refine ⟨Upd.trans hS hXw5, ?_⟩
      have hS := Upd.trans hS hXw5
      have hB := hB.trans hXw5
      have hb1 := hb1.up hXw5
      have ho3 := ho3.up hXw5
      refine HP.must rfl rfl (OpK.storeA T.sz27 rfl rfl rfl rfl (by simp [Value.oneCell'] <;> first | done | (repeat' apply And.intro) <;> first | rfl | exact Osl.oneCell (by assumption) | exact Osn.oneCell (by assumption) | exact Rd.oneCell (by assumption) | assumption) hb4 (fun w6 hXw6 hb4 => ?_))
      refine ⟨Ext.updL hS hXw6 hv4, ?_⟩
      have hS := Ext.updL hS hXw6 hv4
      have hB := hB.updL hXw6 hl4
      have hb1 := hb1.updD hXw6 hd1_4
      have ho3 := ho3.updD hXw6 hd3_4
      refine HP.doneS ?_
      refine CW.seq ?_
      refine CW.seq ?_
      refine CW.reg ?_
      refine WL.pure rfl rfl rfl (PV.assign rfl) ?_
      refine WL.nilS ?_
      refine CW.block ?_
      have hlt1 := hb1.ltO
      have hlt3 := ho3.ltO
      have hlt4 := hb4.ltO
      refine CW.loop (σk := [(2, _), (4, _), (5, _)]) (fun ρ wz m => ∃ (v5 : Value) (og5 : Option Nat) (j : Nat), ρ = [(6, .int .i64 (j : Nat))] ∧ m = (a0 + 1).toNat - j ∧ UpdL [og3, (some b4.block)] w6 wz ∧ Osl VI wz og5 v5 (allT a0 j xa1) ∧ OgR w6 og3 og5 ∧ Bx wz b4 [.int .i64 a0, v5] ∧ ((j : Int) ≤ a0 + 1)) (ρ₀ := [(6, _)]) (m₀ := _) ⟨rfl, rfl, rfl, rfl, trivial⟩ ⟨v3, og3, 0, rfl, rfl, (UpdL.refl _ _), osE ho3 (by first | rfl | (simp; rfl)), OgR.refl _ _, bxE hb4 (by first | rfl | (simp_all; done) | (simp_all; omega)), (by first | omega | rfl | (simp; done) | assumption | (simp_all; done))⟩ ?_
      rintro _ wl1 _ ⟨v5, og5, j, rfl, rfl, hU0, ho5, ha5, hb4, hj⟩
      have hb1 := hb1.loop hU0 ⟨hd1_3, hd1_4, trivial⟩
      have hl5 := Lo.ogr hl3 hB ha5
      have hg0_5 := ha5
      have hk0_5 : OkB [og3, (some b4.block)] w6 og5 := OkB.ogr (OkB.mem (by simp)) (Nat.le_refl _) ha5
      have hd1_5 := Dj.ogr hd1_3 hlt1 ha5
      have hd4_5 := Dj.ogr (Dj.symm hd3_4) hlt4 ha5
      have hk0_4 : OkB [og3, (some b4.block)] w6 (some b4.block) := OkB.mem (by simp)
      have hB := hB.loop hU0 ⟨hl3, hl4, trivial⟩
      refine CW.seq ?_
      refine CW.seq ?_
      refine CW.reg ?_
      refine WL.pure rfl rfl rfl (PV.move rfl) ?_
      refine WL.pure rfl rfl rfl (PV.move rfl) ?_
      refine WL.pure rfl rfl rfl (PV.lss rfl rfl) ?_
      refine WL.nilS ?_
      refine CW.cond rfl (fun hc1 => ?_) (fun hc1 => ?_)
      · skip
        try simp only [decide_eq_true_eq, decide_eq_false_iff_not, Bool.not_eq_true', Bool.not_eq_false', Bool.not_eq_eq_eq_not, Bool.not_true, Bool.not_false, Int.not_lt, Int.not_le, Classical.not_not, beq_iff_eq, beq_eq_false_iff_ne] at hc1
        refine CW.skipS ?_
        refine CW.seq ?_
        refine CW.block ?_
        refine CW.seq ?_
        refine CW.reg ?_
        refine WL.pure rfl rfl rfl (PV.assign rfl) ?_
        refine WL.nilS ?_
        refine CW.block ?_
        have hlt1 := hb1.ltO
        have hlt4 := hb4.ltO
        have hlt5 := ho5.ltO
        refine CW.loop (σk := [(2, _), (4, _), (5, _), (6, _)]) (fun ρ wz m => ∃ (v7 : Value) (og7 : Option Nat) (i : Nat), ρ = [(7, .int .i64 (i : Nat))] ∧ m = (a0 + 1).toNat - i ∧ UpdL [og5, (some b4.block)] wl1 wz ∧ Osl VI wz og7 v7 (passT a0 j i (allT a0 j xa1)) ∧ OgR wl1 og5 og7 ∧ Bx wz b4 [.int .i64 a0, v7] ∧ ((i : Int) ≤ a0 + 1)) (ρ₀ := [(7, _)]) (m₀ := _) ⟨rfl, rfl, rfl, rfl, rfl, trivial⟩ ⟨v5, og5, 0, rfl, rfl, (UpdL.refl _ _), osE ho5 (by rfl), OgR.refl _ _, bxE hb4 (by first | rfl | (simp_all; done) | (simp_all; omega)), (by first | omega | rfl | (simp; done) | assumption | (simp_all; done))⟩ ?_
        rintro _ wl2 _ ⟨v7, og7, i, rfl, rfl, hU1, ho7, ha7, hb4, hi⟩
        have hU0 := hU0.trans hU1 ⟨hk0_5, hk0_4, trivial⟩
        have hb1 := hb1.loop hU1 ⟨hd1_5, hd1_4, trivial⟩
        have hl7 := Lo.ogr hl5 hB ha7
        have hg1_7 := ha7
        have hk1_7 : OkB [og5, (some b4.block)] wl1 og7 := OkB.ogr (OkB.mem (by simp)) (Nat.le_refl _) ha7
        have hk0_7 := OkB.ogr hk0_5 (by first | assumption | exact UpdL.size (by assumption)) ha7
        have hg0_7 := OgR.trans hg0_5 (by first | assumption | exact UpdL.size (by assumption)) ha7
        have hd1_7 := Dj.ogr hd1_5 hlt1 ha7
        have hd4_7 := Dj.ogr hd4_5 hlt4 ha7
        have hk1_4 : OkB [og5, (some b4.block)] wl1 (some b4.block) := OkB.mem (by simp)
        have hB := hB.loop hU1 ⟨hl5, hl4, trivial⟩
        refine CW.seq ?_
        refine CW.seq ?_
        refine CW.reg ?_
        refine WL.pure rfl rfl rfl (PV.move rfl) ?_
        refine WL.pure rfl rfl rfl (PV.move rfl) ?_
        refine WL.pure rfl rfl rfl (PV.lss rfl rfl) ?_
        refine WL.nilS ?_
        refine CW.cond rfl (fun hc2 => ?_) (fun hc2 => ?_)
        · skip
          try simp only [decide_eq_true_eq, decide_eq_false_iff_not, Bool.not_eq_true', Bool.not_eq_false', Bool.not_eq_eq_eq_not, Bool.not_true, Bool.not_false, Int.not_lt, Int.not_le, Classical.not_not, beq_iff_eq, beq_eq_false_iff_ne] at hc2
          refine CW.skipS ?_
          refine CW.seq ?_
          refine CW.block ?_
          refine CW.seq ?_
          refine CW.reg ?_
          refine WL.pure rfl rfl rfl (PV.assign rfl) ?_
          refine WL.nilS ?_
          refine CW.block ?_
          have hlt1 := hb1.ltO
          have hlt4 := hb4.ltO
          have hlt7 := ho7.ltO
          refine CW.loop (σk := [(2, _), (4, _), (5, _), (6, _), (7, _)]) (fun ρ wz m => ∃ (v9 : Value) (og9 : Option Nat) (k : Nat), ρ = [(8, .int .i64 (k : Nat))] ∧ m = (a0 + 1).toNat - k ∧ UpdL [og7, (some b4.block)] wl2 wz ∧ Osl VI wz og9 v9 (rowT a0 j i k (passT a0 j i (allT a0 j xa1))) ∧ OgR wl2 og7 og9 ∧ Bx wz b4 [.int .i64 a0, v9] ∧ ((k : Int) ≤ a0 + 1)) (ρ₀ := [(8, _)]) (m₀ := _) ⟨rfl, rfl, rfl, rfl, rfl, rfl, trivial⟩ ⟨v7, og7, 0, rfl, rfl, (UpdL.refl _ _), osE ho7 (by rfl), OgR.refl _ _, bxE hb4 (by first | rfl | (simp_all; done) | (simp_all; omega)), (by first | omega | rfl | (simp; done) | assumption | (simp_all; done))⟩ ?_
          rintro _ wl3 _ ⟨v9, og9, k, rfl, rfl, hU2, ho9, ha9, hb4, hk⟩
          have hU0 := hU0.trans hU2 ⟨hk0_7, hk0_4, trivial⟩
          have hU1 := hU1.trans hU2 ⟨hk1_7, hk1_4, trivial⟩
          have hb1 := hb1.loop hU2 ⟨hd1_7, hd1_4, trivial⟩
          have hl9 := Lo.ogr hl7 hB ha9
          have hg2_9 := ha9
          have hk2_9 : OkB [og7, (some b4.block)] wl2 og9 := OkB.ogr (OkB.mem (by simp)) (Nat.le_refl _) ha9
          have hk0_9 := OkB.ogr hk0_7 (by first | assumption | exact UpdL.size (by assumption)) ha9
          have hg0_9 := OgR.trans hg0_7 (by first | assumption | exact UpdL.size (by assumption)) ha9
          have hk1_9 := OkB.ogr hk1_7 (by first | assumption | exact UpdL.size (by assumption)) ha9
          have hg1_9 := OgR.trans hg1_7 (by first | assumption | exact UpdL.size (by assumption)) ha9
          have hd1_9 := Dj.ogr hd1_7 hlt1 ha9
          have hd4_9 := Dj.ogr hd4_7 hlt4 ha9
          have hk2_4 : OkB [og7, (some b4.block)] wl2 (some b4.block) := OkB.mem (by simp)
          have hB := hB.loop hU2 ⟨hl7, hl4, trivial⟩
          have hl0 : (rowT a0 j i k (passT a0 j i (allT a0 j xa1))).length = xa1.length := by rw [rowT_len, passT_len, allT_len]
          refine CW.seq ?_
          refine CW.seq ?_
          refine CW.reg ?_
          refine WL.pure rfl rfl rfl (PV.move rfl) ?_
          refine WL.pure rfl rfl rfl (PV.move rfl) ?_
          refine WL.pure rfl rfl rfl (PV.lss rfl rfl) ?_
          refine WL.nilS ?_
          refine CW.cond rfl (fun hc3 => ?_) (fun hc3 => ?_)
          · skip
            try simp only [decide_eq_true_eq, decide_eq_false_iff_not, Bool.not_eq_true', Bool.not_eq_false', Bool.not_eq_eq_eq_not, Bool.not_true, Bool.not_false, Int.not_lt, Int.not_le, Classical.not_not, beq_iff_eq, beq_eq_false_iff_ne] at hc3
            refine CW.skipS ?_
            refine CW.seq ?_
            refine CW.block ?_
            refine CW.seq ?_
            refine CW.reg ?_
            refine WL.pure rfl rfl rfl ((by first | exact PV.fieldAddr T.fl27_1 rfl (by first | assumption | exact Bx.cells (by assumption)) | exact PV.fieldAddrP T.fl27_1 rfl rfl)) ?_
            refine WL.pure rfl rfl rfl ((by first | exact PV.load0 T.na22 rfl (by first | exact Cells.up (by assumption) hB | exact Bx.cells (by assumption) | assumption) (Ext.refl _) rfl | exact PV.load1 T.na22 rfl (by first | exact Cells.up (by assumption) hB | exact Bx.cells (by assumption) | assumption) (Ext.refl _) rfl)) ?_
            refine WL.pure rfl rfl rfl (PV.move rfl) ?_
            refine WL.pure rfl rfl rfl (PV.move rfl) ?_
            refine WL.pure rfl rfl rfl (PV.mul rfl rfl (by constructor <;> (have hix := idx_lt (c := a0) (i := i) (k := j) (n := xa1.length) (by omega) (by omega) (by omega) (by omega); omega))) ?_
            refine WL.pure rfl rfl rfl (PV.move rfl) ?_
            refine WL.pure rfl rfl rfl (PV.add rfl rfl (by constructor <;> (have hix := idx_lt (c := a0) (i := i) (k := j) (n := xa1.length) (by omega) (by omega) (by omega) (by omega); omega))) ?_
            first
              | refine WL.atO (x := .tmp 43) (y := .tmp 48) (f := VI) (0) rfl rfl ho9 (by have hix := idx_lt (c := a0) (i := i) (k := j) (n := xa1.length) (by omega) (by omega) (by omega) (by omega); omega) (fun p1 hpp1 hcp1 => ?_)
              | refine WL.atOZ (x := .tmp 43) (y := .tmp 48) (f := VI) (0) rfl rfl ho9 (by have hix := idx_lt (c := a0) (i := i) (k := j) (n := xa1.length) (by omega) (by omega) (by omega) (by omega); omega) (fun p1 hpp1 hzp1 hcp1 => ?_)
            refine WL.pure rfl rfl rfl ((by first | exact PV.indexAddr hpp1 rfl rfl T.sl22 | exact PV.indexAddr hpp1 rfl (by rw [← hzp1]; rfl) T.sl22)) ?_
            refine WL.pure rfl rfl rfl ((by first | exact PV.load0 T.na2 rfl (by first | exact Cells.up (by assumption) hB | exact Bx.cells (by assumption) | assumption) (Ext.refl _) rfl | exact PV.load1 T.na2 rfl (by first | exact Cells.up (by assumption) hB | exact Bx.cells (by assumption) | assumption) (Ext.refl _) rfl)) ?_
            refine WL.pure rfl rfl rfl (PV.assign rfl) ?_
            refine WL.nilS ?_
            refine CW.seq ?_
            refine CW.reg ?_
            refine WL.pure rfl rfl rfl ((by first | exact PV.fieldAddr T.fl27_1 rfl (by first | assumption | exact Bx.cells (by assumption)) | exact PV.fieldAddrP T.fl27_1 rfl rfl)) ?_
            refine WL.pure rfl rfl rfl ((by first | exact PV.load0 T.na22 rfl (by first | exact Cells.up (by assumption) hB | exact Bx.cells (by assumption) | assumption) (Ext.refl _) rfl | exact PV.load1 T.na22 rfl (by first | exact Cells.up (by assumption) hB | exact Bx.cells (by assumption) | assumption) (Ext.refl _) rfl)) ?_
            refine WL.pure rfl rfl rfl (PV.move rfl) ?_
            refine WL.pure rfl rfl rfl (PV.move rfl) ?_
            refine WL.pure rfl rfl rfl (PV.mul rfl rfl (by constructor <;> (have hix := idx_lt (c := a0) (i := j) (k := k) (n := xa1.length) (by omega) (by omega) (by omega) (by omega); omega))) ?_
            refine WL.pure rfl rfl rfl (PV.move rfl) ?_
            refine WL.pure rfl rfl rfl (PV.add rfl rfl (by constructor <;> (have hix := idx_lt (c := a0) (i := j) (k := k) (n := xa1.length) (by omega) (by omega) (by omega) (by omega); omega))) ?_
            first
              | refine WL.atO (x := .tmp 52) (y := .tmp 57) (f := VI) (0) rfl rfl ho9 (by have hix := idx_lt (c := a0) (i := j) (k := k) (n := xa1.length) (by omega) (by omega) (by omega) (by omega); omega) (fun p2 hpp2 hcp2 => ?_)
              | refine WL.atOZ (x := .tmp 52) (y := .tmp 57) (f := VI) (0) rfl rfl ho9 (by have hix := idx_lt (c := a0) (i := j) (k := k) (n := xa1.length) (by omega) (by omega) (by omega) (by omega); omega) (fun p2 hpp2 hzp2 hcp2 => ?_)
            refine WL.pure rfl rfl rfl ((by first | exact PV.indexAddr hpp2 rfl rfl T.sl22 | exact PV.indexAddr hpp2 rfl (by rw [← hzp2]; rfl) T.sl22)) ?_
            refine WL.pure rfl rfl rfl ((by first | exact PV.load0 T.na2 rfl (by first | exact Cells.up (by assumption) hB | exact Bx.cells (by assumption) | assumption) (Ext.refl _) rfl | exact PV.load1 T.na2 rfl (by first | exact Cells.up (by assumption) hB | exact Bx.cells (by assumption) | assumption) (Ext.refl _) rfl)) ?_
            refine WL.pure rfl rfl rfl (PV.assign rfl) ?_
            refine WL.nilS ?_
            refine CW.seq ?_
            refine CW.reg ?_
            refine WL.pure rfl rfl rfl (PV.move rfl) ?_
            refine WL.pure rfl rfl rfl (PV.neq rfl rfl) ?_
            refine WL.pure rfl rfl rfl (PV.move rfl) ?_
            refine WL.split (t := 62) rfl (fun hc4 => ?_) (fun hc4 => ?_)
            rotate_left
            · skip
              try simp only [decide_eq_true_eq, decide_eq_false_iff_not, Bool.not_eq_true', Bool.not_eq_false', Bool.not_eq_eq_eq_not, Bool.not_true, Bool.not_false, Int.not_lt, Int.not_le, Classical.not_not, beq_iff_eq, beq_eq_false_iff_ne] at hc4
              refine WL.skip rfl rfl rfl rfl rfl ?_
              refine WL.skip rfl rfl rfl rfl rfl ?_
              refine WL.pure rfl rfl rfl (PV.pickF rfl rfl) ?_
              refine WL.pure rfl rfl rfl (PV.move rfl) ?_
              refine WL.skip rfl rfl rfl rfl rfl ?_
              refine WL.skip rfl rfl rfl rfl rfl ?_
              refine WL.skip rfl rfl rfl rfl rfl ?_
              refine WL.skip rfl rfl rfl rfl rfl ?_
              refine WL.skip rfl rfl rfl rfl rfl ?_
              refine WL.skip rfl rfl rfl rfl rfl ?_
              refine WL.skip rfl rfl rfl rfl rfl ?_
              refine WL.skip rfl rfl rfl rfl rfl ?_
              refine WL.skip rfl rfl rfl rfl rfl ?_
              refine WL.skip rfl rfl rfl rfl rfl ?_
              refine WL.skip rfl rfl rfl rfl rfl ?_
              refine WL.skip rfl rfl rfl rfl rfl ?_
              refine WL.skip rfl rfl rfl rfl rfl ?_
              refine WL.pure rfl rfl rfl (PV.pickF rfl rfl) ?_
              refine WL.nilS ?_
              refine CW.condF rfl ?_
              refine CW.skip ?_
              refine NQ.block ?_
              refine NQ.then ?_
              refine CW.reg ?_
              refine WL.pure rfl rfl rfl (PV.move rfl) ?_
              refine WL.pure rfl rfl rfl (PV.add rfl rfl (by constructor <;> omega)) ?_
              refine WL.pure rfl rfl rfl (PV.assign rfl) ?_
              refine WL.nil ?_
              refine NQ.next (ρ := [(8, _)]) ⟨rfl, rfl, rfl, rfl, rfl, rfl, trivial⟩ ?_
              exact ⟨_, ⟨v9, og9, k + 1, rfl, rfl, hU2, osE ho9 (by first | exact stepT_yes (by assumption) (by assumption) (by assumption) | exact stepT_n1 (by simp only [zat]; omega) | exact stepT_n2 (by simp only [zat]; omega) | exact stepT_n3 (by simp only [zat]; omega)), (by first | exact hg2_9 | exact OgR.weak hg2_9), bxE hb4 (by first | rfl | (simp_all; done) | (simp_all; omega)), (by first | omega | assumption | (simp_all; done) | (simp_all; omega))⟩, by omega⟩
            try simp only [decide_eq_true_eq, decide_eq_false_iff_not, Bool.not_eq_true', Bool.not_eq_false', Bool.not_eq_eq_eq_not, Bool.not_true, Bool.not_false, Int.not_lt, Int.not_le, Classical.not_not, beq_iff_eq, beq_eq_false_iff_ne] at hc4
            refine WL.pureG rfl rfl rfl rfl rfl (PV.move rfl) ?_
            refine WL.pureG rfl rfl rfl rfl rfl (PV.neq rfl rfl) ?_
            refine WL.pure rfl rfl rfl (PV.pickT rfl rfl) ?_
            refine WL.pure rfl rfl rfl (PV.move rfl) ?_
            refine WL.split (t := 66) rfl (fun hc5 => ?_) (fun hc5 => ?_)
            rotate_left
            · skip
              try simp only [decide_eq_true_eq, decide_eq_false_iff_not, Bool.not_eq_true', Bool.not_eq_false', Bool.not_eq_eq_eq_not, Bool.not_true, Bool.not_false, Int.not_lt, Int.not_le, Classical.not_not, beq_iff_eq, beq_eq_false_iff_ne] at hc5
              refine WL.skip rfl rfl rfl rfl rfl ?_
              refine WL.skip rfl rfl rfl rfl rfl ?_
              refine WL.skip rfl rfl rfl rfl rfl ?_
              refine WL.skip rfl rfl rfl rfl rfl ?_
              refine WL.skip rfl rfl rfl rfl rfl ?_
              refine WL.skip rfl rfl rfl rfl rfl ?_
              refine WL.skip rfl rfl rfl rfl rfl ?_
              refine WL.skip rfl rfl rfl rfl rfl ?_
              refine WL.skip rfl rfl rfl rfl rfl ?_
              refine WL.skip rfl rfl rfl rfl rfl ?_
              refine WL.skip rfl rfl rfl rfl rfl ?_
              refine WL.skip rfl rfl rfl rfl rfl ?_
              refine WL.skip rfl rfl rfl rfl rfl ?_
              refine WL.pure rfl rfl rfl (PV.pickF rfl rfl) ?_
              refine WL.nilS ?_
              refine CW.condF rfl ?_
              refine CW.skip ?_
              refine NQ.block ?_
              refine NQ.then ?_
              refine CW.reg ?_
              refine WL.pure rfl rfl rfl (PV.move rfl) ?_
              refine WL.pure rfl rfl rfl (PV.add rfl rfl (by constructor <;> omega)) ?_
              refine WL.pure rfl rfl rfl (PV.assign rfl) ?_
              refine WL.nil ?_
              refine NQ.next (ρ := [(8, _)]) ⟨rfl, rfl, rfl, rfl, rfl, rfl, trivial⟩ ?_
              exact ⟨_, ⟨v9, og9, k + 1, rfl, rfl, hU2, osE ho9 (by first | exact stepT_yes (by assumption) (by assumption) (by assumption) | exact stepT_n1 (by simp only [zat]; omega) | exact stepT_n2 (by simp only [zat]; omega) | exact stepT_n3 (by simp only [zat]; omega)), (by first | exact hg2_9 | exact OgR.weak hg2_9), bxE hb4 (by first | rfl | (simp_all; done) | (simp_all; omega)), (by first | omega | assumption | (simp_all; done) | (simp_all; omega))⟩, by omega⟩
            try simp only [decide_eq_true_eq, decide_eq_false_iff_not, Bool.not_eq_true', Bool.not_eq_false', Bool.not_eq_eq_eq_not, Bool.not_true, Bool.not_false, Int.not_lt, Int.not_le, Classical.not_not, beq_iff_eq, beq_eq_false_iff_ne] at hc5
            refine WL.pureG rfl rfl rfl rfl rfl (PV.move rfl) ?_
            refine WL.pureG rfl rfl rfl rfl rfl (PV.move rfl) ?_
            refine WL.pureG rfl rfl rfl rfl rfl (PV.addW rfl rfl) ?_
            refine WL.pureG rfl rfl rfl rfl rfl ((by first | exact PV.fieldAddr T.fl27_1 rfl (by first | assumption | exact Bx.cells (by assumption)) | exact PV.fieldAddrP T.fl27_1 rfl rfl)) ?_
            refine WL.pureG rfl rfl rfl rfl rfl ((by first | exact PV.load0 T.na22 rfl (by first | exact Cells.up (by assumption) hB | exact Bx.cells (by assumption) | assumption) (Ext.refl _) rfl | exact PV.load1 T.na22 rfl (by first | exact Cells.up (by assumption) hB | exact Bx.cells (by assumption) | assumption) (Ext.refl _) rfl)) ?_
            refine WL.pureG rfl rfl rfl rfl rfl (PV.move rfl) ?_
            refine WL.pureG rfl rfl rfl rfl rfl (PV.move rfl) ?_
            refine WL.pureG rfl rfl rfl rfl rfl (PV.mul rfl rfl (by constructor <;> (have hix := idx_lt (c := a0) (i := i) (k := k) (n := xa1.length) (by omega) (by omega) (by omega) (by omega); omega))) ?_
            refine WL.pureG rfl rfl rfl rfl rfl (PV.move rfl) ?_
            refine WL.pureG rfl rfl rfl rfl rfl (PV.add rfl rfl (by constructor <;> (have hix := idx_lt (c := a0) (i := i) (k := k) (n := xa1.length) (by omega) (by omega) (by omega) (by omega); omega))) ?_
            first
              | refine WL.atO (x := .tmp 71) (y := .tmp 76) (f := VI) (0) rfl rfl ho9 (by have hix := idx_lt (c := a0) (i := i) (k := k) (n := xa1.length) (by omega) (by omega) (by omega) (by omega); omega) (fun p3 hpp3 hcp3 => ?_)
              | refine WL.atOZ (x := .tmp 71) (y := .tmp 76) (f := VI) (0) rfl rfl ho9 (by have hix := idx_lt (c := a0) (i := i) (k := k) (n := xa1.length) (by omega) (by omega) (by omega) (by omega); omega) (fun p3 hpp3 hzp3 hcp3 => ?_)
            refine WL.pureG rfl rfl rfl rfl rfl ((by first | exact PV.indexAddr hpp3 rfl rfl T.sl22 | exact PV.indexAddr hpp3 rfl (by rw [← hzp3]; rfl) T.sl22)) ?_
            refine WL.pureG rfl rfl rfl rfl rfl ((by first | exact PV.load0 T.na2 rfl (by first | exact Cells.up (by assumption) hB | exact Bx.cells (by assumption) | assumption) (Ext.refl _) rfl | exact PV.load1 T.na2 rfl (by first | exact Cells.up (by assumption) hB | exact Bx.cells (by assumption) | assumption) (Ext.refl _) rfl)) ?_
            refine WL.pureG rfl rfl rfl rfl rfl (PV.lss rfl rfl) ?_
            refine WL.pure rfl rfl rfl (PV.pickT rfl rfl) ?_
            refine WL.nilS ?_
            refine CW.cond rfl (fun hc6 => ?_) (fun hc6 => ?_)
            · skip
              try simp only [decide_eq_true_eq, decide_eq_false_iff_not, Bool.not_eq_true', Bool.not_eq_false', Bool.not_eq_eq_eq_not, Bool.not_true, Bool.not_false, Int.not_lt, Int.not_le, Classical.not_not, beq_iff_eq, beq_eq_false_iff_ne] at hc6
              refine CW.reg ?_
              refine WL.pure rfl rfl rfl ((by first | exact PV.fieldAddr T.fl27_1 rfl (by first | assumption | exact Bx.cells (by assumption)) | exact PV.fieldAddrP T.fl27_1 rfl rfl)) ?_
              refine WL.pure rfl rfl rfl ((by first | exact PV.load0 T.na22 rfl (by first | exact Cells.up (by assumption) hB | exact Bx.cells (by assumption) | assumption) (Ext.refl _) rfl | exact PV.load1 T.na22 rfl (by first | exact Cells.up (by assumption) hB | exact Bx.cells (by assumption) | assumption) (Ext.refl _) rfl)) ?_
              refine WL.pure rfl rfl rfl (PV.move rfl) ?_
              refine WL.pure rfl rfl rfl (PV.move rfl) ?_
              refine WL.pure rfl rfl rfl (PV.mul rfl rfl (by constructor <;> (have hix := idx_lt (c := a0) (i := i) (k := k) (n := xa1.length) (by omega) (by omega) (by omega) (by omega); omega))) ?_
              refine WL.pure rfl rfl rfl (PV.move rfl) ?_
              refine WL.pure rfl rfl rfl (PV.add rfl rfl (by constructor <;> (have hix := idx_lt (c := a0) (i := i) (k := k) (n := xa1.length) (by omega) (by omega) (by omega) (by omega); omega))) ?_
              refine WL.pure rfl rfl rfl (PV.move rfl) ?_
              refine WL.pure rfl rfl rfl (PV.move rfl) ?_
              refine WL.pure rfl rfl rfl (PV.addW rfl rfl) ?_
              first
                | refine WL.atO (x := .tmp 82) (y := .tmp 87) (f := VI) (0) rfl rfl ho9 (by have hix := idx_lt (c := a0) (i := i) (k := k) (n := xa1.length) (by omega) (by omega) (by omega) (by omega); omega) (fun p4 hpp4 hcp4 => ?_)
                | refine WL.atOZ (x := .tmp 82) (y := .tmp 87) (f := VI) (0) rfl rfl ho9 (by have hix := idx_lt (c := a0) (i := i) (k := k) (n := xa1.length) (by omega) (by omega) (by omega) (by omega); omega) (fun p4 hpp4 hzp4 hcp4 => ?_)
              refine WL.pure rfl rfl rfl ((by first | exact PV.indexAddr hpp4 rfl rfl T.sl22 | exact PV.indexAddr hpp4 rfl (by rw [← hzp4]; rfl) T.sl22)) ?_
              refine WL.op rfl (OpK.storeS VI T.sz2 rfl rfl rfl hpp4 ho9 (fun w7 hXw7 ho9 => ?_))
              have hB := hB.updL hXw7 hl9
              have hb1 := hb1.updD hXw7 hd1_9
              have hb4 := hb4.updD hXw7 hd4_9
              have hU0 := hU0.step hXw7 hk0_9
              have hU1 := hU1.step hXw7 hk1_9
              have hU2 := hU2.step hXw7 hk2_9
              refine WL.nil ?_
              refine NQ.block ?_
              refine NQ.then ?_
              refine CW.reg ?_
              refine WL.pure rfl rfl rfl (PV.move rfl) ?_
              refine WL.pure rfl rfl rfl (PV.add rfl rfl (by constructor <;> omega)) ?_
              refine WL.pure rfl rfl rfl (PV.assign rfl) ?_
              refine WL.nil ?_
              refine NQ.next (ρ := [(8, _)]) ⟨rfl, rfl, rfl, rfl, rfl, rfl, trivial⟩ ?_
              exact ⟨_, ⟨v9, og9, k + 1, rfl, rfl, hU2, osE ho9 (by first | exact stepT_yes (by assumption) (by assumption) (by assumption) | exact stepT_n1 (by simp only [zat]; omega) | exact stepT_n2 (by simp only [zat]; omega) | exact stepT_n3 (by simp only [zat]; omega)), (by first | exact hg2_9 | exact OgR.weak hg2_9), bxE hb4 (by first | rfl | (simp_all; done) | (simp_all; omega)), (by first | omega | assumption | (simp_all; done) | (simp_all; omega))⟩, by omega⟩
            try simp only [decide_eq_true_eq, decide_eq_false_iff_not, Bool.not_eq_true', Bool.not_eq_false', Bool.not_eq_eq_eq_not, Bool.not_true, Bool.not_false, Int.not_lt, Int.not_le, Classical.not_not, beq_iff_eq, beq_eq_false_iff_ne] at hc6
            refine CW.skip ?_
            refine NQ.block ?_
            refine NQ.then ?_
            refine CW.reg ?_
            refine WL.pure rfl rfl rfl (PV.move rfl) ?_
            refine WL.pure rfl rfl rfl (PV.add rfl rfl (by constructor <;> omega)) ?_
            refine WL.pure rfl rfl rfl (PV.assign rfl) ?_
            refine WL.nil ?_
            refine NQ.next (ρ := [(8, _)]) ⟨rfl, rfl, rfl, rfl, rfl, rfl, trivial⟩ ?_
            exact ⟨_, ⟨v9, og9, k + 1, rfl, rfl, hU2, osE ho9 (by first | exact stepT_yes (by assumption) (by assumption) (by assumption) | exact stepT_n1 (by simp only [zat]; omega) | exact stepT_n2 (by simp only [zat]; omega) | exact stepT_n3 (by simp only [zat]; omega)), (by first | exact hg2_9 | exact OgR.weak hg2_9), bxE hb4 (by first | rfl | (simp_all; done) | (simp_all; omega)), (by first | omega | assumption | (simp_all; done) | (simp_all; omega))⟩, by omega⟩
          try simp only [decide_eq_true_eq, decide_eq_false_iff_not, Bool.not_eq_true', Bool.not_eq_false', Bool.not_eq_eq_eq_not, Bool.not_true, Bool.not_false, Int.not_lt, Int.not_le, Classical.not_not, beq_iff_eq, beq_eq_false_iff_ne] at hc3
          refine CW.exit ?_
          refine XQ.then ?_
          refine XQ.then ?_
          refine XQ.here ?_
          refine NQ.block ?_
          refine NQ.then ?_
          refine CW.reg ?_
          refine WL.pure rfl rfl rfl (PV.move rfl) ?_
          refine WL.pure rfl rfl rfl (PV.add rfl rfl (by constructor <;> omega)) ?_
          refine WL.pure rfl rfl rfl (PV.assign rfl) ?_
          refine WL.nil ?_
          refine NQ.next (ρ := [(7, _)]) ⟨rfl, rfl, rfl, rfl, rfl, trivial⟩ ?_
          exact ⟨_, ⟨v9, og9, i + 1, rfl, rfl, hU1, osE ho9 (by exact passT_succ (by omega)), (by first | exact hg1_9 | exact OgR.weak hg1_9), bxE hb4 (by first | rfl | (simp_all; done) | (simp_all; omega)), (by first | omega | assumption | (simp_all; done) | (simp_all; omega))⟩, by omega⟩
        try simp only [decide_eq_true_eq, decide_eq_false_iff_not, Bool.not_eq_true', Bool.not_eq_false', Bool.not_eq_eq_eq_not, Bool.not_true, Bool.not_false, Int.not_lt, Int.not_le, Classical.not_not, beq_iff_eq, beq_eq_false_iff_ne] at hc2
        refine CW.exit ?_
        refine XQ.then ?_
        refine XQ.then ?_
        refine XQ.here ?_
        refine NQ.block ?_
        refine NQ.then ?_
        refine CW.reg ?_
        refine WL.pure rfl rfl rfl (PV.move rfl) ?_
        refine WL.pure rfl rfl rfl (PV.add rfl rfl (by constructor <;> omega)) ?_
        refine WL.pure rfl rfl rfl (PV.assign rfl) ?_
        refine WL.nil ?_
        refine NQ.next (ρ := [(6, _)]) ⟨rfl, rfl, rfl, rfl, trivial⟩ ?_
        exact ⟨_, ⟨v7, og7, j + 1, rfl, rfl, hU0, osE ho7 (by exact allT_succ (by omega)), (by first | exact hg0_7 | exact OgR.weak hg0_7), bxE hb4 (by first | rfl | (simp_all; done) | (simp_all; omega)), (by first | omega | assumption | (simp_all; done) | (simp_all; omega))⟩, by omega⟩
      try simp only [decide_eq_true_eq, decide_eq_false_iff_not, Bool.not_eq_true', Bool.not_eq_false', Bool.not_eq_eq_eq_not, Bool.not_true, Bool.not_false, Int.not_lt, Int.not_le, Classical.not_not, beq_iff_eq, beq_eq_false_iff_ne] at hc1
      refine CW.exit ?_
      refine XQ.then ?_
      refine XQ.then ?_
      refine XQ.here ?_
      refine NQ.then ?_
      refine CW.seq ?_
      refine CW.seq ?_
      refine CW.reg ?_
      obtain rfl : j = (a0 + 1).toNat := (by omega)
      refine WL.op rfl (OpK.callR rfl T.cf64 rfl (c_spec_l07Zone (by first | exact Bx.cells (by assumption) | exact Cells.up (by assumption) hB | assumption) (by first | assumption | exact Rd.up (by assumption) hB | exact Osl.rd (by assumption) | exact Osn.rdR (by assumption))) (fun w8 hXw8 => ?_))
      have hB := hB.trans hXw8
      have hb1 := hb1.up hXw8
      have hb4 := hb4.up hXw8
      have ho5 := ho5.up hXw8
      refine WL.pure rfl rfl rfl (PV.not rfl) ?_
      refine WL.nilS ?_
      refine CW.cond rfl (fun hc7 => ?_) (fun hc7 => ?_)
      · skip
        try simp only [decide_eq_true_eq, decide_eq_false_iff_not, Bool.not_eq_true', Bool.not_eq_false', Bool.not_eq_eq_eq_not, Bool.not_true, Bool.not_false, Int.not_lt, Int.not_le, Classical.not_not, beq_iff_eq, beq_eq_false_iff_ne] at hc7
        refine CW.seq ?_
        refine CW.reg ?_
        refine WL.pure rfl rfl rfl (PV.build (ks := []) (os := []) (css := []) (ds := [_, _]) T.bu27 rfl rfl trivial rfl) ?_
        refine WL.op rfl (OpK.storeA T.sz27 rfl rfl rfl rfl (by simp [Value.oneCell'] <;> first | done | (repeat' apply And.intro) <;> first | rfl | exact Osl.oneCell (by assumption) | exact Osn.oneCell (by assumption) | exact Rd.oneCell (by assumption) | assumption) hb1 (fun w9 hXw9 hb1 => ?_))
        have hB := hB.updL hXw9 hl1
        have hb4 := hb4.updD hXw9 (Dj.symm hd1_4)
        have ho5 := ho5.updD hXw9 (Dj.symm hd1_5)
        refine WL.pure rfl rfl rfl (PV.assign rfl) ?_
        refine WL.nilS ?_
        refine CW.ret ?_
        refine RQ.then ?_
        refine RQ.rc1 T.ag27 rfl (by first | exact Cells.up (by assumption) hB | exact Bx.cells (by assumption) | assumption) rfl rfl ?_
        refine ⟨hB, (.slice none 0 0), none, ?_, osE (Osl.nil _ _) ?_, Lo.nl _⟩
        · skip
          first | (exact tE2 (by rw [onI_no (by first | exact tightB_n1 (by assumption) | exact tightB_n2 (by unfold tightL; assumption))]) (bE (Bool.eq_false_iff.2 (by first | exact tightB_n1 (by assumption) | exact tightB_n2 (by unfold tightL; assumption))).symm)) | (exact tE2 (by rw [onI_no (by first | exact tightB_n1 (by assumption) | exact tightB_n2 (by unfold tightL; assumption))]; rfl) (bE (Bool.eq_false_iff.2 (by first | exact tightB_n1 (by assumption) | exact tightB_n2 (by unfold tightL; assumption))).symm)) | (exact tE2 (by rw [onI_yes (tightB_yes (by assumption) (by unfold tightL; assumption))]) (bE (tightB_yes (by assumption) (by unfold tightL; assumption)).symm)) | (exact tE2 (by rw [onI_yes (tightB_yes (by assumption) (by unfold tightL; assumption))]; rfl) (bE (tightB_yes (by assumption) (by unfold tightL; assumption)).symm))
        · skip
          first | (rw [onT_no (by first | exact tightB_n1 (by assumption) | exact tightB_n2 (by unfold tightL; assumption))]; done) | (rw [onT_yes (tightB_yes (by assumption) (by unfold tightL; assumption))]; first | done | rfl)
      try simp only [decide_eq_true_eq, decide_eq_false_iff_not, Bool.not_eq_true', Bool.not_eq_false', Bool.not_eq_eq_eq_not, Bool.not_true, Bool.not_false, Int.not_lt, Int.not_le, Classical.not_not, beq_iff_eq, beq_eq_false_iff_ne] at hc7
      refine CW.skipS ?_
      refine CW.seq ?_
      refine CW.reg ?_
      refine WL.pure rfl rfl rfl ((by first | exact PV.loadA T.ag27 rfl (by first | exact Cells.up (by assumption) hB | exact Bx.cells (by assumption) | assumption) (Ext.refl _) rfl | exact PV.loadP (ds := [_, _]) T.ag27 rfl (by first | exact Cells.up (by assumption) hB | exact Bx.cells (by assumption) | assumption) (Ext.refl _) rfl rfl)) ?_
      refine WL.op rfl (OpK.storeA T.sz27 rfl rfl rfl rfl (by simp [Value.oneCell'] <;> first | done | (repeat' apply And.intro) <;> first | rfl | exact Osl.oneCell (by assumption) | exact Osn.oneCell (by assumption) | exact Rd.oneCell (by assumption) | assumption) hb1 (fun w10 hXw10 hb1 => ?_))
      have hB := hB.updL hXw10 hl1
      have hb4 := hb4.updD hXw10 (Dj.symm hd1_4)
      have ho5 := ho5.updD hXw10 (Dj.symm hd1_5)
      refine WL.pure rfl rfl rfl (PV.assign rfl) ?_
      refine WL.nilS ?_
      refine CW.ret ?_
      refine RQ.rc1 T.ag27 rfl (by first | exact Cells.up (by assumption) hB | exact Bx.cells (by assumption) | assumption) rfl rfl ?_
      refine ⟨hB, v5, og5, ?_, osE ho5 ?_, hl5⟩
      · skip
        first | (exact tE2 (by rw [onI_no (by first | exact tightB_n1 (by assumption) | exact tightB_n2 (by unfold tightL; assumption))]) (bE (Bool.eq_false_iff.2 (by first | exact tightB_n1 (by assumption) | exact tightB_n2 (by unfold tightL; assumption))).symm)) | (exact tE2 (by rw [onI_no (by first | exact tightB_n1 (by assumption) | exact tightB_n2 (by unfold tightL; assumption))]; rfl) (bE (Bool.eq_false_iff.2 (by first | exact tightB_n1 (by assumption) | exact tightB_n2 (by unfold tightL; assumption))).symm)) | (exact tE2 (by rw [onI_yes (tightB_yes (by assumption) (by unfold tightL; assumption))]) (bE (tightB_yes (by assumption) (by unfold tightL; assumption)).symm)) | (exact tE2 (by rw [onI_yes (tightB_yes (by assumption) (by unfold tightL; assumption))]; rfl) (bE (tightB_yes (by assumption) (by unfold tightL; assumption)).symm))
      · skip
        first | (rw [onT_no (by first | exact tightB_n1 (by assumption) | exact tightB_n2 (by unfold tightL; assumption))]; done) | (rw [onT_yes (tightB_yes (by assumption) (by unfold tightL; assumption))]; first | done | rfl)
    · skip
      refine (OpK.alloc rfl T.zv27 rfl (fun b11 w11 hXw11 hb11 hge11 => ?_))
      have hl11 := Lo.new hB hge11
      have hv11 := Lo.new hS hge11
      have hd1_11 := Dj.new hb1.ltO hge11
      have hd2_11 := Dj.new ho2.ltO hge11
      refine ⟨Upd.trans hS hXw11, ?_⟩
      have hS := Upd.trans hS hXw11
      have hB := hB.trans hXw11
      have hb1 := hb1.up hXw11
      have ho2 := ho2.up hXw11
      refine HP.must rfl rfl (OpK.appendS (f := VI) rfl T.sl22 T.zv2 rfl rfl ho2 rfl (Rd.src (by first | assumption | exact Rd.up (by assumption) hB) (fun _ => rfl)) (by first | (simp only [List.length_cons, List.length_nil]; omega) | (simp_all; omega)) (fun v12 og12 w12 hXw12 ho12 hap12 => ?_))
      have hl12 := Lo.app hl2 hB hap12
      have hv12 := Lo.app hv2 hS hap12
      have hd1_12 := Dj.app hd1_2 hb1.ltO hap12
      have hd11_12 := Dj.app (Dj.symm hd2_11) hb11.ltO hap12
      refine ⟨Ext.updL hS hXw12 hv2, ?_⟩
      have hS := Ext.updL hS hXw12 hv2
      have hB := hB.updL hXw12 hl2
      have hb1 := hb1.updD hXw12 hd1_2
      have hb11 := hb11.updD hXw12 (Dj.symm hd2_11)
      refine HP.take rfl rfl rfl rfl hS (fun wS hS1 => PV.build (ks := [0, 1]) (os := [.tmp 19, .tmp 25]) (css := [[_], [_]]) (ds := [_, _]) T.bu27 rfl rfl ⟨(by first | rfl | exact Rd.cells1 (by assumption) | exact Osl.cells1 (by assumption) | exact Osn.cells1 (by assumption)), (by first | rfl | exact Rd.cells1 (by assumption) | exact Osl.cells1 (by assumption) | exact Osn.cells1 (by assumption)), trivial⟩ rfl) ?_
      refine HP.must rfl rfl (OpK.storeA T.sz27 rfl rfl rfl rfl (by simp [Value.oneCell'] <;> first | done | (repeat' apply And.intro) <;> first | rfl | exact Osl.oneCell (by assumption) | exact Osn.oneCell (by assumption) | exact Rd.oneCell (by assumption) | assumption) hb11 (fun w13 hXw13 hb11 => ?_))
      refine ⟨Ext.updL hS hXw13 hv11, ?_⟩
      have hS := Ext.updL hS hXw13 hv11
      have hB := hB.updL hXw13 hl11
      have hb1 := hb1.updD hXw13 hd1_11
      have ho12 := ho12.updD hXw13 (Dj.symm hd11_12)
      refine HP.doneS ?_
      refine CW.seq ?_
      refine CW.seq ?_
      refine CW.reg ?_
      refine WL.pure rfl rfl rfl (PV.assign rfl) ?_
      refine WL.nilS ?_
      refine CW.block ?_
      have hlt1 := hb1.ltO
      have hlt11 := hb11.ltO
      have hlt12 := ho12.ltO
      refine CW.loop (σk := [(2, _), (4, _), (5, _)]) (fun ρ wz m => ∃ (v13 : Value) (og13 : Option Nat) (j : Nat), ρ = [(6, .int .i64 (j : Nat))] ∧ m = (a0 + 1).toNat - j ∧ UpdL [og12, (some b11.block)] w13 wz ∧ Osl VI wz og13 v13 (allT a0 j xa1) ∧ OgR w13 og12 og13 ∧ Bx wz b11 [.int .i64 a0, v13] ∧ ((j : Int) ≤ a0 + 1)) (ρ₀ := [(6, _)]) (m₀ := _) ⟨rfl, rfl, rfl, rfl, trivial⟩ ⟨v12, og12, 0, rfl, rfl, (UpdL.refl _ _), osE ho12 (by first | rfl | (simp; rfl)), OgR.refl _ _, bxE hb11 (by first | rfl | (simp_all; done) | (simp_all; omega)), (by first | omega | rfl | (simp; done) | assumption | (simp_all; done))⟩ ?_
      rintro _ wl4 _ ⟨v13, og13, j, rfl, rfl, hU0, ho13, ha13, hb11, hj⟩
      have hb1 := hb1.loop hU0 ⟨hd1_12, hd1_11, trivial⟩
      have hl13 := Lo.ogr hl12 hB ha13
      have hg0_13 := ha13
      have hk0_13 : OkB [og12, (some b11.block)] w13 og13 := OkB.ogr (OkB.mem (by simp)) (Nat.le_refl _) ha13
      have hd1_13 := Dj.ogr hd1_12 hlt1 ha13
      have hd11_13 := Dj.ogr hd11_12 hlt11 ha13
      have hk0_11 : OkB [og12, (some b11.block)] w13 (some b11.block) := OkB.mem (by simp)
      have hB := hB.loop hU0 ⟨hl12, hl11, trivial⟩
      refine CW.seq ?_
      refine CW.seq ?_
      refine CW.reg ?_
      refine WL.pure rfl rfl rfl (PV.move rfl) ?_
      refine WL.pure rfl rfl rfl (PV.move rfl) ?_
      refine WL.pure rfl rfl rfl (PV.lss rfl rfl) ?_
      refine WL.nilS ?_
      refine CW.cond rfl (fun hc8 => ?_) (fun hc8 => ?_)
      · skip
        try simp only [decide_eq_true_eq, decide_eq_false_iff_not, Bool.not_eq_true', Bool.not_eq_false', Bool.not_eq_eq_eq_not, Bool.not_true, Bool.not_false, Int.not_lt, Int.not_le, Classical.not_not, beq_iff_eq, beq_eq_false_iff_ne] at hc8
        refine CW.skipS ?_
        refine CW.seq ?_
        refine CW.block ?_
        refine CW.seq ?_
        refine CW.reg ?_
        refine WL.pure rfl rfl rfl (PV.assign rfl) ?_
        refine WL.nilS ?_
        refine CW.block ?_
        have hlt1 := hb1.ltO
        have hlt11 := hb11.ltO
        have hlt13 := ho13.ltO
        refine CW.loop (σk := [(2, _), (4, _), (5, _), (6, _)]) (fun ρ wz m => ∃ (v15 : Value) (og15 : Option Nat) (i : Nat), ρ = [(7, .int .i64 (i : Nat))] ∧ m = (a0 + 1).toNat - i ∧ UpdL [og13, (some b11.block)] wl4 wz ∧ Osl VI wz og15 v15 (passT a0 j i (allT a0 j xa1)) ∧ OgR wl4 og13 og15 ∧ Bx wz b11 [.int .i64 a0, v15] ∧ ((i : Int) ≤ a0 + 1)) (ρ₀ := [(7, _)]) (m₀ := _) ⟨rfl, rfl, rfl, rfl, rfl, trivial⟩ ⟨v13, og13, 0, rfl, rfl, (UpdL.refl _ _), osE ho13 (by rfl), OgR.refl _ _, bxE hb11 (by first | rfl | (simp_all; done) | (simp_all; omega)), (by first | omega | rfl | (simp; done) | assumption | (simp_all; done))⟩ ?_
        rintro _ wl5 _ ⟨v15, og15, i, rfl, rfl, hU1, ho15, ha15, hb11, hi⟩
        have hU0 := hU0.trans hU1 ⟨hk0_13, hk0_11, trivial⟩
        have hb1 := hb1.loop hU1 ⟨hd1_13, hd1_11, trivial⟩
        have hl15 := Lo.ogr hl13 hB ha15
        have hg1_15 := ha15
        have hk1_15 : OkB [og13, (some b11.block)] wl4 og15 := OkB.ogr (OkB.mem (by simp)) (Nat.le_refl _) ha15
        have hk0_15 := OkB.ogr hk0_13 (by first | assumption | exact UpdL.size (by assumption)) ha15
        have hg0_15 := OgR.trans hg0_13 (by first | assumption | exact UpdL.size (by assumption)) ha15
        have hd1_15 := Dj.ogr hd1_13 hlt1 ha15
        have hd11_15 := Dj.ogr hd11_13 hlt11 ha15
        have hk1_11 : OkB [og13, (some b11.block)] wl4 (some b11.block) := OkB.mem (by simp)
        have hB := hB.loop hU1 ⟨hl13, hl11, trivial⟩
        refine CW.seq ?_
        refine CW.seq ?_
        refine CW.reg ?_
        refine WL.pure rfl rfl rfl (PV.move rfl) ?_
        refine WL.pure rfl rfl rfl (PV.move rfl) ?_
        refine WL.pure rfl rfl rfl (PV.lss rfl rfl) ?_
        refine WL.nilS ?_
        refine CW.cond rfl (fun hc9 => ?_) (fun hc9 => ?_)
        · skip
          try simp only [decide_eq_true_eq, decide_eq_false_iff_not, Bool.not_eq_true', Bool.not_eq_false', Bool.not_eq_eq_eq_not, Bool.not_true, Bool.not_false, Int.not_lt, Int.not_le, Classical.not_not, beq_iff_eq, beq_eq_false_iff_ne] at hc9
          refine CW.skipS ?_
          refine CW.seq ?_
          refine CW.block ?_
          refine CW.seq ?_
          refine CW.reg ?_
          refine WL.pure rfl rfl rfl (PV.assign rfl) ?_
          refine WL.nilS ?_
          refine CW.block ?_
          have hlt1 := hb1.ltO
          have hlt11 := hb11.ltO
          have hlt15 := ho15.ltO
          refine CW.loop (σk := [(2, _), (4, _), (5, _), (6, _), (7, _)]) (fun ρ wz m => ∃ (v17 : Value) (og17 : Option Nat) (k : Nat), ρ = [(8, .int .i64 (k : Nat))] ∧ m = (a0 + 1).toNat - k ∧ UpdL [og15, (some b11.block)] wl5 wz ∧ Osl VI wz og17 v17 (rowT a0 j i k (passT a0 j i (allT a0 j xa1))) ∧ OgR wl5 og15 og17 ∧ Bx wz b11 [.int .i64 a0, v17] ∧ ((k : Int) ≤ a0 + 1)) (ρ₀ := [(8, _)]) (m₀ := _) ⟨rfl, rfl, rfl, rfl, rfl, rfl, trivial⟩ ⟨v15, og15, 0, rfl, rfl, (UpdL.refl _ _), osE ho15 (by rfl), OgR.refl _ _, bxE hb11 (by first | rfl | (simp_all; done) | (simp_all; omega)), (by first | omega | rfl | (simp; done) | assumption | (simp_all; done))⟩ ?_
          rintro _ wl6 _ ⟨v17, og17, k, rfl, rfl, hU2, ho17, ha17, hb11, hk⟩
          have hU0 := hU0.trans hU2 ⟨hk0_15, hk0_11, trivial⟩
          have hU1 := hU1.trans hU2 ⟨hk1_15, hk1_11, trivial⟩
          have hb1 := hb1.loop hU2 ⟨hd1_15, hd1_11, trivial⟩
          have hl17 := Lo.ogr hl15 hB ha17
          have hg2_17 := ha17
          have hk2_17 : OkB [og15, (some b11.block)] wl5 og17 := OkB.ogr (OkB.mem (by simp)) (Nat.le_refl _) ha17
          have hk0_17 := OkB.ogr hk0_15 (by first | assumption | exact UpdL.size (by assumption)) ha17
          have hg0_17 := OgR.trans hg0_15 (by first | assumption | exact UpdL.size (by assumption)) ha17
          have hk1_17 := OkB.ogr hk1_15 (by first | assumption | exact UpdL.size (by assumption)) ha17
          have hg1_17 := OgR.trans hg1_15 (by first | assumption | exact UpdL.size (by assumption)) ha17
          have hd1_17 := Dj.ogr hd1_15 hlt1 ha17
          have hd11_17 := Dj.ogr hd11_15 hlt11 ha17
          have hk2_11 : OkB [og15, (some b11.block)] wl5 (some b11.block) := OkB.mem (by simp)
          have hB := hB.loop hU2 ⟨hl15, hl11, trivial⟩
          have hl0 : (rowT a0 j i k (passT a0 j i (allT a0 j xa1))).length = xa1.length := by rw [rowT_len, passT_len, allT_len]
          refine CW.seq ?_
          refine CW.seq ?_
          refine CW.reg ?_
          refine WL.pure rfl rfl rfl (PV.move rfl) ?_
          refine WL.pure rfl rfl rfl (PV.move rfl) ?_
          refine WL.pure rfl rfl rfl (PV.lss rfl rfl) ?_
          refine WL.nilS ?_
          refine CW.cond rfl (fun hc10 => ?_) (fun hc10 => ?_)
          · skip
            try simp only [decide_eq_true_eq, decide_eq_false_iff_not, Bool.not_eq_true', Bool.not_eq_false', Bool.not_eq_eq_eq_not, Bool.not_true, Bool.not_false, Int.not_lt, Int.not_le, Classical.not_not, beq_iff_eq, beq_eq_false_iff_ne] at hc10
            refine CW.skipS ?_
            refine CW.seq ?_
            refine CW.block ?_
            refine CW.seq ?_
            refine CW.reg ?_
            refine WL.pure rfl rfl rfl ((by first | exact PV.fieldAddr T.fl27_1 rfl (by first | assumption | exact Bx.cells (by assumption)) | exact PV.fieldAddrP T.fl27_1 rfl rfl)) ?_
            refine WL.pure rfl rfl rfl ((by first | exact PV.load0 T.na22 rfl (by first | exact Cells.up (by assumption) hB | exact Bx.cells (by assumption) | assumption) (Ext.refl _) rfl | exact PV.load1 T.na22 rfl (by first | exact Cells.up (by assumption) hB | exact Bx.cells (by assumption) | assumption) (Ext.refl _) rfl)) ?_
            refine WL.pure rfl rfl rfl (PV.move rfl) ?_
            refine WL.pure rfl rfl rfl (PV.move rfl) ?_
            refine WL.pure rfl rfl rfl (PV.mul rfl rfl (by constructor <;> (have hix := idx_lt (c := a0) (i := i) (k := j) (n := xa1.length) (by omega) (by omega) (by omega) (by omega); omega))) ?_
            refine WL.pure rfl rfl rfl (PV.move rfl) ?_
            refine WL.pure rfl rfl rfl (PV.add rfl rfl (by constructor <;> (have hix := idx_lt (c := a0) (i := i) (k := j) (n := xa1.length) (by omega) (by omega) (by omega) (by omega); omega))) ?_
            first
              | refine WL.atO (x := .tmp 43) (y := .tmp 48) (f := VI) (0) rfl rfl ho17 (by have hix := idx_lt (c := a0) (i := i) (k := j) (n := xa1.length) (by omega) (by omega) (by omega) (by omega); omega) (fun p5 hpp5 hcp5 => ?_)
              | refine WL.atOZ (x := .tmp 43) (y := .tmp 48) (f := VI) (0) rfl rfl ho17 (by have hix := idx_lt (c := a0) (i := i) (k := j) (n := xa1.length) (by omega) (by omega) (by omega) (by omega); omega) (fun p5 hpp5 hzp5 hcp5 => ?_)
            refine WL.pure rfl rfl rfl ((by first | exact PV.indexAddr hpp5 rfl rfl T.sl22 | exact PV.indexAddr hpp5 rfl (by rw [← hzp5]; rfl) T.sl22)) ?_
            refine WL.pure rfl rfl rfl ((by first | exact PV.load0 T.na2 rfl (by first | exact Cells.up (by assumption) hB | exact Bx.cells (by assumption) | assumption) (Ext.refl _) rfl | exact PV.load1 T.na2 rfl (by first | exact Cells.up (by assumption) hB | exact Bx.cells (by assumption) | assumption) (Ext.refl _) rfl)) ?_
            refine WL.pure rfl rfl rfl (PV.assign rfl) ?_
            refine WL.nilS ?_
            refine CW.seq ?_
            refine CW.reg ?_
            refine WL.pure rfl rfl rfl ((by first | exact PV.fieldAddr T.fl27_1 rfl (by first | assumption | exact Bx.cells (by assumption)) | exact PV.fieldAddrP T.fl27_1 rfl rfl)) ?_
            refine WL.pure rfl rfl rfl ((by first | exact PV.load0 T.na22 rfl (by first | exact Cells.up (by assumption) hB | exact Bx.cells (by assumption) | assumption) (Ext.refl _) rfl | exact PV.load1 T.na22 rfl (by first | exact Cells.up (by assumption) hB | exact Bx.cells (by assumption) | assumption) (Ext.refl _) rfl)) ?_
            refine WL.pure rfl rfl rfl (PV.move rfl) ?_
            refine WL.pure rfl rfl rfl (PV.move rfl) ?_
            refine WL.pure rfl rfl rfl (PV.mul rfl rfl (by constructor <;> (have hix := idx_lt (c := a0) (i := j) (k := k) (n := xa1.length) (by omega) (by omega) (by omega) (by omega); omega))) ?_
            refine WL.pure rfl rfl rfl (PV.move rfl) ?_
            refine WL.pure rfl rfl rfl (PV.add rfl rfl (by constructor <;> (have hix := idx_lt (c := a0) (i := j) (k := k) (n := xa1.length) (by omega) (by omega) (by omega) (by omega); omega))) ?_
            first
              | refine WL.atO (x := .tmp 52) (y := .tmp 57) (f := VI) (0) rfl rfl ho17 (by have hix := idx_lt (c := a0) (i := j) (k := k) (n := xa1.length) (by omega) (by omega) (by omega) (by omega); omega) (fun p6 hpp6 hcp6 => ?_)
              | refine WL.atOZ (x := .tmp 52) (y := .tmp 57) (f := VI) (0) rfl rfl ho17 (by have hix := idx_lt (c := a0) (i := j) (k := k) (n := xa1.length) (by omega) (by omega) (by omega) (by omega); omega) (fun p6 hpp6 hzp6 hcp6 => ?_)
            refine WL.pure rfl rfl rfl ((by first | exact PV.indexAddr hpp6 rfl rfl T.sl22 | exact PV.indexAddr hpp6 rfl (by rw [← hzp6]; rfl) T.sl22)) ?_
            refine WL.pure rfl rfl rfl ((by first | exact PV.load0 T.na2 rfl (by first | exact Cells.up (by assumption) hB | exact Bx.cells (by assumption) | assumption) (Ext.refl _) rfl | exact PV.load1 T.na2 rfl (by first | exact Cells.up (by assumption) hB | exact Bx.cells (by assumption) | assumption) (Ext.refl _) rfl)) ?_
            refine WL.pure rfl rfl rfl (PV.assign rfl) ?_
            refine WL.nilS ?_
            refine CW.seq ?_
            refine CW.reg ?_
            refine WL.pure rfl rfl rfl (PV.move rfl) ?_
            refine WL.pure rfl rfl rfl (PV.neq rfl rfl) ?_
            refine WL.pure rfl rfl rfl (PV.move rfl) ?_
            refine WL.split (t := 62) rfl (fun hc11 => ?_) (fun hc11 => ?_)
            rotate_left
            · skip
              try simp only [decide_eq_true_eq, decide_eq_false_iff_not, Bool.not_eq_true', Bool.not_eq_false', Bool.not_eq_eq_eq_not, Bool.not_true, Bool.not_false, Int.not_lt, Int.not_le, Classical.not_not, beq_iff_eq, beq_eq_false_iff_ne] at hc11
              refine WL.skip rfl rfl rfl rfl rfl ?_
              refine WL.skip rfl rfl rfl rfl rfl ?_
              refine WL.pure rfl rfl rfl (PV.pickF rfl rfl) ?_
              refine WL.pure rfl rfl rfl (PV.move rfl) ?_
              refine WL.skip rfl rfl rfl rfl rfl ?_
              refine WL.skip rfl rfl rfl rfl rfl ?_
              refine WL.skip rfl rfl rfl rfl rfl ?_
              refine WL.skip rfl rfl rfl rfl rfl ?_
              refine WL.skip rfl rfl rfl rfl rfl ?_
              refine WL.skip rfl rfl rfl rfl rfl ?_
              refine WL.skip rfl rfl rfl rfl rfl ?_
              refine WL.skip rfl rfl rfl rfl rfl ?_
              refine WL.skip rfl rfl rfl rfl rfl ?_
              refine WL.skip rfl rfl rfl rfl rfl ?_
              refine WL.skip rfl rfl rfl rfl rfl ?_
              refine WL.skip rfl rfl rfl rfl rfl ?_
              refine WL.skip rfl rfl rfl rfl rfl ?_
              refine WL.pure rfl rfl rfl (PV.pickF rfl rfl) ?_
              refine WL.nilS ?_
              refine CW.condF rfl ?_
              refine CW.skip ?_
              refine NQ.block ?_
              refine NQ.then ?_
              refine CW.reg ?_
              refine WL.pure rfl rfl rfl (PV.move rfl) ?_
              refine WL.pure rfl rfl rfl (PV.add rfl rfl (by constructor <;> omega)) ?_
              refine WL.pure rfl rfl rfl (PV.assign rfl) ?_
              refine WL.nil ?_
              refine NQ.next (ρ := [(8, _)]) ⟨rfl, rfl, rfl, rfl, rfl, rfl, trivial⟩ ?_
              exact ⟨_, ⟨v17, og17, k + 1, rfl, rfl, hU2, osE ho17 (by first | exact stepT_yes (by assumption) (by assumption) (by assumption) | exact stepT_n1 (by simp only [zat]; omega) | exact stepT_n2 (by simp only [zat]; omega) | exact stepT_n3 (by simp only [zat]; omega)), (by first | exact hg2_17 | exact OgR.weak hg2_17), bxE hb11 (by first | rfl | (simp_all; done) | (simp_all; omega)), (by first | omega | assumption | (simp_all; done) | (simp_all; omega))⟩, by omega⟩
            try simp only [decide_eq_true_eq, decide_eq_false_iff_not, Bool.not_eq_true', Bool.not_eq_false', Bool.not_eq_eq_eq_not, Bool.not_true, Bool.not_false, Int.not_lt, Int.not_le, Classical.not_not, beq_iff_eq, beq_eq_false_iff_ne] at hc11
            refine WL.pureG rfl rfl rfl rfl rfl (PV.move rfl) ?_
            refine WL.pureG rfl rfl rfl rfl rfl (PV.neq rfl rfl) ?_
            refine WL.pure rfl rfl rfl (PV.pickT rfl rfl) ?_
            refine WL.pure rfl rfl rfl (PV.move rfl) ?_
            refine WL.split (t := 66) rfl (fun hc12 => ?_) (fun hc12 => ?_)
            rotate_left
            · skip
              try simp only [decide_eq_true_eq, decide_eq_false_iff_not, Bool.not_eq_true', Bool.not_eq_false', Bool.not_eq_eq_eq_not, Bool.not_true, Bool.not_false, Int.not_lt, Int.not_le, Classical.not_not, beq_iff_eq, beq_eq_false_iff_ne] at hc12
              refine WL.skip rfl rfl rfl rfl rfl ?_
              refine WL.skip rfl rfl rfl rfl rfl ?_
              refine WL.skip rfl rfl rfl rfl rfl ?_
              refine WL.skip rfl rfl rfl rfl rfl ?_
              refine WL.skip rfl rfl rfl rfl rfl ?_
              refine WL.skip rfl rfl rfl rfl rfl ?_
              refine WL.skip rfl rfl rfl rfl rfl ?_
              refine WL.skip rfl rfl rfl rfl rfl ?_
              refine WL.skip rfl rfl rfl rfl rfl ?_
              refine WL.skip rfl rfl rfl rfl rfl ?_
              refine WL.skip rfl rfl rfl rfl rfl ?_
              refine WL.skip rfl rfl rfl rfl rfl ?_
              refine WL.skip rfl rfl rfl rfl rfl ?_
              refine WL.pure rfl rfl rfl (PV.pickF rfl rfl) ?_
              refine WL.nilS ?_
              refine CW.condF rfl ?_
              refine CW.skip ?_
              refine NQ.block ?_
              refine NQ.then ?_
              refine CW.reg ?_
              refine WL.pure rfl rfl rfl (PV.move rfl) ?_
              refine WL.pure rfl rfl rfl (PV.add rfl rfl (by constructor <;> omega)) ?_
              refine WL.pure rfl rfl rfl (PV.assign rfl) ?_
              refine WL.nil ?_
              refine NQ.next (ρ := [(8, _)]) ⟨rfl, rfl, rfl, rfl, rfl, rfl, trivial⟩ ?_
              exact ⟨_, ⟨v17, og17, k + 1, rfl, rfl, hU2, osE ho17 (by first | exact stepT_yes (by assumption) (by assumption) (by assumption) | exact stepT_n1 (by simp only [zat]; omega) | exact stepT_n2 (by simp only [zat]; omega) | exact stepT_n3 (by simp only [zat]; omega)), (by first | exact hg2_17 | exact OgR.weak hg2_17), bxE hb11 (by first | rfl | (simp_all; done) | (simp_all; omega)), (by first | omega | assumption | (simp_all; done) | (simp_all; omega))⟩, by omega⟩
            try simp only [decide_eq_true_eq, decide_eq_false_iff_not, Bool.not_eq_true', Bool.not_eq_false', Bool.not_eq_eq_eq_not, Bool.not_true, Bool.not_false, Int.not_lt, Int.not_le, Classical.not_not, beq_iff_eq, beq_eq_false_iff_ne] at hc12
            refine WL.pureG rfl rfl rfl rfl rfl (PV.move rfl) ?_
            refine WL.pureG rfl rfl rfl rfl rfl (PV.move rfl) ?_
            refine WL.pureG rfl rfl rfl rfl rfl (PV.addW rfl rfl) ?_
            refine WL.pureG rfl rfl rfl rfl rfl ((by first | exact PV.fieldAddr T.fl27_1 rfl (by first | assumption | exact Bx.cells (by assumption)) | exact PV.fieldAddrP T.fl27_1 rfl rfl)) ?_
            refine WL.pureG rfl rfl rfl rfl rfl ((by first | exact PV.load0 T.na22 rfl (by first | exact Cells.up (by assumption) hB | exact Bx.cells (by assumption) | assumption) (Ext.refl _) rfl | exact PV.load1 T.na22 rfl (by first | exact Cells.up (by assumption) hB | exact Bx.cells (by assumption) | assumption) (Ext.refl _) rfl)) ?_
            refine WL.pureG rfl rfl rfl rfl rfl (PV.move rfl) ?_
            refine WL.pureG rfl rfl rfl rfl rfl (PV.move rfl) ?_
            refine WL.pureG rfl rfl rfl rfl rfl (PV.mul rfl rfl (by constructor <;> (have hix := idx_lt (c := a0) (i := i) (k := k) (n := xa1.length) (by omega) (by omega) (by omega) (by omega); omega))) ?_
            refine WL.pureG rfl rfl rfl rfl rfl (PV.move rfl) ?_
            refine WL.pureG rfl rfl rfl rfl rfl (PV.add rfl rfl (by constructor <;> (have hix := idx_lt (c := a0) (i := i) (k := k) (n := xa1.length) (by omega) (by omega) (by omega) (by omega); omega))) ?_
            first
              | refine WL.atO (x := .tmp 71) (y := .tmp 76) (f := VI) (0) rfl rfl ho17 (by have hix := idx_lt (c := a0) (i := i) (k := k) (n := xa1.length) (by omega) (by omega) (by omega) (by omega); omega) (fun p7 hpp7 hcp7 => ?_)
              | refine WL.atOZ (x := .tmp 71) (y := .tmp 76) (f := VI) (0) rfl rfl ho17 (by have hix := idx_lt (c := a0) (i := i) (k := k) (n := xa1.length) (by omega) (by omega) (by omega) (by omega); omega) (fun p7 hpp7 hzp7 hcp7 => ?_)
            refine WL.pureG rfl rfl rfl rfl rfl ((by first | exact PV.indexAddr hpp7 rfl rfl T.sl22 | exact PV.indexAddr hpp7 rfl (by rw [← hzp7]; rfl) T.sl22)) ?_
            refine WL.pureG rfl rfl rfl rfl rfl ((by first | exact PV.load0 T.na2 rfl (by first | exact Cells.up (by assumption) hB | exact Bx.cells (by assumption) | assumption) (Ext.refl _) rfl | exact PV.load1 T.na2 rfl (by first | exact Cells.up (by assumption) hB | exact Bx.cells (by assumption) | assumption) (Ext.refl _) rfl)) ?_
            refine WL.pureG rfl rfl rfl rfl rfl (PV.lss rfl rfl) ?_
            refine WL.pure rfl rfl rfl (PV.pickT rfl rfl) ?_
            refine WL.nilS ?_
            refine CW.cond rfl (fun hc13 => ?_) (fun hc13 => ?_)
            · skip
              try simp only [decide_eq_true_eq, decide_eq_false_iff_not, Bool.not_eq_true', Bool.not_eq_false', Bool.not_eq_eq_eq_not, Bool.not_true, Bool.not_false, Int.not_lt, Int.not_le, Classical.not_not, beq_iff_eq, beq_eq_false_iff_ne] at hc13
              refine CW.reg ?_
              refine WL.pure rfl rfl rfl ((by first | exact PV.fieldAddr T.fl27_1 rfl (by first | assumption | exact Bx.cells (by assumption)) | exact PV.fieldAddrP T.fl27_1 rfl rfl)) ?_
              refine WL.pure rfl rfl rfl ((by first | exact PV.load0 T.na22 rfl (by first | exact Cells.up (by assumption) hB | exact Bx.cells (by assumption) | assumption) (Ext.refl _) rfl | exact PV.load1 T.na22 rfl (by first | exact Cells.up (by assumption) hB | exact Bx.cells (by assumption) | assumption) (Ext.refl _) rfl)) ?_
              refine WL.pure rfl rfl rfl (PV.move rfl) ?_
              refine WL.pure rfl rfl rfl (PV.move rfl) ?_
              refine WL.pure rfl rfl rfl (PV.mul rfl rfl (by constructor <;> (have hix := idx_lt (c := a0) (i := i) (k := k) (n := xa1.length) (by omega) (by omega) (by omega) (by omega); omega))) ?_
              refine WL.pure rfl rfl rfl (PV.move rfl) ?_
              refine WL.pure rfl rfl rfl (PV.add rfl rfl (by constructor <;> (have hix := idx_lt (c := a0) (i := i) (k := k) (n := xa1.length) (by omega) (by omega) (by omega) (by omega); omega))) ?_
              refine WL.pure rfl rfl rfl (PV.move rfl) ?_
              refine WL.pure rfl rfl rfl (PV.move rfl) ?_
              refine WL.pure rfl rfl rfl (PV.addW rfl rfl) ?_
              first
                | refine WL.atO (x := .tmp 82) (y := .tmp 87) (f := VI) (0) rfl rfl ho17 (by have hix := idx_lt (c := a0) (i := i) (k := k) (n := xa1.length) (by omega) (by omega) (by omega) (by omega); omega) (fun p8 hpp8 hcp8 => ?_)
                | refine WL.atOZ (x := .tmp 82) (y := .tmp 87) (f := VI) (0) rfl rfl ho17 (by have hix := idx_lt (c := a0) (i := i) (k := k) (n := xa1.length) (by omega) (by omega) (by omega) (by omega); omega) (fun p8 hpp8 hzp8 hcp8 => ?_)
              refine WL.pure rfl rfl rfl ((by first | exact PV.indexAddr hpp8 rfl rfl T.sl22 | exact PV.indexAddr hpp8 rfl (by rw [← hzp8]; rfl) T.sl22)) ?_
              refine WL.op rfl (OpK.storeS VI T.sz2 rfl rfl rfl hpp8 ho17 (fun w14 hXw14 ho17 => ?_))
              have hB := hB.updL hXw14 hl17
              have hb1 := hb1.updD hXw14 hd1_17
              have hb11 := hb11.updD hXw14 hd11_17
              have hU0 := hU0.step hXw14 hk0_17
              have hU1 := hU1.step hXw14 hk1_17
              have hU2 := hU2.step hXw14 hk2_17
              refine WL.nil ?_
              refine NQ.block ?_
              refine NQ.then ?_
              refine CW.reg ?_
              refine WL.pure rfl rfl rfl (PV.move rfl) ?_
              refine WL.pure rfl rfl rfl (PV.add rfl rfl (by constructor <;> omega)) ?_
              refine WL.pure rfl rfl rfl (PV.assign rfl) ?_
              refine WL.nil ?_
              refine NQ.next (ρ := [(8, _)]) ⟨rfl, rfl, rfl, rfl, rfl, rfl, trivial⟩ ?_
              exact ⟨_, ⟨v17, og17, k + 1, rfl, rfl, hU2, osE ho17 (by first | exact stepT_yes (by assumption) (by assumption) (by assumption) | exact stepT_n1 (by simp only [zat]; omega) | exact stepT_n2 (by simp only [zat]; omega) | exact stepT_n3 (by simp only [zat]; omega)), (by first | exact hg2_17 | exact OgR.weak hg2_17), bxE hb11 (by first | rfl | (simp_all; done) | (simp_all; omega)), (by first | omega | assumption | (simp_all; done) | (simp_all; omega))⟩, by omega⟩
            try simp only [decide_eq_true_eq, decide_eq_false_iff_not, Bool.not_eq_true', Bool.not_eq_false', Bool.not_eq_eq_eq_not, Bool.not_true, Bool.not_false, Int.not_lt, Int.not_le, Classical.not_not, beq_iff_eq, beq_eq_false_iff_ne] at hc13
            refine CW.skip ?_
            refine NQ.block ?_
            refine NQ.then ?_
            refine CW.reg ?_
            refine WL.pure rfl rfl rfl (PV.move rfl) ?_
            refine WL.pure rfl rfl rfl (PV.add rfl rfl (by constructor <;> omega)) ?_
            refine WL.pure rfl rfl rfl (PV.assign rfl) ?_
            refine WL.nil ?_
            refine NQ.next (ρ := [(8, _)]) ⟨rfl, rfl, rfl, rfl, rfl, rfl, trivial⟩ ?_
            exact ⟨_, ⟨v17, og17, k + 1, rfl, rfl, hU2, osE ho17 (by first | exact stepT_yes (by assumption) (by assumption) (by assumption) | exact stepT_n1 (by simp only [zat]; omega) | exact stepT_n2 (by simp only [zat]; omega) | exact stepT_n3 (by simp only [zat]; omega)), (by first | exact hg2_17 | exact OgR.weak hg2_17), bxE hb11 (by first | rfl | (simp_all; done) | (simp_all; omega)), (by first | omega | assumption | (simp_all; done) | (simp_all; omega))⟩, by omega⟩
          try simp only [decide_eq_true_eq, decide_eq_false_iff_not, Bool.not_eq_true', Bool.not_eq_false', Bool.not_eq_eq_eq_not, Bool.not_true, Bool.not_false, Int.not_lt, Int.not_le, Classical.not_not, beq_iff_eq, beq_eq_false_iff_ne] at hc10
          refine CW.exit ?_
          refine XQ.then ?_
          refine XQ.then ?_
          refine XQ.here ?_
          refine NQ.block ?_
          refine NQ.then ?_
          refine CW.reg ?_
          refine WL.pure rfl rfl rfl (PV.move rfl) ?_
          refine WL.pure rfl rfl rfl (PV.add rfl rfl (by constructor <;> omega)) ?_
          refine WL.pure rfl rfl rfl (PV.assign rfl) ?_
          refine WL.nil ?_
          refine NQ.next (ρ := [(7, _)]) ⟨rfl, rfl, rfl, rfl, rfl, trivial⟩ ?_
          exact ⟨_, ⟨v17, og17, i + 1, rfl, rfl, hU1, osE ho17 (by exact passT_succ (by omega)), (by first | exact hg1_17 | exact OgR.weak hg1_17), bxE hb11 (by first | rfl | (simp_all; done) | (simp_all; omega)), (by first | omega | assumption | (simp_all; done) | (simp_all; omega))⟩, by omega⟩
        try simp only [decide_eq_true_eq, decide_eq_false_iff_not, Bool.not_eq_true', Bool.not_eq_false', Bool.not_eq_eq_eq_not, Bool.not_true, Bool.not_false, Int.not_lt, Int.not_le, Classical.not_not, beq_iff_eq, beq_eq_false_iff_ne] at hc9
        refine CW.exit ?_
        refine XQ.then ?_
        refine XQ.then ?_
        refine XQ.here ?_
        refine NQ.block ?_
        refine NQ.then ?_
        refine CW.reg ?_
        refine WL.pure rfl rfl rfl (PV.move rfl) ?_
        refine WL.pure rfl rfl rfl (PV.add rfl rfl (by constructor <;> omega)) ?_
        refine WL.pure rfl rfl rfl (PV.assign rfl) ?_
        refine WL.nil ?_
        refine NQ.next (ρ := [(6, _)]) ⟨rfl, rfl, rfl, rfl, trivial⟩ ?_
        exact ⟨_, ⟨v15, og15, j + 1, rfl, rfl, hU0, osE ho15 (by exact allT_succ (by omega)), (by first | exact hg0_15 | exact OgR.weak hg0_15), bxE hb11 (by first | rfl | (simp_all; done) | (simp_all; omega)), (by first | omega | assumption | (simp_all; done) | (simp_all; omega))⟩, by omega⟩
      try simp only [decide_eq_true_eq, decide_eq_false_iff_not, Bool.not_eq_true', Bool.not_eq_false', Bool.not_eq_eq_eq_not, Bool.not_true, Bool.not_false, Int.not_lt, Int.not_le, Classical.not_not, beq_iff_eq, beq_eq_false_iff_ne] at hc8
      refine CW.exit ?_
      refine XQ.then ?_
      refine XQ.then ?_
      refine XQ.here ?_
      refine NQ.then ?_
      refine CW.seq ?_
      refine CW.seq ?_
      refine CW.reg ?_
      obtain rfl : j = (a0 + 1).toNat := (by omega)
      refine WL.op rfl (OpK.callR rfl T.cf64 rfl (c_spec_l07Zone (by first | exact Bx.cells (by assumption) | exact Cells.up (by assumption) hB | assumption) (by first | assumption | exact Rd.up (by assumption) hB | exact Osl.rd (by assumption) | exact Osn.rdR (by assumption))) (fun w15 hXw15 => ?_))
      have hB := hB.trans hXw15
      have hb1 := hb1.up hXw15
      have hb11 := hb11.up hXw15
      have ho13 := ho13.up hXw15
      refine WL.pure rfl rfl rfl (PV.not rfl) ?_
      refine WL.nilS ?_
      refine CW.cond rfl (fun hc14 => ?_) (fun hc14 => ?_)
      · skip
        try simp only [decide_eq_true_eq, decide_eq_false_iff_not, Bool.not_eq_true', Bool.not_eq_false', Bool.not_eq_eq_eq_not, Bool.not_true, Bool.not_false, Int.not_lt, Int.not_le, Classical.not_not, beq_iff_eq, beq_eq_false_iff_ne] at hc14
        refine CW.seq ?_
        refine CW.reg ?_
        refine WL.pure rfl rfl rfl (PV.build (ks := []) (os := []) (css := []) (ds := [_, _]) T.bu27 rfl rfl trivial rfl) ?_
        refine WL.op rfl (OpK.storeA T.sz27 rfl rfl rfl rfl (by simp [Value.oneCell'] <;> first | done | (repeat' apply And.intro) <;> first | rfl | exact Osl.oneCell (by assumption) | exact Osn.oneCell (by assumption) | exact Rd.oneCell (by assumption) | assumption) hb1 (fun w16 hXw16 hb1 => ?_))
        have hB := hB.updL hXw16 hl1
        have hb11 := hb11.updD hXw16 (Dj.symm hd1_11)
        have ho13 := ho13.updD hXw16 (Dj.symm hd1_13)
        refine WL.pure rfl rfl rfl (PV.assign rfl) ?_
        refine WL.nilS ?_
        refine CW.ret ?_
        refine RQ.then ?_
        refine RQ.rc1 T.ag27 rfl (by first | exact Cells.up (by assumption) hB | exact Bx.cells (by assumption) | assumption) rfl rfl ?_
        refine ⟨hB, (.slice none 0 0), none, ?_, osE (Osl.nil _ _) ?_, Lo.nl _⟩
        · skip
          first | (exact tE2 (by rw [onI_no (by first | exact tightB_n1 (by assumption) | exact tightB_n2 (by unfold tightL; assumption))]) (bE (Bool.eq_false_iff.2 (by first | exact tightB_n1 (by assumption) | exact tightB_n2 (by unfold tightL; assumption))).symm)) | (exact tE2 (by rw [onI_no (by first | exact tightB_n1 (by assumption) | exact tightB_n2 (by unfold tightL; assumption))]; rfl) (bE (Bool.eq_false_iff.2 (by first | exact tightB_n1 (by assumption) | exact tightB_n2 (by unfold tightL; assumption))).symm)) | (exact tE2 (by rw [onI_yes (tightB_yes (by assumption) (by unfold tightL; assumption))]) (bE (tightB_yes (by assumption) (by unfold tightL; assumption)).symm)) | (exact tE2 (by rw [onI_yes (tightB_yes (by assumption) (by unfold tightL; assumption))]; rfl) (bE (tightB_yes (by assumption) (by unfold tightL; assumption)).symm))
        · skip
          first | (rw [onT_no (by first | exact tightB_n1 (by assumption) | exact tightB_n2 (by unfold tightL; assumption))]; done) | (rw [onT_yes (tightB_yes (by assumption) (by unfold tightL; assumption))]; first | done | rfl)
      try simp only [decide_eq_true_eq, decide_eq_false_iff_not, Bool.not_eq_true', Bool.not_eq_false', Bool.not_eq_eq_eq_not, Bool.not_true, Bool.not_false, Int.not_lt, Int.not_le, Classical.not_not, beq_iff_eq, beq_eq_false_iff_ne] at hc14
      refine CW.skipS ?_
      refine CW.seq ?_
      refine CW.reg ?_
      refine WL.pure rfl rfl rfl ((by first | exact PV.loadA T.ag27 rfl (by first | exact Cells.up (by assumption) hB | exact Bx.cells (by assumption) | assumption) (Ext.refl _) rfl | exact PV.loadP (ds := [_, _]) T.ag27 rfl (by first | exact Cells.up (by assumption) hB | exact Bx.cells (by assumption) | assumption) (Ext.refl _) rfl rfl)) ?_
      refine WL.op rfl (OpK.storeA T.sz27 rfl rfl rfl rfl (by simp [Value.oneCell'] <;> first | done | (repeat' apply And.intro) <;> first | rfl | exact Osl.oneCell (by assumption) | exact Osn.oneCell (by assumption) | exact Rd.oneCell (by assumption) | assumption) hb1 (fun w17 hXw17 hb1 => ?_))
      have hB := hB.updL hXw17 hl1
      have hb11 := hb11.updD hXw17 (Dj.symm hd1_11)
      have ho13 := ho13.updD hXw17 (Dj.symm hd1_13)
      refine WL.pure rfl rfl rfl (PV.assign rfl) ?_
      refine WL.nilS ?_
      refine CW.ret ?_
      refine RQ.rc1 T.ag27 rfl (by first | exact Cells.up (by assumption) hB | exact Bx.cells (by assumption) | assumption) rfl rfl ?_
      refine ⟨hB, v13, og13, ?_, osE ho13 ?_, hl13⟩
      · skip
        first | (exact tE2 (by rw [onI_no (by first | exact tightB_n1 (by assumption) | exact tightB_n2 (by unfold tightL; assumption))]) (bE (Bool.eq_false_iff.2 (by first | exact tightB_n1 (by assumption) | exact tightB_n2 (by unfold tightL; assumption))).symm)) | (exact tE2 (by rw [onI_no (by first | exact tightB_n1 (by assumption) | exact tightB_n2 (by unfold tightL; assumption))]; rfl) (bE (Bool.eq_false_iff.2 (by first | exact tightB_n1 (by assumption) | exact tightB_n2 (by unfold tightL; assumption))).symm)) | (exact tE2 (by rw [onI_yes (tightB_yes (by assumption) (by unfold tightL; assumption))]) (bE (tightB_yes (by assumption) (by unfold tightL; assumption)).symm)) | (exact tE2 (by rw [onI_yes (tightB_yes (by assumption) (by unfold tightL; assumption))]; rfl) (bE (tightB_yes (by assumption) (by unfold tightL; assumption)).symm))
      · skip
        first | (rw [onT_no (by first | exact tightB_n1 (by assumption) | exact tightB_n2 (by unfold tightL; assumption))]; done) | (rw [onT_yes (tightB_yes (by assumption) (by unfold tightL; assumption))]; first | done | rfl)
  · skip
    refine (OpK.alloc rfl T.zv27 rfl (fun b19 w18 hXw18 hb19 hge19 => ?_))
    have hl19 := Lo.new hB hge19
    have hv19 := Lo.new hS hge19
    have hd1_19 := Dj.new hb1.ltO hge19
    refine ⟨Upd.trans hS hXw18, ?_⟩
    have hS := Upd.trans hS hXw18
    have hB := hB.trans hXw18
    have hb1 := hb1.up hXw18
    refine HP.must rfl rfl (OpK.buildS VI (os := []) [] rfl T.sl22 rfl rfl T.zv2 rfl (by intro z _; rfl) rfl (fun v20 g20 w19 hXw19 ho20 hge20 => ?_))
    have hl20 := Lo.new hB hge20
    have hv20 := Lo.new hS hge20
    have hd1_20 := Dj.new hb1.ltO hge20
    have hd19_20 := Dj.new hb19.ltO hge20
    refine ⟨Upd.trans hS hXw19, ?_⟩
    have hS := Upd.trans hS hXw19
    have hB := hB.trans hXw19
    have hb1 := hb1.up hXw19
    have hb19 := hb19.up hXw19
    refine HP.must rfl rfl (OpK.appendS (f := VI) rfl T.sl22 T.zv2 rfl rfl ho20 rfl (Rd.src (by first | assumption | exact Rd.up (by assumption) hB) (fun _ => rfl)) (by first | (simp only [List.length_cons, List.length_nil]; omega) | (simp_all; omega)) (fun v21 og21 w20 hXw20 ho21 hap21 => ?_))
    have hl21 := Lo.app hl20 hB hap21
    have hv21 := Lo.app hv20 hS hap21
    have hd1_21 := Dj.app hd1_20 hb1.ltO hap21
    have hd19_21 := Dj.app hd19_20 hb19.ltO hap21
    refine ⟨Ext.updL hS hXw20 hv20, ?_⟩
    have hS := Ext.updL hS hXw20 hv20
    have hB := hB.updL hXw20 hl20
    have hb1 := hb1.updD hXw20 hd1_20
    have hb19 := hb19.updD hXw20 hd19_20
    refine HP.take rfl rfl rfl rfl hS (fun wS hS1 => PV.build (ks := [0, 1]) (os := [.tmp 19, .tmp 25]) (css := [[_], [_]]) (ds := [_, _]) T.bu27 rfl rfl ⟨(by first | rfl | exact Rd.cells1 (by assumption) | exact Osl.cells1 (by assumption) | exact Osn.cells1 (by assumption)), (by first | rfl | exact Rd.cells1 (by assumption) | exact Osl.cells1 (by assumption) | exact Osn.cells1 (by assumption)), trivial⟩ rfl) ?_
    refine HP.must rfl rfl (OpK.storeA T.sz27 rfl rfl rfl rfl (by simp [Value.oneCell'] <;> first | done | (repeat' apply And.intro) <;> first | rfl | exact Osl.oneCell (by assumption) | exact Osn.oneCell (by assumption) | exact Rd.oneCell (by assumption) | assumption) hb19 (fun w21 hXw21 hb19 => ?_))
    refine ⟨Ext.updL hS hXw21 hv19, ?_⟩
    have hS := Ext.updL hS hXw21 hv19
    have hB := hB.updL hXw21 hl19
    have hb1 := hb1.updD hXw21 hd1_19
    have ho21 := ho21.updD hXw21 (Dj.symm hd19_21)
    refine HP.doneS ?_
    refine CW.seq ?_
    refine CW.seq ?_
    refine CW.reg ?_
    refine WL.pure rfl rfl rfl (PV.assign rfl) ?_
    refine WL.nilS ?_
    refine CW.block ?_
    have hlt1 := hb1.ltO
    have hlt19 := hb19.ltO
    have hlt21 := ho21.ltO
    refine CW.loop (σk := [(2, _), (4, _), (5, _)]) (fun ρ wz m => ∃ (v22 : Value) (og22 : Option Nat) (j : Nat), ρ = [(6, .int .i64 (j : Nat))] ∧ m = (a0 + 1).toNat - j ∧ UpdL [og21, (some b19.block)] w21 wz ∧ Osl VI wz og22 v22 (allT a0 j xa1) ∧ OgR w21 og21 og22 ∧ Bx wz b19 [.int .i64 a0, v22] ∧ ((j : Int) ≤ a0 + 1)) (ρ₀ := [(6, _)]) (m₀ := _) ⟨rfl, rfl, rfl, rfl, trivial⟩ ⟨v21, og21, 0, rfl, rfl, (UpdL.refl _ _), osE ho21 (by first | rfl | (simp; rfl)), OgR.refl _ _, bxE hb19 (by first | rfl | (simp_all; done) | (simp_all; omega)), (by first | omega | rfl | (simp; done) | assumption | (simp_all; done))⟩ ?_
    rintro _ wl7 _ ⟨v22, og22, j, rfl, rfl, hU0, ho22, ha22, hb19, hj⟩
    have hb1 := hb1.loop hU0 ⟨hd1_21, hd1_19, trivial⟩
    have hl22 := Lo.ogr hl21 hB ha22
    have hg0_22 := ha22
    have hk0_22 : OkB [og21, (some b19.block)] w21 og22 := OkB.ogr (OkB.mem (by simp)) (Nat.le_refl _) ha22
    have hd1_22 := Dj.ogr hd1_21 hlt1 ha22
    have hd19_22 := Dj.ogr hd19_21 hlt19 ha22
    have hk0_19 : OkB [og21, (some b19.block)] w21 (some b19.block) := OkB.mem (by simp)
    have hB := hB.loop hU0 ⟨hl21, hl19, trivial⟩
    refine CW.seq ?_
    refine CW.seq ?_
    refine CW.reg ?_
    refine WL.pure rfl rfl rfl (PV.move rfl) ?_
    refine WL.pure rfl rfl rfl (PV.move rfl) ?_
    refine WL.pure rfl rfl rfl (PV.lss rfl rfl) ?_
    refine WL.nilS ?_
    refine CW.cond rfl (fun hc15 => ?_) (fun hc15 => ?_)
    · skip
      try simp only [decide_eq_true_eq, decide_eq_false_iff_not, Bool.not_eq_true', Bool.not_eq_false', Bool.not_eq_eq_eq_not, Bool.not_true, Bool.not_false, Int.not_lt, Int.not_le, Classical.not_not, beq_iff_eq, beq_eq_false_iff_ne] at hc15
      refine CW.skipS ?_
      refine CW.seq ?_
      refine CW.block ?_
      refine CW.seq ?_
      refine CW.reg ?_
      refine WL.pure rfl rfl rfl (PV.assign rfl) ?_
      refine WL.nilS ?_
      refine CW.block ?_
      have hlt1 := hb1.ltO
      have hlt19 := hb19.ltO
      have hlt22 := ho22.ltO
      refine CW.loop (σk := [(2, _), (4, _), (5, _), (6, _)]) (fun ρ wz m => ∃ (v24 : Value) (og24 : Option Nat) (i : Nat), ρ = [(7, .int .i64 (i : Nat))] ∧ m = (a0 + 1).toNat - i ∧ UpdL [og22, (some b19.block)] wl7 wz ∧ Osl VI wz og24 v24 (passT a0 j i (allT a0 j xa1)) ∧ OgR wl7 og22 og24 ∧ Bx wz b19 [.int .i64 a0, v24] ∧ ((i : Int) ≤ a0 + 1)) (ρ₀ := [(7, _)]) (m₀ := _) ⟨rfl, rfl, rfl, rfl, rfl, trivial⟩ ⟨v22, og22, 0, rfl, rfl, (UpdL.refl _ _), osE ho22 (by rfl), OgR.refl _ _, bxE hb19 (by first | rfl | (simp_all; done) | (simp_all; omega)), (by first | omega | rfl | (simp; done) | assumption | (simp_all; done))⟩ ?_
      rintro _ wl8 _ ⟨v24, og24, i, rfl, rfl, hU1, ho24, ha24, hb19, hi⟩
      have hU0 := hU0.trans hU1 ⟨hk0_22, hk0_19, trivial⟩
      have hb1 := hb1.loop hU1 ⟨hd1_22, hd1_19, trivial⟩
      have hl24 := Lo.ogr hl22 hB ha24
      have hg1_24 := ha24
      have hk1_24 : OkB [og22, (some b19.block)] wl7 og24 := OkB.ogr (OkB.mem (by simp)) (Nat.le_refl _) ha24
      have hk0_24 := OkB.ogr hk0_22 (by first | assumption | exact UpdL.size (by assumption)) ha24
      have hg0_24 := OgR.trans hg0_22 (by first | assumption | exact UpdL.size (by assumption)) ha24
      have hd1_24 := Dj.ogr hd1_22 hlt1 ha24
      have hd19_24 := Dj.ogr hd19_22 hlt19 ha24
      have hk1_19 : OkB [og22, (some b19.block)] wl7 (some b19.block) := OkB.mem (by simp)
      have hB := hB.loop hU1 ⟨hl22, hl19, trivial⟩
      refine CW.seq ?_
      refine CW.seq ?_
      refine CW.reg ?_
      refine WL.pure rfl rfl rfl (PV.move rfl) ?_
      refine WL.pure rfl rfl rfl (PV.move rfl) ?_
      refine WL.pure rfl rfl rfl (PV.lss rfl rfl) ?_
      refine WL.nilS ?_
      refine CW.cond rfl (fun hc16 => ?_) (fun hc16 => ?_)
      · skip
        try simp only [decide_eq_true_eq, decide_eq_false_iff_not, Bool.not_eq_true', Bool.not_eq_false', Bool.not_eq_eq_eq_not, Bool.not_true, Bool.not_false, Int.not_lt, Int.not_le, Classical.not_not, beq_iff_eq, beq_eq_false_iff_ne] at hc16
        refine CW.skipS ?_
        refine CW.seq ?_
        refine CW.block ?_
        refine CW.seq ?_
        refine CW.reg ?_
        refine WL.pure rfl rfl rfl (PV.assign rfl) ?_
        refine WL.nilS ?_
        refine CW.block ?_
        have hlt1 := hb1.ltO
        have hlt19 := hb19.ltO
        have hlt24 := ho24.ltO
        refine CW.loop (σk := [(2, _), (4, _), (5, _), (6, _), (7, _)]) (fun ρ wz m => ∃ (v26 : Value) (og26 : Option Nat) (k : Nat), ρ = [(8, .int .i64 (k : Nat))] ∧ m = (a0 + 1).toNat - k ∧ UpdL [og24, (some b19.block)] wl8 wz ∧ Osl VI wz og26 v26 (rowT a0 j i k (passT a0 j i (allT a0 j xa1))) ∧ OgR wl8 og24 og26 ∧ Bx wz b19 [.int .i64 a0, v26] ∧ ((k : Int) ≤ a0 + 1)) (ρ₀ := [(8, _)]) (m₀ := _) ⟨rfl, rfl, rfl, rfl, rfl, rfl, trivial⟩ ⟨v24, og24, 0, rfl, rfl, (UpdL.refl _ _), osE ho24 (by rfl), OgR.refl _ _, bxE hb19 (by first | rfl | (simp_all; done) | (simp_all; omega)), (by first | omega | rfl | (simp; done) | assumption | (simp_all; done))⟩ ?_
        rintro _ wl9 _ ⟨v26, og26, k, rfl, rfl, hU2, ho26, ha26, hb19, hk⟩
        have hU0 := hU0.trans hU2 ⟨hk0_24, hk0_19, trivial⟩
        have hU1 := hU1.trans hU2 ⟨hk1_24, hk1_19, trivial⟩
        have hb1 := hb1.loop hU2 ⟨hd1_24, hd1_19, trivial⟩
        have hl26 := Lo.ogr hl24 hB ha26
        have hg2_26 := ha26
        have hk2_26 : OkB [og24, (some b19.block)] wl8 og26 := OkB.ogr (OkB.mem (by simp)) (Nat.le_refl _) ha26
        have hk0_26 := OkB.ogr hk0_24 (by first | assumption | exact UpdL.size (by assumption)) ha26
        have hg0_26 := OgR.trans hg0_24 (by first | assumption | exact UpdL.size (by assumption)) ha26
        have hk1_26 := OkB.ogr hk1_24 (by first | assumption | exact UpdL.size (by assumption)) ha26
        have hg1_26 := OgR.trans hg1_24 (by first | assumption | exact UpdL.size (by assumption)) ha26
        have hd1_26 := Dj.ogr hd1_24 hlt1 ha26
        have hd19_26 := Dj.ogr hd19_24 hlt19 ha26
        have hk2_19 : OkB [og24, (some b19.block)] wl8 (some b19.block) := OkB.mem (by simp)
        have hB := hB.loop hU2 ⟨hl24, hl19, trivial⟩
        have hl0 : (rowT a0 j i k (passT a0 j i (allT a0 j xa1))).length = xa1.length := by rw [rowT_len, passT_len, allT_len]
        refine CW.seq ?_
        refine CW.seq ?_
        refine CW.reg ?_
        refine WL.pure rfl rfl rfl (PV.move rfl) ?_
        refine WL.pure rfl rfl rfl (PV.move rfl) ?_
        refine WL.pure rfl rfl rfl (PV.lss rfl rfl) ?_
        refine WL.nilS ?_
        refine CW.cond rfl (fun hc17 => ?_) (fun hc17 => ?_)
        · skip
          try simp only [decide_eq_true_eq, decide_eq_false_iff_not, Bool.not_eq_true', Bool.not_eq_false', Bool.not_eq_eq_eq_not, Bool.not_true, Bool.not_false, Int.not_lt, Int.not_le, Classical.not_not, beq_iff_eq, beq_eq_false_iff_ne] at hc17
          refine CW.skipS ?_
          refine CW.seq ?_
          refine CW.block ?_
          refine CW.seq ?_
          refine CW.reg ?_
          refine WL.pure rfl rfl rfl ((by first | exact PV.fieldAddr T.fl27_1 rfl (by first | assumption | exact Bx.cells (by assumption)) | exact PV.fieldAddrP T.fl27_1 rfl rfl)) ?_
          refine WL.pure rfl rfl rfl ((by first | exact PV.load0 T.na22 rfl (by first | exact Cells.up (by assumption) hB | exact Bx.cells (by assumption) | assumption) (Ext.refl _) rfl | exact PV.load1 T.na22 rfl (by first | exact Cells.up (by assumption) hB | exact Bx.cells (by assumption) | assumption) (Ext.refl _) rfl)) ?_
          refine WL.pure rfl rfl rfl (PV.move rfl) ?_
          refine WL.pure rfl rfl rfl (PV.move rfl) ?_
          refine WL.pure rfl rfl rfl (PV.mul rfl rfl (by constructor <;> (have hix := idx_lt (c := a0) (i := i) (k := j) (n := xa1.length) (by omega) (by omega) (by omega) (by omega); omega))) ?_
          refine WL.pure rfl rfl rfl (PV.move rfl) ?_
          refine WL.pure rfl rfl rfl (PV.add rfl rfl (by constructor <;> (have hix := idx_lt (c := a0) (i := i) (k := j) (n := xa1.length) (by omega) (by omega) (by omega) (by omega); omega))) ?_
          first
            | refine WL.atO (x := .tmp 43) (y := .tmp 48) (f := VI) (0) rfl rfl ho26 (by have hix := idx_lt (c := a0) (i := i) (k := j) (n := xa1.length) (by omega) (by omega) (by omega) (by omega); omega) (fun p9 hpp9 hcp9 => ?_)
            | refine WL.atOZ (x := .tmp 43) (y := .tmp 48) (f := VI) (0) rfl rfl ho26 (by have hix := idx_lt (c := a0) (i := i) (k := j) (n := xa1.length) (by omega) (by omega) (by omega) (by omega); omega) (fun p9 hpp9 hzp9 hcp9 => ?_)
          refine WL.pure rfl rfl rfl ((by first | exact PV.indexAddr hpp9 rfl rfl T.sl22 | exact PV.indexAddr hpp9 rfl (by rw [← hzp9]; rfl) T.sl22)) ?_
          refine WL.pure rfl rfl rfl ((by first | exact PV.load0 T.na2 rfl (by first | exact Cells.up (by assumption) hB | exact Bx.cells (by assumption) | assumption) (Ext.refl _) rfl | exact PV.load1 T.na2 rfl (by first | exact Cells.up (by assumption) hB | exact Bx.cells (by assumption) | assumption) (Ext.refl _) rfl)) ?_
          refine WL.pure rfl rfl rfl (PV.assign rfl) ?_
          refine WL.nilS ?_
          refine CW.seq ?_
          refine CW.reg ?_
          refine WL.pure rfl rfl rfl ((by first | exact PV.fieldAddr T.fl27_1 rfl (by first | assumption | exact Bx.cells (by assumption)) | exact PV.fieldAddrP T.fl27_1 rfl rfl)) ?_
          refine WL.pure rfl rfl rfl ((by first | exact PV.load0 T.na22 rfl (by first | exact Cells.up (by assumption) hB | exact Bx.cells (by assumption) | assumption) (Ext.refl _) rfl | exact PV.load1 T.na22 rfl (by first | exact Cells.up (by assumption) hB | exact Bx.cells (by assumption) | assumption) (Ext.refl _) rfl)) ?_
          refine WL.pure rfl rfl rfl (PV.move rfl) ?_
          refine WL.pure rfl rfl rfl (PV.move rfl) ?_
          refine WL.pure rfl rfl rfl (PV.mul rfl rfl (by constructor <;> (have hix := idx_lt (c := a0) (i := j) (k := k) (n := xa1.length) (by omega) (by omega) (by omega) (by omega); omega))) ?_
          refine WL.pure rfl rfl rfl (PV.move rfl) ?_
          refine WL.pure rfl rfl rfl (PV.add rfl rfl (by constructor <;> (have hix := idx_lt (c := a0) (i := j) (k := k) (n := xa1.length) (by omega) (by omega) (by omega) (by omega); omega))) ?_
          first
            | refine WL.atO (x := .tmp 52) (y := .tmp 57) (f := VI) (0) rfl rfl ho26 (by have hix := idx_lt (c := a0) (i := j) (k := k) (n := xa1.length) (by omega) (by omega) (by omega) (by omega); omega) (fun p10 hpp10 hcp10 => ?_)
            | refine WL.atOZ (x := .tmp 52) (y := .tmp 57) (f := VI) (0) rfl rfl ho26 (by have hix := idx_lt (c := a0) (i := j) (k := k) (n := xa1.length) (by omega) (by omega) (by omega) (by omega); omega) (fun p10 hpp10 hzp10 hcp10 => ?_)
          refine WL.pure rfl rfl rfl ((by first | exact PV.indexAddr hpp10 rfl rfl T.sl22 | exact PV.indexAddr hpp10 rfl (by rw [← hzp10]; rfl) T.sl22)) ?_
          refine WL.pure rfl rfl rfl ((by first | exact PV.load0 T.na2 rfl (by first | exact Cells.up (by assumption) hB | exact Bx.cells (by assumption) | assumption) (Ext.refl _) rfl | exact PV.load1 T.na2 rfl (by first | exact Cells.up (by assumption) hB | exact Bx.cells (by assumption) | assumption) (Ext.refl _) rfl)) ?_
          refine WL.pure rfl rfl rfl (PV.assign rfl) ?_
          refine WL.nilS ?_
          refine CW.seq ?_
          refine CW.reg ?_
          refine WL.pure rfl rfl rfl (PV.move rfl) ?_
          refine WL.pure rfl rfl rfl (PV.neq rfl rfl) ?_
          refine WL.pure rfl rfl rfl (PV.move rfl) ?_
          refine WL.split (t := 62) rfl (fun hc18 => ?_) (fun hc18 => ?_)
          rotate_left
          · skip
            try simp only [decide_eq_true_eq, decide_eq_false_iff_not, Bool.not_eq_true', Bool.not_eq_false', Bool.not_eq_eq_eq_not, Bool.not_true, Bool.not_false, Int.not_lt, Int.not_le, Classical.not_not, beq_iff_eq, beq_eq_false_iff_ne] at hc18
            refine WL.skip rfl rfl rfl rfl rfl ?_
            refine WL.skip rfl rfl rfl rfl rfl ?_
            refine WL.pure rfl rfl rfl (PV.pickF rfl rfl) ?_
            refine WL.pure rfl rfl rfl (PV.move rfl) ?_
            refine WL.skip rfl rfl rfl rfl rfl ?_
            refine WL.skip rfl rfl rfl rfl rfl ?_
            refine WL.skip rfl rfl rfl rfl rfl ?_
            refine WL.skip rfl rfl rfl rfl rfl ?_
            refine WL.skip rfl rfl rfl rfl rfl ?_
            refine WL.skip rfl rfl rfl rfl rfl ?_
            refine WL.skip rfl rfl rfl rfl rfl ?_
            refine WL.skip rfl rfl rfl rfl rfl ?_
            refine WL.skip rfl rfl rfl rfl rfl ?_
            refine WL.skip rfl rfl rfl rfl rfl ?_
            refine WL.skip rfl rfl rfl rfl rfl ?_
            refine WL.skip rfl rfl rfl rfl rfl ?_
            refine WL.skip rfl rfl rfl rfl rfl ?_
            refine WL.pure rfl rfl rfl (PV.pickF rfl rfl) ?_
            refine WL.nilS ?_
            refine CW.condF rfl ?_
            refine CW.skip ?_
            refine NQ.block ?_
            refine NQ.then ?_
            refine CW.reg ?_
            refine WL.pure rfl rfl rfl (PV.move rfl) ?_
            refine WL.pure rfl rfl rfl (PV.add rfl rfl (by constructor <;> omega)) ?_
            refine WL.pure rfl rfl rfl (PV.assign rfl) ?_
            refine WL.nil ?_
            refine NQ.next (ρ := [(8, _)]) ⟨rfl, rfl, rfl, rfl, rfl, rfl, trivial⟩ ?_
            exact ⟨_, ⟨v26, og26, k + 1, rfl, rfl, hU2, osE ho26 (by first | exact stepT_yes (by assumption) (by assumption) (by assumption) | exact stepT_n1 (by simp only [zat]; omega) | exact stepT_n2 (by simp only [zat]; omega) | exact stepT_n3 (by simp only [zat]; omega)), (by first | exact hg2_26 | exact OgR.weak hg2_26), bxE hb19 (by first | rfl | (simp_all; done) | (simp_all; omega)), (by first | omega | assumption | (simp_all; done) | (simp_all; omega))⟩, by omega⟩
          try simp only [decide_eq_true_eq, decide_eq_false_iff_not, Bool.not_eq_true', Bool.not_eq_false', Bool.not_eq_eq_eq_not, Bool.not_true, Bool.not_false, Int.not_lt, Int.not_le, Classical.not_not, beq_iff_eq, beq_eq_false_iff_ne] at hc18
          refine WL.pureG rfl rfl rfl rfl rfl (PV.move rfl) ?_
          refine WL.pureG rfl rfl rfl rfl rfl (PV.neq rfl rfl) ?_
          refine WL.pure rfl rfl rfl (PV.pickT rfl rfl) ?_
          refine WL.pure rfl rfl rfl (PV.move rfl) ?_
          refine WL.split (t := 66) rfl (fun hc19 => ?_) (fun hc19 => ?_)
          rotate_left
          · skip
            try simp only [decide_eq_true_eq, decide_eq_false_iff_not, Bool.not_eq_true', Bool.not_eq_false', Bool.not_eq_eq_eq_not, Bool.not_true, Bool.not_false, Int.not_lt, Int.not_le, Classical.not_not, beq_iff_eq, beq_eq_false_iff_ne] at hc19
            refine WL.skip rfl rfl rfl rfl rfl ?_
            refine WL.skip rfl rfl rfl rfl rfl ?_
            refine WL.skip rfl rfl rfl rfl rfl ?_
            refine WL.skip rfl rfl rfl rfl rfl ?_
            refine WL.skip rfl rfl rfl rfl rfl ?_
            refine WL.skip rfl rfl rfl rfl rfl ?_
            refine WL.skip rfl rfl rfl rfl rfl ?_
            refine WL.skip rfl rfl rfl rfl rfl ?_
            refine WL.skip rfl rfl rfl rfl rfl ?_
            refine WL.skip rfl rfl rfl rfl rfl ?_
            refine WL.skip rfl rfl rfl rfl rfl ?_
            refine WL.skip rfl rfl rfl rfl rfl ?_
            refine WL.skip rfl rfl rfl rfl rfl ?_
            refine WL.pure rfl rfl rfl (PV.pickF rfl rfl) ?_
            refine WL.nilS ?_
            refine CW.condF rfl ?_
            refine CW.skip ?_
            refine NQ.block ?_
            refine NQ.then ?_
            refine CW.reg ?_
            refine WL.pure rfl rfl rfl (PV.move rfl) ?_
            refine WL.pure rfl rfl rfl (PV.add rfl rfl (by constructor <;> omega)) ?_
            refine WL.pure rfl rfl rfl (PV.assign rfl) ?_
            refine WL.nil ?_
            refine NQ.next (ρ := [(8, _)]) ⟨rfl, rfl, rfl, rfl, rfl, rfl, trivial⟩ ?_
            exact ⟨_, ⟨v26, og26, k + 1, rfl, rfl, hU2, osE ho26 (by first | exact stepT_yes (by assumption) (by assumption) (by assumption) | exact stepT_n1 (by simp only [zat]; omega) | exact stepT_n2 (by simp only [zat]; omega) | exact stepT_n3 (by simp only [zat]; omega)), (by first | exact hg2_26 | exact OgR.weak hg2_26), bxE hb19 (by first | rfl | (simp_all; done) | (simp_all; omega)), (by first | omega | assumption | (simp_all; done) | (simp_all; omega))⟩, by omega⟩
          try simp only [decide_eq_true_eq, decide_eq_false_iff_not, Bool.not_eq_true', Bool.not_eq_false', Bool.not_eq_eq_eq_not, Bool.not_true, Bool.not_false, Int.not_lt, Int.not_le, Classical.not_not, beq_iff_eq, beq_eq_false_iff_ne] at hc19
          refine WL.pureG rfl rfl rfl rfl rfl (PV.move rfl) ?_
          refine WL.pureG rfl rfl rfl rfl rfl (PV.move rfl) ?_
          refine WL.pureG rfl rfl rfl rfl rfl (PV.addW rfl rfl) ?_
          refine WL.pureG rfl rfl rfl rfl rfl ((by first | exact PV.fieldAddr T.fl27_1 rfl (by first | assumption | exact Bx.cells (by assumption)) | exact PV.fieldAddrP T.fl27_1 rfl rfl)) ?_
          refine WL.pureG rfl rfl rfl rfl rfl ((by first | exact PV.load0 T.na22 rfl (by first | exact Cells.up (by assumption) hB | exact Bx.cells (by assumption) | assumption) (Ext.refl _) rfl | exact PV.load1 T.na22 rfl (by first | exact Cells.up (by assumption) hB | exact Bx.cells (by assumption) | assumption) (Ext.refl _) rfl)) ?_
          refine WL.pureG rfl rfl rfl rfl rfl (PV.move rfl) ?_
          refine WL.pureG rfl rfl rfl rfl rfl (PV.move rfl) ?_
          refine WL.pureG rfl rfl rfl rfl rfl (PV.mul rfl rfl (by constructor <;> (have hix := idx_lt (c := a0) (i := i) (k := k) (n := xa1.length) (by omega) (by omega) (by omega) (by omega); omega))) ?_
          refine WL.pureG rfl rfl rfl rfl rfl (PV.move rfl) ?_
          refine WL.pureG rfl rfl rfl rfl rfl (PV.add rfl rfl (by constructor <;> (have hix := idx_lt (c := a0) (i := i) (k := k) (n := xa1.length) (by omega) (by omega) (by omega) (by omega); omega))) ?_
          first
            | refine WL.atO (x := .tmp 71) (y := .tmp 76) (f := VI) (0) rfl rfl ho26 (by have hix := idx_lt (c := a0) (i := i) (k := k) (n := xa1.length) (by omega) (by omega) (by omega) (by omega); omega) (fun p11 hpp11 hcp11 => ?_)
            | refine WL.atOZ (x := .tmp 71) (y := .tmp 76) (f := VI) (0) rfl rfl ho26 (by have hix := idx_lt (c := a0) (i := i) (k := k) (n := xa1.length) (by omega) (by omega) (by omega) (by omega); omega) (fun p11 hpp11 hzp11 hcp11 => ?_)
          refine WL.pureG rfl rfl rfl rfl rfl ((by first | exact PV.indexAddr hpp11 rfl rfl T.sl22 | exact PV.indexAddr hpp11 rfl (by rw [← hzp11]; rfl) T.sl22)) ?_
          refine WL.pureG rfl rfl rfl rfl rfl ((by first | exact PV.load0 T.na2 rfl (by first | exact Cells.up (by assumption) hB | exact Bx.cells (by assumption) | assumption) (Ext.refl _) rfl | exact PV.load1 T.na2 rfl (by first | exact Cells.up (by assumption) hB | exact Bx.cells (by assumption) | assumption) (Ext.refl _) rfl)) ?_
          refine WL.pureG rfl rfl rfl rfl rfl (PV.lss rfl rfl) ?_
          refine WL.pure rfl rfl rfl (PV.pickT rfl rfl) ?_
          refine WL.nilS ?_
          refine CW.cond rfl (fun hc20 => ?_) (fun hc20 => ?_)
          · skip
            try simp only [decide_eq_true_eq, decide_eq_false_iff_not, Bool.not_eq_true', Bool.not_eq_false', Bool.not_eq_eq_eq_not, Bool.not_true, Bool.not_false, Int.not_lt, Int.not_le, Classical.not_not, beq_iff_eq, beq_eq_false_iff_ne] at hc20
            refine CW.reg ?_
            refine WL.pure rfl rfl rfl ((by first | exact PV.fieldAddr T.fl27_1 rfl (by first | assumption | exact Bx.cells (by assumption)) | exact PV.fieldAddrP T.fl27_1 rfl rfl)) ?_
            refine WL.pure rfl rfl rfl ((by first | exact PV.load0 T.na22 rfl (by first | exact Cells.up (by assumption) hB | exact Bx.cells (by assumption) | assumption) (Ext.refl _) rfl | exact PV.load1 T.na22 rfl (by first | exact Cells.up (by assumption) hB | exact Bx.cells (by assumption) | assumption) (Ext.refl _) rfl)) ?_
            refine WL.pure rfl rfl rfl (PV.move rfl) ?_
            refine WL.pure rfl rfl rfl (PV.move rfl) ?_
            refine WL.pure rfl rfl rfl (PV.mul rfl rfl (by constructor <;> (have hix := idx_lt (c := a0) (i := i) (k := k) (n := xa1.length) (by omega) (by omega) (by omega) (by omega); omega))) ?_
            refine WL.pure rfl rfl rfl (PV.move rfl) ?_
            refine WL.pure rfl rfl rfl (PV.add rfl rfl (by constructor <;> (have hix := idx_lt (c := a0) (i := i) (k := k) (n := xa1.length) (by omega) (by omega) (by omega) (by omega); omega))) ?_
            refine WL.pure rfl rfl rfl (PV.move rfl) ?_
            refine WL.pure rfl rfl rfl (PV.move rfl) ?_
            refine WL.pure rfl rfl rfl (PV.addW rfl rfl) ?_
            first
              | refine WL.atO (x := .tmp 82) (y := .tmp 87) (f := VI) (0) rfl rfl ho26 (by have hix := idx_lt (c := a0) (i := i) (k := k) (n := xa1.length) (by omega) (by omega) (by omega) (by omega); omega) (fun p12 hpp12 hcp12 => ?_)
              | refine WL.atOZ (x := .tmp 82) (y := .tmp 87) (f := VI) (0) rfl rfl ho26 (by have hix := idx_lt (c := a0) (i := i) (k := k) (n := xa1.length) (by omega) (by omega) (by omega) (by omega); omega) (fun p12 hpp12 hzp12 hcp12 => ?_)
            refine WL.pure rfl rfl rfl ((by first | exact PV.indexAddr hpp12 rfl rfl T.sl22 | exact PV.indexAddr hpp12 rfl (by rw [← hzp12]; rfl) T.sl22)) ?_
            refine WL.op rfl (OpK.storeS VI T.sz2 rfl rfl rfl hpp12 ho26 (fun w22 hXw22 ho26 => ?_))
            have hB := hB.updL hXw22 hl26
            have hb1 := hb1.updD hXw22 hd1_26
            have hb19 := hb19.updD hXw22 hd19_26
            have hU0 := hU0.step hXw22 hk0_26
            have hU1 := hU1.step hXw22 hk1_26
            have hU2 := hU2.step hXw22 hk2_26
            refine WL.nil ?_
            refine NQ.block ?_
            refine NQ.then ?_
            refine CW.reg ?_
            refine WL.pure rfl rfl rfl (PV.move rfl) ?_
            refine WL.pure rfl rfl rfl (PV.add rfl rfl (by constructor <;> omega)) ?_
            refine WL.pure rfl rfl rfl (PV.assign rfl) ?_
            refine WL.nil ?_
            refine NQ.next (ρ := [(8, _)]) ⟨rfl, rfl, rfl, rfl, rfl, rfl, trivial⟩ ?_
            exact ⟨_, ⟨v26, og26, k + 1, rfl, rfl, hU2, osE ho26 (by first | exact stepT_yes (by assumption) (by assumption) (by assumption) | exact stepT_n1 (by simp only [zat]; omega) | exact stepT_n2 (by simp only [zat]; omega) | exact stepT_n3 (by simp only [zat]; omega)), (by first | exact hg2_26 | exact OgR.weak hg2_26), bxE hb19 (by first | rfl | (simp_all; done) | (simp_all; omega)), (by first | omega | assumption | (simp_all; done) | (simp_all; omega))⟩, by omega⟩
          try simp only [decide_eq_true_eq, decide_eq_false_iff_not, Bool.not_eq_true', Bool.not_eq_false', Bool.not_eq_eq_eq_not, Bool.not_true, Bool.not_false, Int.not_lt, Int.not_le, Classical.not_not, beq_iff_eq, beq_eq_false_iff_ne] at hc20
          refine CW.skip ?_
          refine NQ.block ?_
          refine NQ.then ?_
          refine CW.reg ?_
          refine WL.pure rfl rfl rfl (PV.move rfl) ?_
          refine WL.pure rfl rfl rfl (PV.add rfl rfl (by constructor <;> omega)) ?_
          refine WL.pure rfl rfl rfl (PV.assign rfl) ?_
          refine WL.nil ?_
          refine NQ.next (ρ := [(8, _)]) ⟨rfl, rfl, rfl, rfl, rfl, rfl, trivial⟩ ?_
          exact ⟨_, ⟨v26, og26, k + 1, rfl, rfl, hU2, osE ho26 (by first | exact stepT_yes (by assumption) (by assumption) (by assumption) | exact stepT_n1 (by simp only [zat]; omega) | exact stepT_n2 (by simp only [zat]; omega) | exact stepT_n3 (by simp only [zat]; omega)), (by first | exact hg2_26 | exact OgR.weak hg2_26), bxE hb19 (by first | rfl | (simp_all; done) | (simp_all; omega)), (by first | omega | assumption | (simp_all; done) | (simp_all; omega))⟩, by omega⟩
        try simp only [decide_eq_true_eq, decide_eq_false_iff_not, Bool.not_eq_true', Bool.not_eq_false', Bool.not_eq_eq_eq_not, Bool.not_true, Bool.not_false, Int.not_lt, Int.not_le, Classical.not_not, beq_iff_eq, beq_eq_false_iff_ne] at hc17
        refine CW.exit ?_
        refine XQ.then ?_
        refine XQ.then ?_
        refine XQ.here ?_
        refine NQ.block ?_
        refine NQ.then ?_
        refine CW.reg ?_
        refine WL.pure rfl rfl rfl (PV.move rfl) ?_
        refine WL.pure rfl rfl rfl (PV.add rfl rfl (by constructor <;> omega)) ?_
        refine WL.pure rfl rfl rfl (PV.assign rfl) ?_
        refine WL.nil ?_
        refine NQ.next (ρ := [(7, _)]) ⟨rfl, rfl, rfl, rfl, rfl, trivial⟩ ?_
        exact ⟨_, ⟨v26, og26, i + 1, rfl, rfl, hU1, osE ho26 (by exact passT_succ (by omega)), (by first | exact hg1_26 | exact OgR.weak hg1_26), bxE hb19 (by first | rfl | (simp_all; done) | (simp_all; omega)), (by first | omega | assumption | (simp_all; done) | (simp_all; omega))⟩, by omega⟩
      try simp only [decide_eq_true_eq, decide_eq_false_iff_not, Bool.not_eq_true', Bool.not_eq_false', Bool.not_eq_eq_eq_not, Bool.not_true, Bool.not_false, Int.not_lt, Int.not_le, Classical.not_not, beq_iff_eq, beq_eq_false_iff_ne] at hc16
      refine CW.exit ?_
      refine XQ.then ?_
      refine XQ.then ?_
      refine XQ.here ?_
      refine NQ.block ?_
      refine NQ.then ?_
      refine CW.reg ?_
      refine WL.pure rfl rfl rfl (PV.move rfl) ?_
      refine WL.pure rfl rfl rfl (PV.add rfl rfl (by constructor <;> omega)) ?_
      refine WL.pure rfl rfl rfl (PV.assign rfl) ?_
      refine WL.nil ?_
      refine NQ.next (ρ := [(6, _)]) ⟨rfl, rfl, rfl, rfl, trivial⟩ ?_
      exact ⟨_, ⟨v24, og24, j + 1, rfl, rfl, hU0, osE ho24 (by exact allT_succ (by omega)), (by first | exact hg0_24 | exact OgR.weak hg0_24), bxE hb19 (by first | rfl | (simp_all; done) | (simp_all; omega)), (by first | omega | assumption | (simp_all; done) | (simp_all; omega))⟩, by omega⟩
    try simp only [decide_eq_true_eq, decide_eq_false_iff_not, Bool.not_eq_true', Bool.not_eq_false', Bool.not_eq_eq_eq_not, Bool.not_true, Bool.not_false, Int.not_lt, Int.not_le, Classical.not_not, beq_iff_eq, beq_eq_false_iff_ne] at hc15
    refine CW.exit ?_
    refine XQ.then ?_
    refine XQ.then ?_
    refine XQ.here ?_
    refine NQ.then ?_
    refine CW.seq ?_
    refine CW.seq ?_
    refine CW.reg ?_
    obtain rfl : j = (a0 + 1).toNat := (by omega)
    refine WL.op rfl (OpK.callR rfl T.cf64 rfl (c_spec_l07Zone (by first | exact Bx.cells (by assumption) | exact Cells.up (by assumption) hB | assumption) (by first | assumption | exact Rd.up (by assumption) hB | exact Osl.rd (by assumption) | exact Osn.rdR (by assumption))) (fun w23 hXw23 => ?_))
    have hB := hB.trans hXw23
    have hb1 := hb1.up hXw23
    have hb19 := hb19.up hXw23
    have ho22 := ho22.up hXw23
    refine WL.pure rfl rfl rfl (PV.not rfl) ?_
    refine WL.nilS ?_
    refine CW.cond rfl (fun hc21 => ?_) (fun hc21 => ?_)
    · skip
      try simp only [decide_eq_true_eq, decide_eq_false_iff_not, Bool.not_eq_true', Bool.not_eq_false', Bool.not_eq_eq_eq_not, Bool.not_true, Bool.not_false, Int.not_lt, Int.not_le, Classical.not_not, beq_iff_eq, beq_eq_false_iff_ne] at hc21
      refine CW.seq ?_
      refine CW.reg ?_
      refine WL.pure rfl rfl rfl (PV.build (ks := []) (os := []) (css := []) (ds := [_, _]) T.bu27 rfl rfl trivial rfl) ?_
      refine WL.op rfl (OpK.storeA T.sz27 rfl rfl rfl rfl (by simp [Value.oneCell'] <;> first | done | (repeat' apply And.intro) <;> first | rfl | exact Osl.oneCell (by assumption) | exact Osn.oneCell (by assumption) | exact Rd.oneCell (by assumption) | assumption) hb1 (fun w24 hXw24 hb1 => ?_))
      have hB := hB.updL hXw24 hl1
      have hb19 := hb19.updD hXw24 (Dj.symm hd1_19)
      have ho22 := ho22.updD hXw24 (Dj.symm hd1_22)
      refine WL.pure rfl rfl rfl (PV.assign rfl) ?_
      refine WL.nilS ?_
      refine CW.ret ?_
      refine RQ.then ?_
      refine RQ.rc1 T.ag27 rfl (by first | exact Cells.up (by assumption) hB | exact Bx.cells (by assumption) | assumption) rfl rfl ?_
      refine ⟨hB, (.slice none 0 0), none, ?_, osE (Osl.nil _ _) ?_, Lo.nl _⟩
      · skip
        first | (exact tE2 (by rw [onI_no (by first | exact tightB_n1 (by assumption) | exact tightB_n2 (by unfold tightL; assumption))]) (bE (Bool.eq_false_iff.2 (by first | exact tightB_n1 (by assumption) | exact tightB_n2 (by unfold tightL; assumption))).symm)) | (exact tE2 (by rw [onI_no (by first | exact tightB_n1 (by assumption) | exact tightB_n2 (by unfold tightL; assumption))]; rfl) (bE (Bool.eq_false_iff.2 (by first | exact tightB_n1 (by assumption) | exact tightB_n2 (by unfold tightL; assumption))).symm)) | (exact tE2 (by rw [onI_yes (tightB_yes (by assumption) (by unfold tightL; assumption))]) (bE (tightB_yes (by assumption) (by unfold tightL; assumption)).symm)) | (exact tE2 (by rw [onI_yes (tightB_yes (by assumption) (by unfold tightL; assumption))]; rfl) (bE (tightB_yes (by assumption) (by unfold tightL; assumption)).symm))
      · skip
        first | (rw [onT_no (by first | exact tightB_n1 (by assumption) | exact tightB_n2 (by unfold tightL; assumption))]; done) | (rw [onT_yes (tightB_yes (by assumption) (by unfold tightL; assumption))]; first | done | rfl)
    try simp only [decide_eq_true_eq, decide_eq_false_iff_not, Bool.not_eq_true', Bool.not_eq_false', Bool.not_eq_eq_eq_not, Bool.not_true, Bool.not_false, Int.not_lt, Int.not_le, Classical.not_not, beq_iff_eq, beq_eq_false_iff_ne] at hc21
    refine CW.skipS ?_
    refine CW.seq ?_
    refine CW.reg ?_
    refine WL.pure rfl rfl rfl ((by first | exact PV.loadA T.ag27 rfl (by first | exact Cells.up (by assumption) hB | exact Bx.cells (by assumption) | assumption) (Ext.refl _) rfl | exact PV.loadP (ds := [_, _]) T.ag27 rfl (by first | exact Cells.up (by assumption) hB | exact Bx.cells (by assumption) | assumption) (Ext.refl _) rfl rfl)) ?_
    refine WL.op rfl (OpK.storeA T.sz27 rfl rfl rfl rfl (by simp [Value.oneCell'] <;> first | done | (repeat' apply And.intro) <;> first | rfl | exact Osl.oneCell (by assumption) | exact Osn.oneCell (by assumption) | exact Rd.oneCell (by assumption) | assumption) hb1 (fun w25 hXw25 hb1 => ?_))
    have hB := hB.updL hXw25 hl1
    have hb19 := hb19.updD hXw25 (Dj.symm hd1_19)
    have ho22 := ho22.updD hXw25 (Dj.symm hd1_22)
    refine WL.pure rfl rfl rfl (PV.assign rfl) ?_
    refine WL.nilS ?_
    refine CW.ret ?_
    refine RQ.rc1 T.ag27 rfl (by first | exact Cells.up (by assumption) hB | exact Bx.cells (by assumption) | assumption) rfl rfl ?_
    refine ⟨hB, v22, og22, ?_, osE ho22 ?_, hl22⟩
    · skip
      first | (exact tE2 (by rw [onI_no (by first | exact tightB_n1 (by assumption) | exact tightB_n2 (by unfold tightL; assumption))]) (bE (Bool.eq_false_iff.2 (by first | exact tightB_n1 (by assumption) | exact tightB_n2 (by unfold tightL; assumption))).symm)) | (exact tE2 (by rw [onI_no (by first | exact tightB_n1 (by assumption) | exact tightB_n2 (by unfold tightL; assumption))]; rfl) (bE (Bool.eq_false_iff.2 (by first | exact tightB_n1 (by assumption) | exact tightB_n2 (by unfold tightL; assumption))).symm)) | (exact tE2 (by rw [onI_yes (tightB_yes (by assumption) (by unfold tightL; assumption))]) (bE (tightB_yes (by assumption) (by unfold tightL; assumption)).symm)) | (exact tE2 (by rw [onI_yes (tightB_yes (by assumption) (by unfold tightL; assumption))]; rfl) (bE (tightB_yes (by assumption) (by unfold tightL; assumption)).symm))
    · skip
      first | (rw [onT_no (by first | exact tightB_n1 (by assumption) | exact tightB_n2 (by unfold tightL; assumption))]; done) | (rw [onT_yes (tightB_yes (by assumption) (by unfold tightL; assumption))]; first | done | rfl)
theorem c_spec_TightZone {w : World} {a0 : Int} {va1 : Value} {xa1 : List Int}  (ha1 : Rd EI w va1 xa1) : Calls Try.prog 54 #[.agg #[.int .i64 a0, va1]] w (Ret1 (fun v w' => Ext w w' ∧ ∃ u1 og_u1, v = .tuple #[.agg #[.int .i64 (onI (tightB a0 xa1) a0), u1], .bool (tightB a0 xa1)] ∧ Osl VI w' og_u1 u1 (onT (tightB a0 xa1) (tightL a0 xa1)) ∧ Lo w og_u1)) := by
  have hB : Ext w w := Ext.refl w
  have hla1 := ha1.leI
  refine callsOf (vs := [_]) Try.func54 rfl Try.ntmps54 rfl rfl ?_
  refine CW.seq ?_
  refine CW.reg ?_
  refine WL.op rfl (OpK.box rfl rfl (by first | rfl | exact Rd.cells1 (by assumption) | exact Osl.cells1 (by assumption) | exact Osn.cells1 (by assumption)) (fun b1 w1 hXw1 hb1 hge1 => ?_))
  have hl1 := Lo.new hB hge1
  have hB := hB.trans hXw1
  refine WL.op rfl (OpK.alloc rfl T.zv27 rfl (fun b2 w2 hXw2 hb2 hge2 => ?_))
  have hl2 := Lo.new hB hge2
  have hd1_2 := Dj.new hb1.ltO hge2
  have hB := hB.trans hXw2
  have hb1 := hb1.up hXw2
  refine WL.pure rfl rfl rfl (PV.assign rfl) ?_
  refine WL.nilS ?_
  refine CW.seq ?_
  refine CW.seq ?_
  refine CW.reg ?_
  refine WL.op rfl (OpK.callR rfl T.cf64 rfl (c_spec_l07Zone (by first | exact Bx.cells (by assumption) | exact Cells.up (by assumption) hB | assumption) (by first | assumption | exact Rd.up (by assumption) hB | exact Osl.rd (by assumption) | exact Osn.rdR (by assumption))) (fun w3 hXw3 => ?_))
  have hB := hB.trans hXw3
  have hb1 := hb1.up hXw3
  have hb2 := hb2.up hXw3
  refine WL.pure rfl rfl rfl (PV.not rfl) ?_
  refine WL.nilS ?_
  refine CW.cond rfl (fun hc1 => ?_) (fun hc1 => ?_)
  · skip
    try simp only [decide_eq_true_eq, decide_eq_false_iff_not, Bool.not_eq_true', Bool.not_eq_false', Bool.not_eq_eq_eq_not, Bool.not_true, Bool.not_false, Int.not_lt, Int.not_le, Classical.not_not, beq_iff_eq, beq_eq_false_iff_ne] at hc1
    refine CW.seq ?_
    refine CW.reg ?_
    refine WL.pure rfl rfl rfl (PV.build (ks := []) (os := []) (css := []) (ds := [_, _]) T.bu27 rfl rfl trivial rfl) ?_
    refine WL.op rfl (OpK.storeA T.sz27 rfl rfl rfl rfl (by simp [Value.oneCell'] <;> first | done | (repeat' apply And.intro) <;> first | rfl | exact Osl.oneCell (by assumption) | exact Osn.oneCell (by assumption) | exact Rd.oneCell (by assumption) | assumption) hb2 (fun w4 hXw4 hb2 => ?_))
    have hB := hB.updL hXw4 hl2
    have hb1 := hb1.updD hXw4 hd1_2
    refine WL.pure rfl rfl rfl (PV.assign rfl) ?_
    refine WL.nilS ?_
    refine CW.ret ?_
    refine RQ.then ?_
    refine RQ.rc1 T.ag27 rfl (by first | exact Cells.up (by assumption) hB | exact Bx.cells (by assumption) | assumption) rfl rfl ?_
    refine ⟨hB, (.slice none 0 0), none, ?_, osE (Osl.nil _ _) ?_, Lo.nl _⟩
    · skip
      first | rfl | (exact tE2 (by rw [onI_no (by first | exact tightB_n1 (by assumption) | exact tightB_n2 (by unfold tightL; assumption))]) (bE (Bool.eq_false_iff.2 (by first | exact tightB_n1 (by assumption) | exact tightB_n2 (by unfold tightL; assumption))).symm)) | (exact tE2 (by rw [onI_no (by first | exact tightB_n1 (by assumption) | exact tightB_n2 (by unfold tightL; assumption))]; rfl) (bE (Bool.eq_false_iff.2 (by first | exact tightB_n1 (by assumption) | exact tightB_n2 (by unfold tightL; assumption))).symm)) | (exact tE2 (by rw [onI_yes (tightB_yes (by assumption) (by unfold tightL; assumption))]) (bE (tightB_yes (by assumption) (by unfold tightL; assumption)).symm)) | (exact tE2 (by rw [onI_yes (tightB_yes (by assumption) (by unfold tightL; assumption))]; rfl) (bE (tightB_yes (by assumption) (by unfold tightL; assumption)).symm))
    · skip
      first | rfl | (rw [onT_no (by first | exact tightB_n1 (by assumption) | exact tightB_n2 (by unfold tightL; assumption))]; done) | (rw [onT_yes (tightB_yes (by assumption) (by unfold tightL; assumption))]; first | done | rfl)
  try simp only [decide_eq_true_eq, decide_eq_false_iff_not, Bool.not_eq_true', Bool.not_eq_false', Bool.not_eq_eq_eq_not, Bool.not_true, Bool.not_false, Int.not_lt, Int.not_le, Classical.not_not, beq_iff_eq, beq_eq_false_iff_ne] at hc1
  refine CW.skipS ?_
  refine CW.seq ?_
  refine CW.reg ?_
  refine WL.op rfl (OpK.call rfl T.cf81 rfl (c_spec_l07Tight (by first | exact Bx.cells (by assumption) | exact Cells.up (by assumption) hB | assumption) (by first | assumption | exact Rd.up (by assumption) hB | exact Osl.rd (by assumption) | exact Osn.rdR (by assumption)) (by first | assumption | omega | (simp only [marks_len, marksB_len]; omega))) (fun rv1 w5 hR => ?_))
  obtain ⟨hXw5, v3, og3, rfl, ho3, hq3⟩ := hR
  have hl3 := Lo.up hq3 hB
  have hd1_3 := Dj.lo hb1.ltO hq3
  have hd2_3 := Dj.lo hb2.ltO hq3
  have hB := hB.trans hXw5
  have hb1 := hb1.up hXw5
  have hb2 := hb2.up hXw5
  refine WL.pure rfl rfl rfl (PV.extract rfl rfl) ?_
  refine WL.pure rfl rfl rfl (PV.extract rfl rfl) ?_
  refine WL.op rfl (OpK.storeA T.sz27 rfl rfl rfl rfl (by simp [Value.oneCell'] <;> first | done | (repeat' apply And.intro) <;> first | rfl | exact Osl.oneCell (by assumption) | exact Osn.oneCell (by assumption) | exact Rd.oneCell (by assumption) | assumption) hb2 (fun w6 hXw6 hb2 => ?_))
  have hB := hB.updL hXw6 hl2
  have hb1 := hb1.updD hXw6 hd1_2
  have ho3 := ho3.updD hXw6 (Dj.symm hd2_3)
  refine WL.pure rfl rfl rfl (PV.assign rfl) ?_
  refine WL.nilS ?_
  refine CW.ret ?_
  refine RQ.rc1 T.ag27 rfl (by first | exact Cells.up (by assumption) hB | exact Bx.cells (by assumption) | assumption) rfl rfl ?_
  refine ⟨hB, v3, og3, ?_, osE ho3 ?_, hl3⟩
  · skip
    first | rfl | (exact tE2 (by rw [onI_no (by first | exact tightB_n1 (by assumption) | exact tightB_n2 (by unfold tightL; assumption))]) (bE (Bool.eq_false_iff.2 (by first | exact tightB_n1 (by assumption) | exact tightB_n2 (by unfold tightL; assumption))).symm)) | (exact tE2 (by rw [onI_no (by first | exact tightB_n1 (by assumption) | exact tightB_n2 (by unfold tightL; assumption))]; rfl) (bE (Bool.eq_false_iff.2 (by first | exact tightB_n1 (by assumption) | exact tightB_n2 (by unfold tightL; assumption))).symm)) | (exact tE2 (by rw [onI_yes (tightB_yes (by assumption) (by unfold tightL; assumption))]) (bE (tightB_yes (by assumption) (by unfold tightL; assumption)).symm)) | (exact tE2 (by rw [onI_yes (tightB_yes (by assumption) (by unfold tightL; assumption))]; rfl) (bE (tightB_yes (by assumption) (by unfold tightL; assumption)).symm))
  · skip
    first | rfl | (rw [onT_no (by first | exact tightB_n1 (by assumption) | exact tightB_n2 (by unfold tightL; assumption))]; done) | (rw [onT_yes (tightB_yes (by assumption) (by unfold tightL; assumption))]; first | done | rfl)
theorem c_spec_IsPartZone {w : World} {a0 : Int} {va1 : Value} {xa1 : List Int} {y0 : Int} {vy1 : Value} {xy1 : List Int}  (ha1 : Rd EI w va1 xa1) (hy1 : Rd EI w vy1 xy1) : Calls Try.prog 52 #[.agg #[.int .i64 a0, va1], .agg #[.int .i64 y0, vy1]] w (Ret1 (RQt (.tuple #[.bool (decide (canP a0 xa1 y0 xy1 ∧ partV (onT (tightB a0 xa1) (tightL a0 xa1)) xy1)), .bool (decide (canP a0 xa1 y0 xy1))]) w)) := by
  have hB : Ext w w := Ext.refl w
  have hla1 := ha1.leI; have hly1 := hy1.leI
  refine callsOf (vs := [_, _]) Try.func52 rfl Try.ntmps52 rfl rfl ?_
  refine CW.seq ?_
  refine CW.reg ?_
  refine WL.op rfl (OpK.box rfl rfl (by first | rfl | exact Rd.cells1 (by assumption) | exact Osl.cells1 (by assumption) | exact Osn.cells1 (by assumption)) (fun b1 w1 hXw1 hb1 hge1 => ?_))
  have hl1 := Lo.new hB hge1
  have hB := hB.trans hXw1
  refine WL.op rfl (OpK.box rfl rfl (by first | rfl | exact Rd.cells1 (by assumption) | exact Osl.cells1 (by assumption) | exact Osn.cells1 (by assumption)) (fun b2 w2 hXw2 hb2 hge2 => ?_))
  have hl2 := Lo.new hB hge2
  have hd1_2 := Dj.new hb1.ltO hge2
  have hB := hB.trans hXw2
  have hb1 := hb1.up hXw2
  refine WL.pure rfl rfl rfl (PV.assign rfl) ?_
  refine WL.pure rfl rfl rfl (PV.assign rfl) ?_
  refine WL.nilS ?_
  refine CW.seq ?_
  refine CW.reg ?_
  refine WL.pure rfl rfl rfl ((by first | exact PV.loadA T.ag27 rfl (by first | exact Cells.up (by assumption) hB | exact Bx.cells (by assumption) | assumption) (Ext.refl _) rfl | exact PV.loadP (ds := [_, _]) T.ag27 rfl (by first | exact Cells.up (by assumption) hB | exact Bx.cells (by assumption) | assumption) (Ext.refl _) rfl rfl)) ?_
  refine WL.op rfl (OpK.call rfl T.cf54 rfl (c_spec_TightZone (by first | assumption | exact Rd.up (by assumption) hB | exact Osl.rd (by assumption) | exact Osn.rdR (by assumption))) (fun rv1 w3 hR => ?_))
  obtain ⟨hXw3, v3, og3, rfl, ho3, hq3⟩ := hR
  have hl3 := Lo.up hq3 hB
  have hd1_3 := Dj.lo hb1.ltO hq3
  have hd2_3 := Dj.lo hb2.ltO hq3
  have hB := hB.trans hXw3
  have hb1 := hb1.up hXw3
  have hb2 := hb2.up hXw3
  refine WL.pure rfl rfl rfl (PV.move rfl) ?_
  refine WL.pure rfl rfl rfl (PV.extract rfl rfl) ?_
  refine WL.pure rfl rfl rfl (PV.extract rfl rfl) ?_
  refine WL.op rfl (OpK.alloc rfl T.zv27 rfl (fun b4 w4 hXw4 hb4 hge4 => ?_))
  have hl4 := Lo.new hB hge4
  have hd1_4 := Dj.new hb1.ltO hge4
  have hd2_4 := Dj.new hb2.ltO hge4
  have hd3_4 := Dj.new ho3.ltO hge4
  have hB := hB.trans hXw4
  have hb1 := hb1.up hXw4
  have hb2 := hb2.up hXw4
  have ho3 := ho3.up hXw4
  refine WL.op rfl (OpK.storeA T.sz27 rfl rfl rfl rfl (by simp [Value.oneCell'] <;> first | done | (repeat' apply And.intro) <;> first | rfl | exact Osl.oneCell (by assumption) | exact Osn.oneCell (by assumption) | exact Rd.oneCell (by assumption) | assumption) hb4 (fun w5 hXw5 hb4 => ?_))
  have hB := hB.updL hXw5 hl4
  have hb1 := hb1.updD hXw5 hd1_4
  have hb2 := hb2.updD hXw5 hd2_4
  have ho3 := ho3.updD hXw5 hd3_4
  refine WL.pure rfl rfl rfl (PV.assign rfl) ?_
  refine WL.nilS ?_
  refine CW.seq ?_
  refine CW.seq ?_
  refine CW.reg ?_
  refine WL.pure rfl rfl rfl (PV.move rfl) ?_
  refine WL.pure rfl rfl rfl (PV.not rfl) ?_
  refine WL.pure rfl rfl rfl (PV.move rfl) ?_
  refine WL.split (t := 17) rfl (fun hc1 => ?_) (fun hc1 => ?_)
  · skip
    try simp only [decide_eq_true_eq, decide_eq_false_iff_not, Bool.not_eq_true', Bool.not_eq_false', Bool.not_eq_eq_eq_not, Bool.not_true, Bool.not_false, Int.not_lt, Int.not_le, Classical.not_not, beq_iff_eq, beq_eq_false_iff_ne] at hc1
    refine WL.skip rfl rfl rfl rfl rfl ?_
    refine WL.skip rfl rfl rfl rfl rfl ?_
    refine WL.pure rfl rfl rfl (PV.pickT rfl rfl) ?_
    refine WL.pure rfl rfl rfl (PV.move rfl) ?_
    refine WL.skip rfl rfl rfl rfl rfl ?_
    refine WL.skip rfl rfl rfl rfl rfl ?_
    refine WL.skip rfl rfl rfl rfl rfl ?_
    refine WL.skip rfl rfl rfl rfl rfl ?_
    refine WL.skip rfl rfl rfl rfl rfl ?_
    refine WL.pure rfl rfl rfl (PV.pickT rfl rfl) ?_
    refine WL.nilS ?_
    refine CW.condT rfl ?_
    refine CW.seq ?_
    refine CW.reg ?_
    refine WL.pure rfl rfl rfl (PV.assign rfl) ?_
    refine WL.pure rfl rfl rfl (PV.assign rfl) ?_
    refine WL.nilS ?_
    refine CW.ret ?_
    refine RQ.then ?_
    refine RQ.r2 rfl rfl ?_
    refine ⟨?_, hB⟩
    exact tE2 (bF (fun h => absurd h.1 (by rintro ⟨h1, h2, h3⟩; first | omega | exact absurd h2 (by assumption) | exact absurd h1 (by assumption) | exact absurd (Eq.trans (Eq.symm h1) (by assumption : tightB a0 xa1 = false)) (by decide)))) (bF (by rintro ⟨h1, h2, h3⟩; first | omega | exact absurd h2 (by assumption) | exact absurd h1 (by assumption) | exact absurd (Eq.trans (Eq.symm h1) (by assumption : tightB a0 xa1 = false)) (by decide)))
  try simp only [decide_eq_true_eq, decide_eq_false_iff_not, Bool.not_eq_true', Bool.not_eq_false', Bool.not_eq_eq_eq_not, Bool.not_true, Bool.not_false, Int.not_lt, Int.not_le, Classical.not_not, beq_iff_eq, beq_eq_false_iff_ne] at hc1
  refine WL.opG rfl rfl rfl (OpK.callR rfl T.cf64 rfl (c_spec_l07Zone (by first | exact Bx.cells (by assumption) | exact Cells.up (by assumption) hB | assumption) (by first | assumption | exact Rd.up (by assumption) hB | exact Osl.rd (by assumption) | exact Osn.rdR (by assumption))) (fun w6 hXw6 => ?_))
  have hB := hB.trans hXw6
  have hb1 := hb1.up hXw6
  have hb2 := hb2.up hXw6
  have ho3 := ho3.up hXw6
  have hb4 := hb4.up hXw6
  refine WL.pureG rfl rfl rfl rfl rfl (PV.not rfl) ?_
  refine WL.pure rfl rfl rfl (PV.pickF rfl rfl) ?_
  refine WL.pure rfl rfl rfl (PV.move rfl) ?_
  refine WL.split (t := 21) rfl (fun hc2 => ?_) (fun hc2 => ?_)
  · skip
    try simp only [decide_eq_true_eq, decide_eq_false_iff_not, Bool.not_eq_true', Bool.not_eq_false', Bool.not_eq_eq_eq_not, Bool.not_true, Bool.not_false, Int.not_lt, Int.not_le, Classical.not_not, beq_iff_eq, beq_eq_false_iff_ne] at hc2
    refine WL.skip rfl rfl rfl rfl rfl ?_
    refine WL.skip rfl rfl rfl rfl rfl ?_
    refine WL.skip rfl rfl rfl rfl rfl ?_
    refine WL.skip rfl rfl rfl rfl rfl ?_
    refine WL.skip rfl rfl rfl rfl rfl ?_
    refine WL.pure rfl rfl rfl (PV.pickT rfl rfl) ?_
    refine WL.nilS ?_
    refine CW.condT rfl ?_
    refine CW.seq ?_
    refine CW.reg ?_
    refine WL.pure rfl rfl rfl (PV.assign rfl) ?_
    refine WL.pure rfl rfl rfl (PV.assign rfl) ?_
    refine WL.nilS ?_
    refine CW.ret ?_
    refine RQ.then ?_
    refine RQ.r2 rfl rfl ?_
    refine ⟨?_, hB⟩
    exact tE2 (bF (fun h => absurd h.1 (by rintro ⟨h1, h2, h3⟩; first | omega | exact absurd h2 (by assumption) | exact absurd h1 (by assumption) | exact absurd (Eq.trans (Eq.symm h1) (by assumption : tightB a0 xa1 = false)) (by decide)))) (bF (by rintro ⟨h1, h2, h3⟩; first | omega | exact absurd h2 (by assumption) | exact absurd h1 (by assumption) | exact absurd (Eq.trans (Eq.symm h1) (by assumption : tightB a0 xa1 = false)) (by decide)))
  try simp only [decide_eq_true_eq, decide_eq_false_iff_not, Bool.not_eq_true', Bool.not_eq_false', Bool.not_eq_eq_eq_not, Bool.not_true, Bool.not_false, Int.not_lt, Int.not_le, Classical.not_not, beq_iff_eq, beq_eq_false_iff_ne] at hc2
  refine WL.pureG rfl rfl rfl rfl rfl ((by first | exact PV.fieldAddr T.fl27_0 rfl (by first | assumption | exact Bx.cells (by assumption)) | exact PV.fieldAddrP T.fl27_0 rfl rfl)) ?_
  refine WL.pureG rfl rfl rfl rfl rfl ((by first | exact PV.load0 T.na2 rfl (by first | exact Cells.up (by assumption) hB | exact Bx.cells (by assumption) | assumption) (Ext.refl _) rfl | exact PV.load1 T.na2 rfl (by first | exact Cells.up (by assumption) hB | exact Bx.cells (by assumption) | assumption) (Ext.refl _) rfl)) ?_
  refine WL.pureG rfl rfl rfl rfl rfl ((by first | exact PV.fieldAddr T.fl27_0 rfl (by first | assumption | exact Bx.cells (by assumption)) | exact PV.fieldAddrP T.fl27_0 rfl rfl)) ?_
  refine WL.pureG rfl rfl rfl rfl rfl ((by first | exact PV.load0 T.na2 rfl (by first | exact Cells.up (by assumption) hB | exact Bx.cells (by assumption) | assumption) (Ext.refl _) rfl | exact PV.load1 T.na2 rfl (by first | exact Cells.up (by assumption) hB | exact Bx.cells (by assumption) | assumption) (Ext.refl _) rfl)) ?_
  refine WL.pureG rfl rfl rfl rfl rfl (PV.neq rfl rfl) ?_
  refine WL.pure rfl rfl rfl (PV.pickF rfl rfl) ?_
  refine WL.nilS ?_
  refine CW.cond rfl (fun hc3 => ?_) (fun hc3 => ?_)
  · skip
    try simp only [decide_eq_true_eq, decide_eq_false_iff_not, Bool.not_eq_true', Bool.not_eq_false', Bool.not_eq_eq_eq_not, Bool.not_true, Bool.not_false, Int.not_lt, Int.not_le, Classical.not_not, beq_iff_eq, beq_eq_false_iff_ne] at hc3
    refine CW.seq ?_
    refine CW.reg ?_
    refine WL.pure rfl rfl rfl (PV.assign rfl) ?_
    refine WL.pure rfl rfl rfl (PV.assign rfl) ?_
    refine WL.nilS ?_
    refine CW.ret ?_
    refine RQ.then ?_
    refine RQ.r2 rfl rfl ?_
    refine ⟨?_, hB⟩
    exact tE2 (bF (fun h => absurd h.1 (by rintro ⟨h1, h2, h3⟩; first | omega | exact absurd h2 (by assumption) | exact absurd h1 (by assumption) | exact absurd (Eq.trans (Eq.symm h1) (by assumption : tightB a0 xa1 = false)) (by decide)))) (bF (by rintro ⟨h1, h2, h3⟩; first | omega | exact absurd h2 (by assumption) | exact absurd h1 (by assumption) | exact absurd (Eq.trans (Eq.symm h1) (by assumption : tightB a0 xa1 = false)) (by decide)))
  try simp only [decide_eq_true_eq, decide_eq_false_iff_not, Bool.not_eq_true', Bool.not_eq_false', Bool.not_eq_eq_eq_not, Bool.not_true, Bool.not_false, Int.not_lt, Int.not_le, Classical.not_not, beq_iff_eq, beq_eq_false_iff_ne] at hc3
  refine CW.skipS ?_
  refine CW.seq ?_
  refine CW.reg ?_
  have hcp : canP a0 xa1 y0 xy1 := ⟨by assumption, by assumption, by omega⟩; have hpl := canP_len hcp.1 hcp.2.1 hcp.2.2; have hot := onT_tight_len a0 xa1
  refine WL.pure rfl rfl rfl (PV.assign rfl) ?_
  refine WL.nilS ?_
  refine CW.seq ?_
  refine CW.seq ?_
  refine CW.reg ?_
  refine WL.pure rfl rfl rfl ((by first | exact PV.fieldAddr T.fl27_1 rfl (by first | assumption | exact Bx.cells (by assumption)) | exact PV.fieldAddrP T.fl27_1 rfl rfl)) ?_
  refine WL.pure rfl rfl rfl ((by first | exact PV.load0 T.na22 rfl (by first | exact Cells.up (by assumption) hB | exact Bx.cells (by assumption) | assumption) (Ext.refl _) rfl | exact PV.load1 T.na22 rfl (by first | exact Cells.up (by assumption) hB | exact Bx.cells (by assumption) | assumption) (Ext.refl _) rfl)) ?_
  refine WL.pure rfl rfl rfl ((PV.lenOs rfl ho3 T.sl22)) ?_
  refine WL.pure rfl rfl rfl (PV.move rfl) ?_
  refine WL.nilS ?_
  refine CW.block ?_
  refine CW.loop (σk := [(3, _), (6, _), (30, _)]) (fun ρ wz m => ∃ (k : Nat) (ok : Bool), ρ = [(8, .bool ok), (31, .int .i64 (k : Nat))] ∧ m = (onT (tightB a0 xa1) (tightL a0 xa1)).length - k ∧ UpdL [] w6 wz ∧ (k ≤ (onT (tightB a0 xa1) (tightL a0 xa1)).length) ∧ (ok = true ↔ ∀ q : Nat, q < k → (onT (tightB a0 xa1) (tightL a0 xa1)).getD q 0 ≤ xy1.getD q 0)) (ρ₀ := [(8, _), (31, _)]) (m₀ := _) ⟨rfl, rfl, rfl, rfl, rfl, trivial⟩ ⟨0, true, rfl, rfl, (UpdL.refl _ _), (by first | omega | rfl | (simp; done) | assumption | (simp_all; done)), (by exact partV_zero True _ _)⟩ ?_
  rintro _ wl1 _ ⟨k, ok, rfl, rfl, hU0, hk, hz⟩
  have hb1 := hb1.loop hU0 trivial
  have hb2 := hb2.loop hU0 trivial
  have ho3 := ho3.loop hU0 trivial
  have hb4 := hb4.loop hU0 trivial
  have hB := hB.loop hU0 trivial
  refine CW.seq ?_
  refine CW.reg ?_
  refine WL.pure rfl rfl rfl (PV.lss rfl rfl) ?_
  refine WL.nilS ?_
  refine CW.seq ?_
  refine CW.cond rfl (fun hc4 => ?_) (fun hc4 => ?_)
  · skip
    try simp only [decide_eq_true_eq, decide_eq_false_iff_not, Bool.not_eq_true', Bool.not_eq_false', Bool.not_eq_eq_eq_not, Bool.not_true, Bool.not_false, Int.not_lt, Int.not_le, Classical.not_not, beq_iff_eq, beq_eq_false_iff_ne] at hc4
    refine CW.skipS ?_
    refine CW.seq ?_
    refine CW.block ?_
    refine CW.seq ?_
    refine CW.reg ?_
    refine WL.pure rfl rfl rfl (PV.move rfl) ?_
    refine WL.pure rfl rfl rfl (PV.assign rfl) ?_
    refine WL.nilS ?_
    refine CW.seq ?_
    refine CW.draw T.mixed (by kernel_rfl) (fun _ _ _ _ _ h => h) (fun w8 w9 => Upd none w8 w9) 11 (.take 0 (.take 1 (.take 2 (.take 3 (.take 4 (.take 5 (.take 6 (.take 7 (.take 8 (.take 9 (.take 10 .done))))))))))) (by kernel_rfl) (fun w7 hXd => ?_)
    have hB := hB.trans hXd
    have hb1 := hb1.up hXd
    have hb2 := hb2.up hXd
    have ho3 := ho3.up hXd
    have hb4 := hb4.up hXd
    have hU0 := hU0.ext hXd
    have hBr := hB
    have hS : Upd none w7 w7 := Ext.toUpd (Ext.refl _)
    refine HP.take rfl rfl rfl rfl hS (fun wS hS1 => (by first | exact PV.fieldAddr T.fl27_1 rfl (by first | assumption | exact Bx.cells (by assumption)) | exact PV.fieldAddrP T.fl27_1 rfl rfl)) ?_
    refine HP.take rfl rfl rfl rfl hS (fun wS hS1 => (by first | exact PV.load0 T.na22 rfl (by first | exact Cells.up (by assumption) (hBr.trans hS1) | exact Bx.cells (Bx.updD (by assumption) hS1 (Dj.nlR _)) | exact Cells.upd (by assumption) hS1 (by simp)) (Ext.refl _) rfl | exact PV.load1 T.na22 rfl (by first | exact Cells.up (by assumption) (hBr.trans hS1) | exact Bx.cells (Bx.updD (by assumption) hS1 (Dj.nlR _)) | exact Cells.upd (by assumption) hS1 (by simp)) (Ext.refl _) rfl)) ?_
    refine HP.take rfl rfl rfl rfl hS (fun wS hS1 => PV.move rfl) ?_
    first
      | refine HP.atO (wb := w7) (x := .tmp 35) (y := .tmp 36) (f := VI) (0) rfl rfl (by assumption) (by first | omega | (simp; omega) | (simp_all; omega)) (fun p1 hpp1 hcp1 => ?_)
      | refine HP.atOZ (wb := w7) (x := .tmp 35) (y := .tmp 36) (f := VI) (0) rfl rfl (by assumption) (by first | omega | (simp; omega) | (simp_all; omega)) (fun p1 hpp1 hzp1 hcp1 => ?_)
    refine HP.take rfl rfl rfl rfl hS (fun wS hS1 => (by first | exact PV.indexAddr hpp1 rfl rfl T.sl22 | exact PV.indexAddr hpp1 rfl (by rw [← hzp1]; rfl) T.sl22)) ?_
    refine HP.take rfl rfl rfl rfl hS (fun wS hS1 => (by first | exact PV.load0 T.na2 rfl (by first | exact Cells.up (by assumption) (hBr.trans hS1) | exact Bx.cells (Bx.updD (by assumption) hS1 (Dj.nlR _)) | exact Cells.upd (by assumption) hS1 (by simp)) (Ext.refl _) rfl | exact PV.load1 T.na2 rfl (by first | exact Cells.up (by assumption) (hBr.trans hS1) | exact Bx.cells (Bx.updD (by assumption) hS1 (Dj.nlR _)) | exact Cells.upd (by assumption) hS1 (by simp)) (Ext.refl _) rfl)) ?_
    refine HP.take rfl rfl rfl rfl hS (fun wS hS1 => (by first | exact PV.fieldAddr T.fl27_1 rfl (by first | assumption | exact Bx.cells (by assumption)) | exact PV.fieldAddrP T.fl27_1 rfl rfl)) ?_
    refine HP.take rfl rfl rfl rfl hS (fun wS hS1 => (by first | exact PV.load0 T.na22 rfl (by first | exact Cells.up (by assumption) (hBr.trans hS1) | exact Bx.cells (Bx.updD (by assumption) hS1 (Dj.nlR _)) | exact Cells.upd (by assumption) hS1 (by simp)) (Ext.refl _) rfl | exact PV.load1 T.na22 rfl (by first | exact Cells.up (by assumption) (hBr.trans hS1) | exact Bx.cells (Bx.updD (by assumption) hS1 (Dj.nlR _)) | exact Cells.upd (by assumption) hS1 (by simp)) (Ext.refl _) rfl)) ?_
    refine HP.take rfl rfl rfl rfl hS (fun wS hS1 => PV.move rfl) ?_
    first
      | refine HP.at (x := .tmp 40) (y := .tmp 41) (E := EI) (0) rfl rfl (by assumption) (by first | omega | (simp; omega) | (simp_all; omega)) (fun p2 csp2 hpp2 hcp2 hq => ?_)
      | refine HP.atZ (x := .tmp 40) (y := .tmp 41) (E := EI) (0) rfl rfl (by assumption) (by first | omega | (simp; omega) | (simp_all; omega)) (fun p2 csp2 hpp2 hzp2 hcp2 hq => ?_)
    cases hq
    refine HP.take rfl rfl rfl rfl hS (fun wS hS1 => (by first | exact PV.indexAddr hpp2 rfl rfl T.sl22 | exact PV.indexAddr hpp2 rfl (by rw [← hzp2]; rfl) T.sl22)) ?_
    refine HP.take rfl rfl rfl rfl hS (fun wS hS1 => (by first | exact PV.load0 T.na2 rfl (by first | exact Cells.up (by assumption) (hBr.trans hS1) | exact Bx.cells (Bx.updD (by assumption) hS1 (Dj.nlR _)) | exact Cells.upd (by assumption) hS1 (by simp)) (Ext.refl _) rfl | exact PV.load1 T.na2 rfl (by first | exact Cells.up (by assumption) (hBr.trans hS1) | exact Bx.cells (Bx.updD (by assumption) hS1 (Dj.nlR _)) | exact Cells.upd (by assumption) hS1 (by simp)) (Ext.refl _) rfl)) ?_
    refine HP.take rfl rfl rfl rfl hS (fun wS hS1 => PV.gtr rfl rfl) ?_
    refine HP.doneS ?_
    refine CW.cond rfl (fun hc5 => ?_) (fun hc5 => ?_)
    · skip
      try simp only [decide_eq_true_eq, decide_eq_false_iff_not, Bool.not_eq_true', Bool.not_eq_false', Bool.not_eq_eq_eq_not, Bool.not_true, Bool.not_false, Int.not_lt, Int.not_le, Classical.not_not, beq_iff_eq, beq_eq_false_iff_ne] at hc5
      refine CW.reg ?_
      refine WL.pure rfl rfl rfl (PV.assign rfl) ?_
      refine WL.nil ?_
      refine NQ.block ?_
      refine NQ.then ?_
      refine CW.reg ?_
      refine WL.pure rfl rfl rfl (PV.add rfl rfl (by constructor <;> omega)) ?_
      refine WL.pure rfl rfl rfl (PV.move rfl) ?_
      refine WL.nil ?_
      refine NQ.next (ρ := [(8, _), (31, _)]) ⟨rfl, rfl, rfl, rfl, rfl, trivial⟩ ?_
      exact ⟨_, ⟨k + 1, false, rfl, rfl, hU0, (by first | omega | assumption | (simp_all; done) | (simp_all; omega)), (by first | exact partV_yes hz (by omega) | exact partV_no (by omega))⟩, by omega⟩
    try simp only [decide_eq_true_eq, decide_eq_false_iff_not, Bool.not_eq_true', Bool.not_eq_false', Bool.not_eq_eq_eq_not, Bool.not_true, Bool.not_false, Int.not_lt, Int.not_le, Classical.not_not, beq_iff_eq, beq_eq_false_iff_ne] at hc5
    refine CW.skip ?_
    refine NQ.block ?_
    refine NQ.then ?_
    refine CW.reg ?_
    refine WL.pure rfl rfl rfl (PV.add rfl rfl (by constructor <;> omega)) ?_
    refine WL.pure rfl rfl rfl (PV.move rfl) ?_
    refine WL.nil ?_
    refine NQ.next (ρ := [(8, _), (31, _)]) ⟨rfl, rfl, rfl, rfl, rfl, trivial⟩ ?_
    exact ⟨_, ⟨k + 1, ok, rfl, rfl, hU0, (by first | omega | assumption | (simp_all; done) | (simp_all; omega)), (by first | exact partV_yes hz (by omega) | exact partV_no (by omega))⟩, by omega⟩
  try simp only [decide_eq_true_eq, decide_eq_false_iff_not, Bool.not_eq_true', Bool.not_eq_false', Bool.not_eq_eq_eq_not, Bool.not_true, Bool.not_false, Int.not_lt, Int.not_le, Classical.not_not, beq_iff_eq, beq_eq_false_iff_ne] at hc4
  refine CW.exit ?_
  refine XQ.then ?_
  refine XQ.then ?_
  refine XQ.here ?_
  refine NQ.then ?_
  refine CW.seq ?_
  refine CW.reg ?_
  refine WL.pure rfl rfl rfl (PV.move rfl) ?_
  refine WL.pure rfl rfl rfl (PV.assign rfl) ?_
  refine WL.pure rfl rfl rfl (PV.assign rfl) ?_
  refine WL.nilS ?_
  refine CW.ret ?_
  refine RQ.r2 rfl rfl ?_
  refine ⟨?_, hB⟩
  exact tE2 (bE (by rw [Bool.eq_iff_iff, decide_eq_true_iff]; exact ⟨fun h => ⟨hcp, fun q hq => hz.1 h q (by omega)⟩, fun h => hz.2 (fun q hq => h.2 q (by omega))⟩)) (bT hcp)
theorem c_impl_within {w : World} {n lo hi : Int} : Calls Try.prog 62 #[.int .i64 n, .int .i64 lo, .int .i64 hi] w (Ret1 (RQt (.bool (decide (lo ≤ n ∧ n ≤ hi))) w)) := by
  have hB : Ext w w := Ext.refl w
  refine callsOf (vs := [_, _, _]) Try.func62 rfl Try.ntmps62 rfl rfl ?_
  refine CW.seq ?_
  refine CW.reg ?_
  refine WL.pure rfl rfl rfl (PV.assign rfl) ?_
  refine WL.nilS ?_
  refine CW.seq ?_
  refine CW.reg ?_
  refine WL.pure rfl rfl rfl (PV.move rfl) ?_
  refine WL.pure rfl rfl rfl (PV.move rfl) ?_
  refine WL.pure rfl rfl rfl (PV.geq rfl rfl) ?_
  refine WL.pure rfl rfl rfl (PV.move rfl) ?_
  refine WL.split (t := 10) rfl (fun hc1 => ?_) (fun hc1 => ?_)
  rotate_left
  · skip
    try simp only [decide_eq_true_eq, decide_eq_false_iff_not, Bool.not_eq_true', Bool.not_eq_false', Bool.not_eq_eq_eq_not, Bool.not_true, Bool.not_false, Int.not_lt, Int.not_le, Classical.not_not, beq_iff_eq, beq_eq_false_iff_ne] at hc1
    refine WL.skip rfl rfl rfl rfl rfl ?_
    refine WL.skip rfl rfl rfl rfl rfl ?_
    refine WL.skip rfl rfl rfl rfl rfl ?_
    refine WL.pure rfl rfl rfl (PV.pickF rfl rfl) ?_
    refine WL.pure rfl rfl rfl (PV.assign rfl) ?_
    refine WL.nilS ?_
    refine CW.ret ?_
    refine RQ.r1 rfl ?_
    refine ⟨?_, hB⟩
    first | rfl | exact bT (by omega) | exact bF (by omega) | exact bD (by omega) | exact iE (by omega) | (simp_all; done) | (simp_all; omega) | (simp_all; intros; omega)
  try simp only [decide_eq_true_eq, decide_eq_false_iff_not, Bool.not_eq_true', Bool.not_eq_false', Bool.not_eq_eq_eq_not, Bool.not_true, Bool.not_false, Int.not_lt, Int.not_le, Classical.not_not, beq_iff_eq, beq_eq_false_iff_ne] at hc1
  refine WL.pureG rfl rfl rfl rfl rfl (PV.move rfl) ?_
  refine WL.pureG rfl rfl rfl rfl rfl (PV.move rfl) ?_
  refine WL.pureG rfl rfl rfl rfl rfl (PV.leq rfl rfl) ?_
  refine WL.pure rfl rfl rfl (PV.pickT rfl rfl) ?_
  refine WL.pure rfl rfl rfl (PV.assign rfl) ?_
  refine WL.nilS ?_
  refine CW.ret ?_
  refine RQ.r1 rfl ?_
  refine ⟨?_, hB⟩
  first | rfl | exact bT (by omega) | exact bF (by omega) | exact bD (by omega) | exact iE (by omega) | (simp_all; done) | (simp_all; omega) | (simp_all; intros; omega)
theorem c_impl_Zone_wide {w : World} {a0 : Int} {va1 : Value} (hc : 1 ≤ a0 ∧ a0 ≤ 4) : Calls Try.prog 63 #[.agg #[.int .i64 a0, va1]] w (Ret1 (RQt (.int .i64 (a0 + 1)) w)) := by
  have hB : Ext w w := Ext.refl w
  refine callsOf (vs := [_]) Try.func63 rfl Try.ntmps63 rfl rfl ?_
  refine CW.seq ?_
  refine CW.reg ?_
  refine WL.op rfl (OpK.box rfl rfl (by first | rfl | exact Rd.cells1 (by assumption) | exact Osl.cells1 (by assumption) | exact Osn.cells1 (by assumption)) (fun b1 w1 hXw1 hb1 hge1 => ?_))
  have hl1 := Lo.new hB hge1
  have hB := hB.trans hXw1
  refine WL.pure rfl rfl rfl (PV.assign rfl) ?_
  refine WL.nilS ?_
  refine CW.seq ?_
  refine CW.reg ?_
  refine WL.pure rfl rfl rfl ((by first | exact PV.fieldAddr T.fl27_0 rfl (by first | assumption | exact Bx.cells (by assumption)) | exact PV.fieldAddrP T.fl27_0 rfl rfl)) ?_
  refine WL.pure rfl rfl rfl ((by first | exact PV.load0 T.na2 rfl (by first | exact Cells.up (by assumption) hB | exact Bx.cells (by assumption) | assumption) (Ext.refl _) rfl | exact PV.load1 T.na2 rfl (by first | exact Cells.up (by assumption) hB | exact Bx.cells (by assumption) | assumption) (Ext.refl _) rfl)) ?_
  refine WL.pure rfl rfl rfl (PV.add rfl rfl (by constructor <;> omega)) ?_
  refine WL.pure rfl rfl rfl (PV.assign rfl) ?_
  refine WL.nilS ?_
  refine CW.ret ?_
  refine RQ.r1 rfl ?_
  refine ⟨?_, hB⟩
  first | rfl | exact bT (by omega) | exact bF (by omega) | exact bD (by omega) | exact iE (by omega) | (simp_all; done) | (simp_all; omega) | (simp_all; intros; omega)
theorem c_impl_Zone_at {w : World} {a0 : Int} {va1 : Value} {xa1 : List Int} {i k : Int} (hc : 1 ≤ a0 ∧ a0 ≤ 4) (hi : 0 ≤ i ∧ i < a0 + 1) (hk : 0 ≤ k ∧ k < a0 + 1) (ha1 : Rd EI w va1 xa1) : Calls Try.prog 65 #[.agg #[.int .i64 a0, va1], .int .i64 i, .int .i64 k] w (Ret1 (RQt (.int .i64 (i * (a0 + 1) + k)) w)) := by
  have hB : Ext w w := Ext.refl w
  have hix := idx_lt hc hi hk rfl
  refine callsOf (vs := [_, _, _]) Try.func65 rfl Try.ntmps65 rfl rfl ?_
  refine CW.seq ?_
  refine CW.reg ?_
  refine WL.op rfl (OpK.box rfl rfl (by first | rfl | exact Rd.cells1 (by assumption) | exact Osl.cells1 (by assumption) | exact Osn.cells1 (by assumption)) (fun b1 w1 hXw1 hb1 hge1 => ?_))
  have hl1 := Lo.new hB hge1
  have hB := hB.trans hXw1
  refine WL.pure rfl rfl rfl (PV.assign rfl) ?_
  refine WL.nilS ?_
  refine CW.seq ?_
  refine CW.reg ?_
  refine WL.pure rfl rfl rfl (PV.move rfl) ?_
  refine WL.pure rfl rfl rfl ((by first | exact PV.loadA T.ag27 rfl (by first | exact Cells.up (by assumption) hB | exact Bx.cells (by assumption) | assumption) (Ext.refl _) rfl | exact PV.loadP (ds := [_, _]) T.ag27 rfl (by first | exact Cells.up (by assumption) hB | exact Bx.cells (by assumption) | assumption) (Ext.refl _) rfl rfl)) ?_
  refine WL.op rfl (OpK.callR rfl T.cf63 rfl (c_impl_Zone_wide (by first | assumption | omega | (simp only [marks_len, marksB_len]; omega))) (fun w2 hXw2 => ?_))
  have hB := hB.trans hXw2
  have hb1 := hb1.up hXw2
  refine WL.pure rfl rfl rfl (PV.mul rfl rfl (by constructor <;> omega)) ?_
  refine WL.pure rfl rfl rfl (PV.move rfl) ?_
  refine WL.pure rfl rfl rfl (PV.add rfl rfl (by constructor <;> omega)) ?_
  refine WL.pure rfl rfl rfl (PV.assign rfl) ?_
  refine WL.nilS ?_
  refine CW.ret ?_
  refine RQ.r1 rfl ?_
  refine ⟨?_, hB⟩
  first | rfl | exact bT (by omega) | exact bF (by omega) | exact bD (by omega) | exact iE (by omega) | (simp_all; done) | (simp_all; omega) | (simp_all; intros; omega)

end Go.Proofs.Ytliakkhlgflbcaa
