/- Walks of the functions that the law FnCalls reaches: each says what its function computes. No condition. -/
import Derived.Test.YtliakkhlgflbcaaProg
import Derived.Test.YtliakkhlgflbcaaLibM
import Derived.Test.YtliakkhlgflbcaaPlA
import Derived.Test.YtliakkhlgflbcaaLibN
import Derived.Test.YtliakkhlgflbcaaPlZ
import Derived.Test.YtliakkhlgflbcaaPlR
import Derived.Test.YtliakkhlgflbcaaPlP
import Derived.Test.YtliakkhlgflbcaaPlF
import Derived.Test.YtliakkhlgflbcaaWFnCallsa
namespace Go.Proofs.Ytliakkhlgflbcaa
open Go Go.WX Go.Proofs
set_option linter.unusedSimpArgs false
set_option linter.unusedVariables false

set_option maxHeartbeats 4000000 in
theorem c_laws_FnCalls {w : World} {va vb : Value} {xs ys : List Int} (ha : Rd EU8 w va xs) (hb : Rd EU8 w vb ys) (hg : ∀ x ∈ xs, 0 ≤ x ∧ x ≤ 255) (hgb : ∀ x ∈ ys, 0 ≤ x ∧ x ≤ 255) : Calls Try.prog 11 #[va, vb] w (Ret1 (RQt (.bool true) w)) := by
  have hB : Ext w w := Ext.refl w
  have hla := ha.leI; have hlb := hb.leI; have hat := atB_rng hgb
  refine callsOf (vs := [_, _]) Try.func11 rfl Try.ntmps11 rfl rfl ?_
  refine CW.seq ?_
  refine CW.reg ?_
  refine WL.pure rfl rfl rfl (PV.assign rfl) ?_
  refine WL.nilS ?_
  refine CW.seq ?_
  refine CW.seq ?_
  refine CW.reg ?_
  refine WL.pure rfl rfl rfl (PV.move rfl) ?_
  refine WL.pure rfl rfl rfl (PV.move rfl) ?_
  refine WL.op rfl (OpK.callR rfl T.cf44 rfl (c_laws_b10Long (by first | assumption | exact Rd.up (by assumption) hB | exact Osl.rd (by assumption) | exact Osn.rdR (by assumption) | exact NL.rd (by assumption)) (by first | assumption | exact Rd.up (by assumption) hB | exact Osl.rd (by assumption) | exact Osn.rdR (by assumption) | exact NL.rd (by assumption))) (fun w1 hXw1 => ?_))
  have hB := hB.trans hXw1
  refine WL.nilS ?_
  refine CW.cond rfl (fun hc1 => ?_) (fun hc1 => ?_)
  · skip
    try simp only [decide_eq_true_eq, decide_eq_false_iff_not, Bool.not_eq_true', Bool.not_eq_false', Bool.not_eq_eq_eq_not, Bool.not_true, Bool.not_false, Int.not_lt, Int.not_le, Classical.not_not, beq_iff_eq, beq_eq_false_iff_ne] at hc1
    refine CW.seq ?_
    refine CW.reg ?_
    refine WL.pure rfl rfl rfl (PV.assign rfl) ?_
    refine WL.nilS ?_
    refine CW.ret ?_
    refine RQ.then ?_
    refine RQ.r1 rfl ?_
    refine ⟨?_, hB⟩
    first | rfl | (exfalso; omega) | (exfalso; simp only [ne_eq, decide_eq_decide] at *; omega) | (exfalso; rw [hok] at *; contradiction)
  try simp only [decide_eq_true_eq, decide_eq_false_iff_not, Bool.not_eq_true', Bool.not_eq_false', Bool.not_eq_eq_eq_not, Bool.not_true, Bool.not_false, Int.not_lt, Int.not_le, Classical.not_not, beq_iff_eq, beq_eq_false_iff_ne] at hc1
  refine CW.skipS ?_
  refine CW.seq ?_
  refine CW.reg ?_
  refine WL.op rfl (OpK.buildS VI (os := [.const (.int .i64 0), .const (.int .i64 1), .const (.int .i64 2)]) [_, _, _] rfl T.sl22 rfl rfl T.zv2 rfl (by intro z hz; first | rfl | (simp only [List.mem_cons, List.not_mem_nil, or_false] at hz; rcases hz with hz | hz | hz <;> subst hz <;> exact (by first | rfl | exact Rd.cells1 (by assumption) | exact Rd.cells1 (NL.rd (by assumption)) | exact Osl.cells1 (by assumption) | exact Osn.cells1 (by assumption))) | (simp only [List.mem_cons, List.not_mem_nil, or_false] at hz; rcases hz with hz | hz <;> subst hz <;> exact (by first | rfl | exact Rd.cells1 (by assumption) | exact Rd.cells1 (NL.rd (by assumption)) | exact Osl.cells1 (by assumption) | exact Osn.cells1 (by assumption)))) rfl (fun v1 g1 w2 hXw2 ho1 hge1 => ?_))
  have hl1 := Lo.new hB hge1
  have hB := hB.trans hXw2
  refine WL.pure rfl rfl rfl (PV.assign rfl) ?_
  refine WL.nilS ?_
  refine CW.seq ?_
  refine CW.reg ?_
  refine WL.pure rfl rfl rfl (PV.move rfl) ?_
  refine WL.op rfl (OpK.callR rfl T.cf45 rfl (c_laws_b10At (by first | assumption | exact Rd.up (by assumption) hB | exact Osl.rd (by assumption) | exact Osn.rdR (by assumption) | exact NL.rd (by assumption)) (by first | assumption | omega | (simp only [marks_len, marksB_len]; omega))) (fun w3 hXw3 => ?_))
  have hB := hB.trans hXw3
  have ho1 := ho1.up hXw3
  refine WL.pure rfl rfl rfl (PV.assign rfl) ?_
  refine WL.nilS ?_
  refine CW.seq ?_
  refine CW.reg ?_
  refine WL.pure rfl rfl rfl (PV.move rfl) ?_
  refine WL.pure rfl rfl rfl (PV.move rfl) ?_
  refine WL.op rfl (OpK.call rfl T.cf46 rfl (c_spec_B10Word hB (by first | assumption | exact Rd.up (by assumption) hB | exact Osl.rd (by assumption) | exact Osn.rdR (by assumption) | exact NL.rd (by assumption)) (by first | assumption | omega | (simp only [marks_len, marksB_len]; omega)) (by first | assumption | omega | (simp only [marks_len, marksB_len]; omega))) (fun rv1 w4 hR => ?_))
  obtain ⟨hUC2, ws3, v4, og4, rfl, hm5, ho4, hq4⟩ := hR
  have hl4 := Lo.up hq4 hB
  have hd1_4 := Dj.lo ho1.ltO hq4
  have ho1 := ho1.loop hUC2 trivial
  have hB := hB.loop hUC2 trivial
  refine WL.pure rfl rfl rfl (PV.assign rfl) ?_
  refine WL.nilS ?_
  refine CW.seq ?_
  refine CW.reg ?_
  refine WL.pure rfl rfl rfl (PV.move rfl) ?_
  refine WL.pure rfl rfl rfl (PV.move rfl) ?_
  refine WL.op rfl (OpK.call rfl T.cf47 rfl (c_impl_PartnersOf (by first | assumption | exact Rd.up (by assumption) hB | exact Osl.rd (by assumption) | exact Osn.rdR (by assumption) | exact NL.rd (by assumption)) (by first | assumption | exact Rd.up (by assumption) hB | exact Osl.rd (by assumption) | exact Osn.rdR (by assumption) | exact NL.rd (by assumption))) (fun rv2 w5 hR => ?_))
  obtain ⟨hXw5, v6, og6, rfl, ho6, hq6⟩ := hR
  have hl6 := Lo.up hq6 hB
  have hd1_6 := Dj.lo ho1.ltO hq6
  have hd4_6 := Dj.lo ho4.ltO hq6
  have hB := hB.trans hXw5
  have ho1 := ho1.up hXw5
  have ho4 := ho4.up hXw5
  refine WL.pure rfl rfl rfl (PV.move rfl) ?_
  refine WL.pure rfl rfl rfl (PV.extract rfl rfl) ?_
  refine WL.pure rfl rfl rfl (PV.extract rfl rfl) ?_
  refine WL.pure rfl rfl rfl (PV.assign rfl) ?_
  refine WL.pure rfl rfl rfl (PV.assign rfl) ?_
  refine WL.nilS ?_
  refine CW.seq ?_
  refine CW.reg ?_
  refine WL.pure rfl rfl rfl (PV.move rfl) ?_
  refine WL.pure rfl rfl rfl (PV.move rfl) ?_
  refine WL.op rfl (OpK.call rfl T.cf48 rfl (c_impl_DepthsOf (by first | assumption | exact Rd.up (by assumption) hB | exact Osl.rd (by assumption) | exact Osn.rdR (by assumption) | exact NL.rd (by assumption)) (by first | assumption | exact Rd.up (by assumption) hB | exact Osl.rd (by assumption) | exact Osn.rdR (by assumption) | exact NL.rd (by assumption))) (fun rv3 w6 hR => ?_))
  obtain ⟨hXw6, v7, og7, rfl, ho7, hq7⟩ := hR
  have hl7 := Lo.up hq7 hB
  have hd1_7 := Dj.lo ho1.ltO hq7
  have hd4_7 := Dj.lo ho4.ltO hq7
  have hd6_7 := Dj.lo ho6.ltO hq7
  have hB := hB.trans hXw6
  have ho1 := ho1.up hXw6
  have ho4 := ho4.up hXw6
  have ho6 := ho6.up hXw6
  refine WL.pure rfl rfl rfl (PV.move rfl) ?_
  refine WL.pure rfl rfl rfl (PV.extract rfl rfl) ?_
  refine WL.pure rfl rfl rfl (PV.extract rfl rfl) ?_
  refine WL.pure rfl rfl rfl (PV.assign rfl) ?_
  refine WL.pure rfl rfl rfl (PV.assign rfl) ?_
  refine WL.nilS ?_
  refine CW.seq ?_
  refine CW.seq ?_
  refine CW.reg ?_
  have hm5 := (by assumption : (ws3.length : Int) = atB ys ∧ ∀ x ∈ ws3, 0 ≤ x ∧ x ≤ 2); have hok := ok3 hm5.2 (by omega); have hpl := onT_parL_len ws3 [0, 1, 2]; simp only [onT_yes hok] at *; have hlp := parL_len [0, 1, 2] ws3; have hld := depL_len [0, 1, 2] ws3 ws3.length
  refine WL.pure rfl rfl rfl (PV.move rfl) ?_
  refine WL.pure rfl rfl rfl (PV.not rfl) ?_
  refine WL.pure rfl rfl rfl (PV.move rfl) ?_
  refine WL.split (t := 39) rfl (fun hc2 => ?_) (fun hc2 => ?_)
  · skip
    try simp only [decide_eq_true_eq, decide_eq_false_iff_not, Bool.not_eq_true', Bool.not_eq_false', Bool.not_eq_eq_eq_not, Bool.not_true, Bool.not_false, Int.not_lt, Int.not_le, Classical.not_not, beq_iff_eq, beq_eq_false_iff_ne] at hc2
    refine WL.skip rfl rfl rfl rfl rfl ?_
    refine WL.skip rfl rfl rfl rfl rfl ?_
    refine WL.pure rfl rfl rfl (PV.pickT rfl rfl) ?_
    refine WL.pure rfl rfl rfl (PV.move rfl) ?_
    refine WL.skip rfl rfl rfl rfl rfl ?_
    refine WL.skip rfl rfl rfl rfl rfl ?_
    refine WL.skip rfl rfl rfl rfl rfl ?_
    refine WL.skip rfl rfl rfl rfl rfl ?_
    refine WL.pure rfl rfl rfl (PV.pickT rfl rfl) ?_
    refine WL.pure rfl rfl rfl (PV.move rfl) ?_
    refine WL.skip rfl rfl rfl rfl rfl ?_
    refine WL.skip rfl rfl rfl rfl rfl ?_
    refine WL.skip rfl rfl rfl rfl rfl ?_
    refine WL.skip rfl rfl rfl rfl rfl ?_
    refine WL.pure rfl rfl rfl (PV.pickT rfl rfl) ?_
    refine WL.nilS ?_
    refine CW.condT rfl ?_
    refine CW.seq ?_
    refine CW.reg ?_
    refine WL.pure rfl rfl rfl (PV.assign rfl) ?_
    refine WL.nilS ?_
    refine CW.ret ?_
    refine RQ.then ?_
    refine RQ.r1 rfl ?_
    refine ⟨?_, hB⟩
    first | rfl | (exfalso; omega) | (exfalso; simp only [ne_eq, decide_eq_decide] at *; omega) | (exfalso; rw [hok] at *; contradiction)
  try simp only [decide_eq_true_eq, decide_eq_false_iff_not, Bool.not_eq_true', Bool.not_eq_false', Bool.not_eq_eq_eq_not, Bool.not_true, Bool.not_false, Int.not_lt, Int.not_le, Classical.not_not, beq_iff_eq, beq_eq_false_iff_ne] at hc2
  refine WL.pureG rfl rfl rfl rfl rfl (PV.move rfl) ?_
  refine WL.pureG rfl rfl rfl rfl rfl (PV.not rfl) ?_
  refine WL.pure rfl rfl rfl (PV.pickF rfl rfl) ?_
  refine WL.pure rfl rfl rfl (PV.move rfl) ?_
  refine WL.split (t := 43) rfl (fun hc3 => ?_) (fun hc3 => ?_)
  · skip
    try simp only [decide_eq_true_eq, decide_eq_false_iff_not, Bool.not_eq_true', Bool.not_eq_false', Bool.not_eq_eq_eq_not, Bool.not_true, Bool.not_false, Int.not_lt, Int.not_le, Classical.not_not, beq_iff_eq, beq_eq_false_iff_ne] at hc3
    refine WL.skip rfl rfl rfl rfl rfl ?_
    refine WL.skip rfl rfl rfl rfl rfl ?_
    refine WL.skip rfl rfl rfl rfl rfl ?_
    refine WL.skip rfl rfl rfl rfl rfl ?_
    refine WL.pure rfl rfl rfl (PV.pickT rfl rfl) ?_
    refine WL.pure rfl rfl rfl (PV.move rfl) ?_
    refine WL.skip rfl rfl rfl rfl rfl ?_
    refine WL.skip rfl rfl rfl rfl rfl ?_
    refine WL.skip rfl rfl rfl rfl rfl ?_
    refine WL.skip rfl rfl rfl rfl rfl ?_
    refine WL.pure rfl rfl rfl (PV.pickT rfl rfl) ?_
    refine WL.nilS ?_
    refine CW.condT rfl ?_
    refine CW.seq ?_
    refine CW.reg ?_
    refine WL.pure rfl rfl rfl (PV.assign rfl) ?_
    refine WL.nilS ?_
    refine CW.ret ?_
    refine RQ.then ?_
    refine RQ.r1 rfl ?_
    refine ⟨?_, hB⟩
    first | rfl | (exfalso; omega) | (exfalso; simp only [ne_eq, decide_eq_decide] at *; omega) | (exfalso; rw [hok] at *; contradiction)
  try simp only [decide_eq_true_eq, decide_eq_false_iff_not, Bool.not_eq_true', Bool.not_eq_false', Bool.not_eq_eq_eq_not, Bool.not_true, Bool.not_false, Int.not_lt, Int.not_le, Classical.not_not, beq_iff_eq, beq_eq_false_iff_ne] at hc3
  refine WL.pureG rfl rfl rfl rfl rfl (PV.move rfl) ?_
  refine WL.pureG rfl rfl rfl rfl rfl ((PV.lenOs rfl ho6 T.sl22)) ?_
  refine WL.pureG rfl rfl rfl rfl rfl (PV.move rfl) ?_
  refine WL.pureG rfl rfl rfl rfl rfl (PV.neq rfl rfl) ?_
  refine WL.pure rfl rfl rfl (PV.pickF rfl rfl) ?_
  refine WL.pure rfl rfl rfl (PV.move rfl) ?_
  refine WL.split (t := 49) rfl (fun hc4 => ?_) (fun hc4 => ?_)
  · skip
    try simp only [decide_eq_true_eq, decide_eq_false_iff_not, Bool.not_eq_true', Bool.not_eq_false', Bool.not_eq_eq_eq_not, Bool.not_true, Bool.not_false, Int.not_lt, Int.not_le, Classical.not_not, beq_iff_eq, beq_eq_false_iff_ne] at hc4
    refine WL.skip rfl rfl rfl rfl rfl ?_
    refine WL.skip rfl rfl rfl rfl rfl ?_
    refine WL.skip rfl rfl rfl rfl rfl ?_
    refine WL.skip rfl rfl rfl rfl rfl ?_
    refine WL.pure rfl rfl rfl (PV.pickT rfl rfl) ?_
    refine WL.nilS ?_
    refine CW.condT rfl ?_
    refine CW.seq ?_
    refine CW.reg ?_
    refine WL.pure rfl rfl rfl (PV.assign rfl) ?_
    refine WL.nilS ?_
    refine CW.ret ?_
    refine RQ.then ?_
    refine RQ.r1 rfl ?_
    refine ⟨?_, hB⟩
    first | rfl | (exfalso; omega) | (exfalso; simp only [ne_eq, decide_eq_decide] at *; omega) | (exfalso; rw [hok] at *; contradiction)
  try simp only [decide_eq_true_eq, decide_eq_false_iff_not, Bool.not_eq_true', Bool.not_eq_false', Bool.not_eq_eq_eq_not, Bool.not_true, Bool.not_false, Int.not_lt, Int.not_le, Classical.not_not, beq_iff_eq, beq_eq_false_iff_ne] at hc4
  refine WL.pureG rfl rfl rfl rfl rfl (PV.move rfl) ?_
  refine WL.pureG rfl rfl rfl rfl rfl ((PV.lenOs rfl ho7 T.sl22)) ?_
  refine WL.pureG rfl rfl rfl rfl rfl (PV.move rfl) ?_
  refine WL.pureG rfl rfl rfl rfl rfl (PV.neq rfl rfl) ?_
  refine WL.pure rfl rfl rfl (PV.pickF rfl rfl) ?_
  refine WL.nilS ?_
  refine CW.cond rfl (fun hc5 => ?_) (fun hc5 => ?_)
  · skip
    try simp only [decide_eq_true_eq, decide_eq_false_iff_not, Bool.not_eq_true', Bool.not_eq_false', Bool.not_eq_eq_eq_not, Bool.not_true, Bool.not_false, Int.not_lt, Int.not_le, Classical.not_not, beq_iff_eq, beq_eq_false_iff_ne] at hc5
    refine CW.seq ?_
    refine CW.reg ?_
    refine WL.pure rfl rfl rfl (PV.assign rfl) ?_
    refine WL.nilS ?_
    refine CW.ret ?_
    refine RQ.then ?_
    refine RQ.r1 rfl ?_
    refine ⟨?_, hB⟩
    first | rfl | (exfalso; omega) | (exfalso; simp only [ne_eq, decide_eq_decide] at *; omega) | (exfalso; rw [hok] at *; contradiction)
  try simp only [decide_eq_true_eq, decide_eq_false_iff_not, Bool.not_eq_true', Bool.not_eq_false', Bool.not_eq_eq_eq_not, Bool.not_true, Bool.not_false, Int.not_lt, Int.not_le, Classical.not_not, beq_iff_eq, beq_eq_false_iff_ne] at hc5
  refine CW.skipS ?_
  refine CW.seq ?_
  refine CW.reg ?_
  refine WL.pure rfl rfl rfl (PV.assign rfl) ?_
  refine WL.nilS ?_
  refine CW.seq ?_
  refine CW.seq ?_
  refine CW.reg ?_
  refine WL.pure rfl rfl rfl (PV.move rfl) ?_
  refine WL.pure rfl rfl rfl ((PV.lenOs rfl ho4 T.sl22)) ?_
  refine WL.pure rfl rfl rfl (PV.move rfl) ?_
  refine WL.nilS ?_
  refine CW.block ?_
  refine CW.loop (σk := [(6, _), (7, _), (8, _), (10, _), (56, _)]) (fun ρ wz m => ∃ (k : Nat) (bb : Int), ρ = [(12, .int .i64 bb), (57, .int .i64 (k : Nat))] ∧ m = ws3.length - k ∧ UpdL [] w6 wz ∧ (k ≤ ws3.length) ∧ (bb = dpP [0, 1, 2] ws3 k)) (ρ₀ := [(12, _), (57, _)]) (m₀ := _) ⟨rfl, rfl, rfl, rfl, rfl, rfl, rfl, trivial⟩ ⟨0, 0, rfl, rfl, (UpdL.refl _ _), (by first | omega | rfl | (simp; done) | assumption | (simp_all; done)), (by exact (dp_zero _ _).symm)⟩ ?_
  rintro _ wl1 _ ⟨k, bb, rfl, rfl, hU0, hk, hbb⟩
  have ho1 := ho1.loop hU0 trivial
  have ho4 := ho4.loop hU0 trivial
  have ho6 := ho6.loop hU0 trivial
  have ho7 := ho7.loop hU0 trivial
  have hB := hB.loop hU0 trivial
  have hI2 : 0 ≤ dpP [0, 1, 2] ws3 k ∧ dpP [0, 1, 2] ws3 k ≤ k := by (have h := (InvP.all [0, 1, 2] ws3 k).l2; unfold dpP; omega)
  refine CW.seq ?_
  refine CW.reg ?_
  refine WL.pure rfl rfl rfl (PV.lss rfl rfl) ?_
  refine WL.nilS ?_
  refine CW.seq ?_
  refine CW.cond rfl (fun hc6 => ?_) (fun hc6 => ?_)
  · skip
    try simp only [decide_eq_true_eq, decide_eq_false_iff_not, Bool.not_eq_true', Bool.not_eq_false', Bool.not_eq_eq_eq_not, Bool.not_true, Bool.not_false, Int.not_lt, Int.not_le, Classical.not_not, beq_iff_eq, beq_eq_false_iff_ne] at hc6
    refine CW.skipS ?_
    refine CW.seq ?_
    refine CW.block ?_
    refine CW.seq ?_
    refine CW.reg ?_
    refine WL.pure rfl rfl rfl (PV.move rfl) ?_
    refine WL.pure rfl rfl rfl (PV.assign rfl) ?_
    refine WL.nilS ?_
    refine CW.seq ?_
    refine CW.reg ?_
    have hcl := callsL hm5.2 (i := k) (by omega); have hdg := depL_get (kd := [0, 1, 2]) (wd := ws3) (i := k) (n := ws3.length) (by omega); have hrk := getD_P hm5.2 (i := k) (by omega); have hI3 : 0 ≤ dpP [0, 1, 2] ws3 (k + 1) := (by unfold dpP; omega)
    refine WL.pure rfl rfl rfl (PV.move rfl) ?_
    refine WL.pure rfl rfl rfl (PV.move rfl) ?_
    first
      | refine WL.atO (x := .tmp 60) (y := .tmp 61) (f := VI) (0) rfl rfl ho6 (by first | omega | (simp; omega) | (simp_all; omega)) (fun p1 hpp1 hcp1 => ?_)
      | refine WL.atOZ (x := .tmp 60) (y := .tmp 61) (f := VI) (0) rfl rfl ho6 (by first | omega | (simp; omega) | (simp_all; omega)) (fun p1 hpp1 hzp1 hcp1 => ?_)
    refine WL.pure rfl rfl rfl ((by first | exact PV.indexAddr hpp1 rfl rfl T.sl22 | exact PV.indexAddr hpp1 rfl (by rw [← hzp1]; rfl) T.sl22)) ?_
    refine WL.pure rfl rfl rfl ((by first | exact PV.load0 T.na2 rfl (by first | exact Cells.up (by assumption) hB | exact Bx.cells (by assumption) | assumption) (Ext.refl _) rfl | exact PV.load1 T.na2 rfl (by first | exact Cells.up (by assumption) hB | exact Bx.cells (by assumption) | assumption) (Ext.refl _) rfl)) ?_
    refine WL.pure rfl rfl rfl (PV.assign rfl) ?_
    refine WL.nilS ?_
    refine CW.seq ?_
    refine CW.seq ?_
    refine CW.draw T.mixed (by kernel_rfl) (fun _ _ _ _ _ h => h) (fun w8 w9 => Upd none w8 w9) 42 (.take 0 (.take 1 (.take 2 (.split (.take 3 (.take 4 (.take 5 (.split (.take 6 (.take 7 (.take 8 (.take 9 (.take 10 (.take 11 (.take 12 (.take 13 (.take 14 (.take 15 (.take 16 (.take 17 (.take 18 (.take 19 (.take 20 (.take 21 (.take 22 (.take 23 (.take 24 (.take 25 (.take 26 (.take 27 (.take 28 (.take 29 (.take 30 (.take 31 (.take 32 (.take 33 (.take 34 (.take 35 (.take 36 (.take 37 (.take 38 (.take 39 (.take 40 (.take 41 .done)))))))))))))))))))))))))))))))))))) (.take 6 (.take 7 (.take 8 (.take 9 (.take 10 (.split (.take 11 (.take 12 (.take 13 (.take 14 (.take 15 (.take 16 (.take 17 (.take 18 (.take 19 (.take 20 (.take 21 (.take 22 (.take 23 (.take 24 (.take 25 (.take 26 (.take 27 (.take 28 (.take 29 (.take 30 (.take 31 (.take 32 (.take 33 (.take 34 (.take 35 (.take 36 (.take 37 (.take 38 (.take 39 (.take 40 (.take 41 .done))))))))))))))))))))))))))))))) (.take 11 (.take 12 (.take 13 (.take 14 (.take 15 (.take 16 (.take 17 (.take 18 (.split (.take 19 (.take 20 (.take 21 (.take 22 (.take 23 (.take 24 (.take 25 (.take 26 (.take 27 (.take 28 (.take 29 (.take 30 (.take 31 (.take 32 (.take 33 (.take 34 (.take 35 (.take 36 (.take 37 (.take 38 (.take 39 (.take 40 (.take 41 .done))))))))))))))))))))))) (.take 19 (.take 20 (.take 21 (.take 22 (.take 23 (.take 24 (.take 25 (.take 26 (.take 27 (.take 28 (.take 29 (.take 30 (.split (.take 31 (.take 32 (.take 33 (.take 34 (.take 35 (.take 36 (.take 37 (.take 38 (.take 39 (.take 40 (.take 41 .done))))))))))) (.take 31 (.take 32 (.take 33 (.take 34 (.take 35 (.take 36 (.take 37 (.take 38 (.take 39 (.take 40 (.take 41 .done))))))))))))))))))))))))))))))))))))))))))) (.take 3 (.take 4 (.take 5 (.take 6 (.take 7 (.take 8 (.take 9 (.take 10 (.take 11 (.take 12 (.take 13 (.take 14 (.take 15 (.take 16 (.take 17 (.take 18 (.take 19 (.take 20 (.take 21 (.take 22 (.take 23 (.take 24 (.take 25 (.take 26 (.take 27 (.take 28 (.take 29 (.take 30 (.take 31 (.take 32 (.take 33 (.take 34 (.take 35 (.take 36 (.take 37 (.take 38 (.take 39 (.take 40 (.take 41 .done))))))))))))))))))))))))))))))))))))))))))) (by kernel_rfl) (fun w7 hXd => ?_)
    have hB := hB.trans hXd
    have ho1 := ho1.up hXd
    have ho4 := ho4.up hXd
    have ho6 := ho6.up hXd
    have ho7 := ho7.up hXd
    have hU0 := hU0.ext hXd
    have hBr := hB
    have hS : Upd none w7 w7 := Ext.toUpd (Ext.refl _)
    refine HP.take rfl rfl rfl rfl hS (fun wS hS1 => PV.move rfl) ?_
    refine HP.take rfl rfl rfl rfl hS (fun wS hS1 => PV.neq rfl rfl) ?_
    refine HP.take rfl rfl rfl rfl hS (fun wS hS1 => PV.move rfl) ?_
    refine HP.split (t := 66) rfl (fun hc7 => ?_) (fun hc7 => ?_)
    rotate_left
    · skip
      try simp only [decide_eq_true_eq, decide_eq_false_iff_not, Bool.not_eq_true', Bool.not_eq_false', Bool.not_eq_eq_eq_not, Bool.not_true, Bool.not_false, Int.not_lt, Int.not_le, Classical.not_not, beq_iff_eq, beq_eq_false_iff_ne] at hc7
      refine HP.skip rfl rfl rfl rfl rfl rfl hS ?_
      refine HP.skip rfl rfl rfl rfl rfl rfl hS ?_
      refine HP.skip rfl rfl rfl rfl rfl rfl hS ?_
      refine HP.skipU rfl rfl rfl rfl rfl rfl hS ?_
      refine HP.skipU rfl rfl rfl rfl rfl rfl hS ?_
      refine HP.skipU rfl rfl rfl rfl rfl rfl hS ?_
      refine HP.skip rfl rfl rfl rfl rfl rfl hS ?_
      refine HP.skip rfl rfl rfl rfl rfl rfl hS ?_
      refine HP.skipU rfl rfl rfl rfl rfl rfl hS ?_
      refine HP.skipU rfl rfl rfl rfl rfl rfl hS ?_
      refine HP.skipU rfl rfl rfl rfl rfl rfl hS ?_
      refine HP.skipU rfl rfl rfl rfl rfl rfl hS ?_
      refine HP.skipU rfl rfl rfl rfl rfl rfl hS ?_
      refine HP.skipU rfl rfl rfl rfl rfl rfl hS ?_
      refine HP.skip rfl rfl rfl rfl rfl rfl hS ?_
      refine HP.skip rfl rfl rfl rfl rfl rfl hS ?_
      refine HP.skipU rfl rfl rfl rfl rfl rfl hS ?_
      refine HP.skipU rfl rfl rfl rfl rfl rfl hS ?_
      refine HP.skipU rfl rfl rfl rfl rfl rfl hS ?_
      refine HP.skipU rfl rfl rfl rfl rfl rfl hS ?_
      refine HP.skipU rfl rfl rfl rfl rfl rfl hS ?_
      refine HP.skipU rfl rfl rfl rfl rfl rfl hS ?_
      refine HP.skipU rfl rfl rfl rfl rfl rfl hS ?_
      refine HP.skipU rfl rfl rfl rfl rfl rfl hS ?_
      refine HP.skipU rfl rfl rfl rfl rfl rfl hS ?_
      refine HP.skipU rfl rfl rfl rfl rfl rfl hS ?_
      refine HP.skip rfl rfl rfl rfl rfl rfl hS ?_
      refine HP.skip rfl rfl rfl rfl rfl rfl hS ?_
      refine HP.skipU rfl rfl rfl rfl rfl rfl hS ?_
      refine HP.skipU rfl rfl rfl rfl rfl rfl hS ?_
      refine HP.skipU rfl rfl rfl rfl rfl rfl hS ?_
      refine HP.skipU rfl rfl rfl rfl rfl rfl hS ?_
      refine HP.skipU rfl rfl rfl rfl rfl rfl hS ?_
      refine HP.skipU rfl rfl rfl rfl rfl rfl hS ?_
      refine HP.skipU rfl rfl rfl rfl rfl rfl hS ?_
      refine HP.skipU rfl rfl rfl rfl rfl rfl hS ?_
      refine HP.skipU rfl rfl rfl rfl rfl rfl hS ?_
      refine HP.skip rfl rfl rfl rfl rfl rfl hS ?_
      refine HP.take rfl rfl rfl rfl hS (fun wS hS1 => PV.pickF rfl rfl) ?_
      refine HP.doneS ?_
      refine CW.condF rfl ?_
      refine CW.skipS ?_
      refine CW.seq ?_
      refine CW.reg ?_
      refine WL.pure rfl rfl rfl (PV.move rfl) ?_
      refine WL.pure rfl rfl rfl (PV.assign rfl) ?_
      refine WL.nilS ?_
      refine CW.seq ?_
      refine CW.seq ?_
      refine CW.reg ?_
      refine WL.pure rfl rfl rfl (PV.move rfl) ?_
      refine WL.pure rfl rfl rfl (PV.move rfl) ?_
      first
        | refine WL.atO (x := .tmp 107) (y := .tmp 108) (f := VI) (0) rfl rfl ho4 (by first | omega | (simp; omega) | (simp_all; omega)) (fun p2 hpp2 hcp2 => ?_)
        | refine WL.atOZ (x := .tmp 107) (y := .tmp 108) (f := VI) (0) rfl rfl ho4 (by first | omega | (simp; omega) | (simp_all; omega)) (fun p2 hpp2 hzp2 hcp2 => ?_)
      refine WL.pure rfl rfl rfl ((by first | exact PV.indexAddr hpp2 rfl rfl T.sl22 | exact PV.indexAddr hpp2 rfl (by rw [← hzp2]; rfl) T.sl22)) ?_
      refine WL.pure rfl rfl rfl ((by first | exact PV.load0 T.na2 rfl (by first | exact Cells.up (by assumption) hB | exact Bx.cells (by assumption) | assumption) (Ext.refl _) rfl | exact PV.load1 T.na2 rfl (by first | exact Cells.up (by assumption) hB | exact Bx.cells (by assumption) | assumption) (Ext.refl _) rfl)) ?_
      refine WL.pure rfl rfl rfl (PV.eql rfl rfl) ?_
      refine WL.nilS ?_
      refine CW.cond rfl (fun hc8 => ?_) (fun hc8 => ?_)
      · skip
        try simp only [decide_eq_true_eq, decide_eq_false_iff_not, Bool.not_eq_true', Bool.not_eq_false', Bool.not_eq_eq_eq_not, Bool.not_true, Bool.not_false, Int.not_lt, Int.not_le, Classical.not_not, beq_iff_eq, beq_eq_false_iff_ne] at hc8
        refine CW.reg ?_
        refine WL.pure rfl rfl rfl (PV.move rfl) ?_
        refine WL.pure rfl rfl rfl (PV.add rfl rfl (by constructor <;> omega)) ?_
        refine WL.pure rfl rfl rfl (PV.assign rfl) ?_
        refine WL.nilS ?_
        refine CW.seq ?_
        refine CW.seq ?_
        refine CW.reg ?_
        refine WL.pure rfl rfl rfl (PV.move rfl) ?_
        refine WL.pure rfl rfl rfl (PV.move rfl) ?_
        first
          | refine WL.atO (x := .tmp 114) (y := .tmp 115) (f := VI) (0) rfl rfl ho4 (by first | omega | (simp; omega) | (simp_all; omega)) (fun p3 hpp3 hcp3 => ?_)
          | refine WL.atOZ (x := .tmp 114) (y := .tmp 115) (f := VI) (0) rfl rfl ho4 (by first | omega | (simp; omega) | (simp_all; omega)) (fun p3 hpp3 hzp3 hcp3 => ?_)
        refine WL.pure rfl rfl rfl ((by first | exact PV.indexAddr hpp3 rfl rfl T.sl22 | exact PV.indexAddr hpp3 rfl (by rw [← hzp3]; rfl) T.sl22)) ?_
        refine WL.pure rfl rfl rfl ((by first | exact PV.load0 T.na2 rfl (by first | exact Cells.up (by assumption) hB | exact Bx.cells (by assumption) | assumption) (Ext.refl _) rfl | exact PV.load1 T.na2 rfl (by first | exact Cells.up (by assumption) hB | exact Bx.cells (by assumption) | assumption) (Ext.refl _) rfl)) ?_
        refine WL.pure rfl rfl rfl (PV.eql rfl rfl) ?_
        refine WL.pure rfl rfl rfl (PV.move rfl) ?_
        refine WL.split (t := 119) rfl (fun hc9 => ?_) (fun hc9 => ?_)
        rotate_left
        · skip
          try simp only [decide_eq_true_eq, decide_eq_false_iff_not, Bool.not_eq_true', Bool.not_eq_false', Bool.not_eq_eq_eq_not, Bool.not_true, Bool.not_false, Int.not_lt, Int.not_le, Classical.not_not, beq_iff_eq, beq_eq_false_iff_ne] at hc9
          refine WL.skip rfl rfl rfl rfl rfl ?_
          refine WL.skip rfl rfl rfl rfl rfl ?_
          refine WL.pure rfl rfl rfl (PV.pickF rfl rfl) ?_
          refine WL.nilS ?_
          refine CW.condF rfl ?_
          refine CW.skipS ?_
          refine CW.seq ?_
          refine CW.seq ?_
          refine CW.reg ?_
          refine WL.pure rfl rfl rfl (PV.move rfl) ?_
          refine WL.pure rfl rfl rfl (PV.move rfl) ?_
          first
            | refine WL.atO (x := .tmp 125) (y := .tmp 126) (f := VI) (0) rfl rfl ho7 (by first | omega | (simp; omega) | (simp_all; omega)) (fun p4 hpp4 hcp4 => ?_)
            | refine WL.atOZ (x := .tmp 125) (y := .tmp 126) (f := VI) (0) rfl rfl ho7 (by first | omega | (simp; omega) | (simp_all; omega)) (fun p4 hpp4 hzp4 hcp4 => ?_)
          refine WL.pure rfl rfl rfl ((by first | exact PV.indexAddr hpp4 rfl rfl T.sl22 | exact PV.indexAddr hpp4 rfl (by rw [← hzp4]; rfl) T.sl22)) ?_
          refine WL.pure rfl rfl rfl ((by first | exact PV.load0 T.na2 rfl (by first | exact Cells.up (by assumption) hB | exact Bx.cells (by assumption) | assumption) (Ext.refl _) rfl | exact PV.load1 T.na2 rfl (by first | exact Cells.up (by assumption) hB | exact Bx.cells (by assumption) | assumption) (Ext.refl _) rfl)) ?_
          refine WL.pure rfl rfl rfl (PV.move rfl) ?_
          refine WL.pure rfl rfl rfl (PV.neq rfl rfl) ?_
          refine WL.pure rfl rfl rfl (PV.move rfl) ?_
          refine WL.split (t := 131) rfl (fun hc10 => ?_) (fun hc10 => ?_)
          · skip
            try simp only [decide_eq_true_eq, decide_eq_false_iff_not, Bool.not_eq_true', Bool.not_eq_false', Bool.not_eq_eq_eq_not, Bool.not_true, Bool.not_false, Int.not_lt, Int.not_le, Classical.not_not, beq_iff_eq, beq_eq_false_iff_ne] at hc10
            refine WL.skip rfl rfl rfl rfl rfl ?_
            refine WL.skip rfl rfl rfl rfl rfl ?_
            refine WL.pure rfl rfl rfl (PV.pickT rfl rfl) ?_
            refine WL.pure rfl rfl rfl (PV.move rfl) ?_
            refine WL.skip rfl rfl rfl rfl rfl ?_
            refine WL.skip rfl rfl rfl rfl rfl ?_
            refine WL.skip rfl rfl rfl rfl rfl ?_
            refine WL.skip rfl rfl rfl rfl rfl ?_
            refine WL.skip rfl rfl rfl rfl rfl ?_
            refine WL.skip rfl rfl rfl rfl rfl ?_
            refine WL.skipU rfl rfl rfl rfl rfl ?_
            refine WL.skipU rfl rfl rfl rfl rfl ?_
            refine WL.skip rfl rfl rfl rfl rfl ?_
            refine WL.skip rfl rfl rfl rfl rfl ?_
            refine WL.skipU rfl rfl rfl rfl rfl ?_
            refine WL.skipU rfl rfl rfl rfl rfl ?_
            refine WL.skip rfl rfl rfl rfl rfl ?_
            refine WL.pure rfl rfl rfl (PV.pickT rfl rfl) ?_
            refine WL.nilS ?_
            refine CW.condT rfl ?_
            refine CW.seq ?_
            refine CW.reg ?_
            refine WL.pure rfl rfl rfl (PV.assign rfl) ?_
            refine WL.nilS ?_
            refine CW.ret ?_
            refine RQ.then ?_
            refine RQ.block ?_
            refine RQ.then ?_
            refine RQ.then ?_
            refine RQ.block ?_
            refine RQ.then ?_
            refine RQ.r1 rfl ?_
            refine ⟨?_, hB⟩
            first | rfl | (exfalso; omega) | (exfalso; simp only [ne_eq, decide_eq_decide] at *; omega) | (exfalso; rw [hok] at *; contradiction)
          try simp only [decide_eq_true_eq, decide_eq_false_iff_not, Bool.not_eq_true', Bool.not_eq_false', Bool.not_eq_eq_eq_not, Bool.not_true, Bool.not_false, Int.not_lt, Int.not_le, Classical.not_not, beq_iff_eq, beq_eq_false_iff_ne] at hc10
          refine WL.pureG rfl rfl rfl rfl rfl (PV.move rfl) ?_
          refine WL.pureG rfl rfl rfl rfl rfl (PV.lss rfl rfl) ?_
          refine WL.pure rfl rfl rfl (PV.pickF rfl rfl) ?_
          refine WL.pure rfl rfl rfl (PV.move rfl) ?_
          refine WL.split (t := 135) rfl (fun hc11 => ?_) (fun hc11 => ?_)
          · skip
            try simp only [decide_eq_true_eq, decide_eq_false_iff_not, Bool.not_eq_true', Bool.not_eq_false', Bool.not_eq_eq_eq_not, Bool.not_true, Bool.not_false, Int.not_lt, Int.not_le, Classical.not_not, beq_iff_eq, beq_eq_false_iff_ne] at hc11
            refine WL.skip rfl rfl rfl rfl rfl ?_
            refine WL.skip rfl rfl rfl rfl rfl ?_
            refine WL.skip rfl rfl rfl rfl rfl ?_
            refine WL.skip rfl rfl rfl rfl rfl ?_
            refine WL.skip rfl rfl rfl rfl rfl ?_
            refine WL.skip rfl rfl rfl rfl rfl ?_
            refine WL.skipU rfl rfl rfl rfl rfl ?_
            refine WL.skipU rfl rfl rfl rfl rfl ?_
            refine WL.skip rfl rfl rfl rfl rfl ?_
            refine WL.skip rfl rfl rfl rfl rfl ?_
            refine WL.skipU rfl rfl rfl rfl rfl ?_
            refine WL.skipU rfl rfl rfl rfl rfl ?_
            refine WL.skip rfl rfl rfl rfl rfl ?_
            refine WL.pure rfl rfl rfl (PV.pickT rfl rfl) ?_
            refine WL.nilS ?_
            refine CW.condT rfl ?_
            refine CW.seq ?_
            refine CW.reg ?_
            refine WL.pure rfl rfl rfl (PV.assign rfl) ?_
            refine WL.nilS ?_
            refine CW.ret ?_
            refine RQ.then ?_
            refine RQ.block ?_
            refine RQ.then ?_
            refine RQ.then ?_
            refine RQ.block ?_
            refine RQ.then ?_
            refine RQ.r1 rfl ?_
            refine ⟨?_, hB⟩
            first | rfl | (exfalso; omega) | (exfalso; simp only [ne_eq, decide_eq_decide] at *; omega) | (exfalso; rw [hok] at *; contradiction)
          try simp only [decide_eq_true_eq, decide_eq_false_iff_not, Bool.not_eq_true', Bool.not_eq_false', Bool.not_eq_eq_eq_not, Bool.not_true, Bool.not_false, Int.not_lt, Int.not_le, Classical.not_not, beq_iff_eq, beq_eq_false_iff_ne] at hc11
          refine WL.pureG rfl rfl rfl rfl rfl (PV.move rfl) ?_
          refine WL.pureG rfl rfl rfl rfl rfl (PV.move rfl) ?_
          first
            | refine WL.atO (x := .tmp 136) (y := .tmp 137) (f := VI) (0) rfl rfl ho4 (by first | omega | (simp; omega) | (simp_all; omega)) (fun p5 hpp5 hcp5 => ?_)
            | refine WL.atOZ (x := .tmp 136) (y := .tmp 137) (f := VI) (0) rfl rfl ho4 (by first | omega | (simp; omega) | (simp_all; omega)) (fun p5 hpp5 hzp5 hcp5 => ?_)
          refine WL.pureG rfl rfl rfl rfl rfl ((by first | exact PV.indexAddr hpp5 rfl rfl T.sl22 | exact PV.indexAddr hpp5 rfl (by rw [← hzp5]; rfl) T.sl22)) ?_
          refine WL.pureG rfl rfl rfl rfl rfl ((by first | exact PV.load0 T.na2 rfl (by first | exact Cells.up (by assumption) hB | exact Bx.cells (by assumption) | assumption) (Ext.refl _) rfl | exact PV.load1 T.na2 rfl (by first | exact Cells.up (by assumption) hB | exact Bx.cells (by assumption) | assumption) (Ext.refl _) rfl)) ?_
          refine WL.pureG rfl rfl rfl rfl rfl (PV.eql rfl rfl) ?_
          refine WL.pureG rfl rfl rfl rfl rfl (PV.move rfl) ?_
          refine WL.split (t := 141) rfl (fun hc12 => ?_) (fun hc12 => ?_)
          rotate_left
          · skip
            try simp only [decide_eq_true_eq, decide_eq_false_iff_not, Bool.not_eq_true', Bool.not_eq_false', Bool.not_eq_eq_eq_not, Bool.not_true, Bool.not_false, Int.not_lt, Int.not_le, Classical.not_not, beq_iff_eq, beq_eq_false_iff_ne] at hc12
            refine WL.skip rfl rfl rfl rfl rfl ?_
            refine WL.skip rfl rfl rfl rfl rfl ?_
            refine WL.pureG rfl rfl rfl rfl rfl (PV.pickF rfl rfl) ?_
            refine WL.pureG rfl rfl rfl rfl rfl (PV.move rfl) ?_
            refine WL.skip rfl rfl rfl rfl rfl ?_
            refine WL.skip rfl rfl rfl rfl rfl ?_
            refine WL.pureG rfl rfl rfl rfl rfl (PV.pickF rfl rfl) ?_
            refine WL.pure rfl rfl rfl (PV.pickF rfl rfl) ?_
            refine WL.nilS ?_
            refine CW.condF rfl ?_
            refine CW.skipS ?_
            refine CW.reg ?_
            refine WL.pure rfl rfl rfl (PV.move rfl) ?_
            refine WL.pure rfl rfl rfl (PV.assign rfl) ?_
            refine WL.nil ?_
            refine NQ.block ?_
            refine NQ.then ?_
            refine CW.reg ?_
            refine WL.pure rfl rfl rfl (PV.add rfl rfl (by constructor <;> omega)) ?_
            refine WL.pure rfl rfl rfl (PV.move rfl) ?_
            refine WL.nil ?_
            refine NQ.next (ρ := [(12, _), (57, _)]) ⟨rfl, rfl, rfl, rfl, rfl, rfl, rfl, trivial⟩ ?_
            exact ⟨_, ⟨k + 1, _, rfl, rfl, hU0, (by first | omega | assumption | (simp_all; done) | (simp_all; omega)), (by omega)⟩, by omega⟩
          try simp only [decide_eq_true_eq, decide_eq_false_iff_not, Bool.not_eq_true', Bool.not_eq_false', Bool.not_eq_eq_eq_not, Bool.not_true, Bool.not_false, Int.not_lt, Int.not_le, Classical.not_not, beq_iff_eq, beq_eq_false_iff_ne] at hc12
          refine WL.pureG rfl rfl rfl rfl rfl (PV.move rfl) ?_
          refine WL.pureG rfl rfl rfl rfl rfl (PV.eql rfl rfl) ?_
          refine WL.pureG rfl rfl rfl rfl rfl (PV.pickT rfl rfl) ?_
          refine WL.pureG rfl rfl rfl rfl rfl (PV.move rfl) ?_
          refine WL.split (t := 145) rfl (fun hc13 => ?_) (fun hc13 => ?_)
          rotate_left
          · skip
            try simp only [decide_eq_true_eq, decide_eq_false_iff_not, Bool.not_eq_true', Bool.not_eq_false', Bool.not_eq_eq_eq_not, Bool.not_true, Bool.not_false, Int.not_lt, Int.not_le, Classical.not_not, beq_iff_eq, beq_eq_false_iff_ne] at hc13
            refine WL.skip rfl rfl rfl rfl rfl ?_
            refine WL.skip rfl rfl rfl rfl rfl ?_
            refine WL.pureG rfl rfl rfl rfl rfl (PV.pickF rfl rfl) ?_
            refine WL.pure rfl rfl rfl (PV.pickF rfl rfl) ?_
            refine WL.nilS ?_
            refine CW.condF rfl ?_
            refine CW.skipS ?_
            refine CW.reg ?_
            refine WL.pure rfl rfl rfl (PV.move rfl) ?_
            refine WL.pure rfl rfl rfl (PV.assign rfl) ?_
            refine WL.nil ?_
            refine NQ.block ?_
            refine NQ.then ?_
            refine CW.reg ?_
            refine WL.pure rfl rfl rfl (PV.add rfl rfl (by constructor <;> omega)) ?_
            refine WL.pure rfl rfl rfl (PV.move rfl) ?_
            refine WL.nil ?_
            refine NQ.next (ρ := [(12, _), (57, _)]) ⟨rfl, rfl, rfl, rfl, rfl, rfl, rfl, trivial⟩ ?_
            exact ⟨_, ⟨k + 1, _, rfl, rfl, hU0, (by first | omega | assumption | (simp_all; done) | (simp_all; omega)), (by omega)⟩, by omega⟩
          try simp only [decide_eq_true_eq, decide_eq_false_iff_not, Bool.not_eq_true', Bool.not_eq_false', Bool.not_eq_eq_eq_not, Bool.not_true, Bool.not_false, Int.not_lt, Int.not_le, Classical.not_not, beq_iff_eq, beq_eq_false_iff_ne] at hc13
          refine WL.pureG rfl rfl rfl rfl rfl (PV.move rfl) ?_
          refine WL.pureG rfl rfl rfl rfl rfl (PV.neq rfl rfl) ?_
          refine WL.pureG rfl rfl rfl rfl rfl (PV.pickT rfl rfl) ?_
          refine WL.pure rfl rfl rfl (PV.pickF rfl rfl) ?_
          refine WL.nilS ?_
          refine CW.cond rfl (fun hc14 => ?_) (fun hc14 => ?_)
          · skip
            try simp only [decide_eq_true_eq, decide_eq_false_iff_not, Bool.not_eq_true', Bool.not_eq_false', Bool.not_eq_eq_eq_not, Bool.not_true, Bool.not_false, Int.not_lt, Int.not_le, Classical.not_not, beq_iff_eq, beq_eq_false_iff_ne] at hc14
            refine CW.seq ?_
            refine CW.reg ?_
            refine WL.pure rfl rfl rfl (PV.assign rfl) ?_
            refine WL.nilS ?_
            refine CW.ret ?_
            refine RQ.then ?_
            refine RQ.block ?_
            refine RQ.then ?_
            refine RQ.then ?_
            refine RQ.block ?_
            refine RQ.then ?_
            refine RQ.r1 rfl ?_
            refine ⟨?_, hB⟩
            first | rfl | (exfalso; omega) | (exfalso; simp only [ne_eq, decide_eq_decide] at *; omega) | (exfalso; rw [hok] at *; contradiction)
          try simp only [decide_eq_true_eq, decide_eq_false_iff_not, Bool.not_eq_true', Bool.not_eq_false', Bool.not_eq_eq_eq_not, Bool.not_true, Bool.not_false, Int.not_lt, Int.not_le, Classical.not_not, beq_iff_eq, beq_eq_false_iff_ne] at hc14
          refine CW.skipS ?_
          refine CW.reg ?_
          refine WL.pure rfl rfl rfl (PV.move rfl) ?_
          refine WL.pure rfl rfl rfl (PV.assign rfl) ?_
          refine WL.nil ?_
          refine NQ.block ?_
          refine NQ.then ?_
          refine CW.reg ?_
          refine WL.pure rfl rfl rfl (PV.add rfl rfl (by constructor <;> omega)) ?_
          refine WL.pure rfl rfl rfl (PV.move rfl) ?_
          refine WL.nil ?_
          refine NQ.next (ρ := [(12, _), (57, _)]) ⟨rfl, rfl, rfl, rfl, rfl, rfl, rfl, trivial⟩ ?_
          exact ⟨_, ⟨k + 1, _, rfl, rfl, hU0, (by first | omega | assumption | (simp_all; done) | (simp_all; omega)), (by omega)⟩, by omega⟩
        try simp only [decide_eq_true_eq, decide_eq_false_iff_not, Bool.not_eq_true', Bool.not_eq_false', Bool.not_eq_eq_eq_not, Bool.not_true, Bool.not_false, Int.not_lt, Int.not_le, Classical.not_not, beq_iff_eq, beq_eq_false_iff_ne] at hc9
        refine WL.pureG rfl rfl rfl rfl rfl (PV.move rfl) ?_
        refine WL.pureG rfl rfl rfl rfl rfl (PV.neq rfl rfl) ?_
        refine WL.pure rfl rfl rfl (PV.pickT rfl rfl) ?_
        refine WL.nilS ?_
        refine CW.cond rfl (fun hc15 => ?_) (fun hc15 => ?_)
        · skip
          try simp only [decide_eq_true_eq, decide_eq_false_iff_not, Bool.not_eq_true', Bool.not_eq_false', Bool.not_eq_eq_eq_not, Bool.not_true, Bool.not_false, Int.not_lt, Int.not_le, Classical.not_not, beq_iff_eq, beq_eq_false_iff_ne] at hc15
          refine CW.reg ?_
          refine WL.pure rfl rfl rfl (PV.move rfl) ?_
          refine WL.pure rfl rfl rfl (PV.sub rfl rfl (by constructor <;> omega)) ?_
          refine WL.pure rfl rfl rfl (PV.assign rfl) ?_
          refine WL.nilS ?_
          refine CW.seq ?_
          refine CW.seq ?_
          refine CW.reg ?_
          refine WL.pure rfl rfl rfl (PV.move rfl) ?_
          refine WL.pure rfl rfl rfl (PV.move rfl) ?_
          first
            | refine WL.atO (x := .tmp 125) (y := .tmp 126) (f := VI) (0) rfl rfl ho7 (by first | omega | (simp; omega) | (simp_all; omega)) (fun p6 hpp6 hcp6 => ?_)
            | refine WL.atOZ (x := .tmp 125) (y := .tmp 126) (f := VI) (0) rfl rfl ho7 (by first | omega | (simp; omega) | (simp_all; omega)) (fun p6 hpp6 hzp6 hcp6 => ?_)
          refine WL.pure rfl rfl rfl ((by first | exact PV.indexAddr hpp6 rfl rfl T.sl22 | exact PV.indexAddr hpp6 rfl (by rw [← hzp6]; rfl) T.sl22)) ?_
          refine WL.pure rfl rfl rfl ((by first | exact PV.load0 T.na2 rfl (by first | exact Cells.up (by assumption) hB | exact Bx.cells (by assumption) | assumption) (Ext.refl _) rfl | exact PV.load1 T.na2 rfl (by first | exact Cells.up (by assumption) hB | exact Bx.cells (by assumption) | assumption) (Ext.refl _) rfl)) ?_
          refine WL.pure rfl rfl rfl (PV.move rfl) ?_
          refine WL.pure rfl rfl rfl (PV.neq rfl rfl) ?_
          refine WL.pure rfl rfl rfl (PV.move rfl) ?_
          refine WL.split (t := 131) rfl (fun hc16 => ?_) (fun hc16 => ?_)
          · skip
            try simp only [decide_eq_true_eq, decide_eq_false_iff_not, Bool.not_eq_true', Bool.not_eq_false', Bool.not_eq_eq_eq_not, Bool.not_true, Bool.not_false, Int.not_lt, Int.not_le, Classical.not_not, beq_iff_eq, beq_eq_false_iff_ne] at hc16
            refine WL.skip rfl rfl rfl rfl rfl ?_
            refine WL.skip rfl rfl rfl rfl rfl ?_
            refine WL.pure rfl rfl rfl (PV.pickT rfl rfl) ?_
            refine WL.pure rfl rfl rfl (PV.move rfl) ?_
            refine WL.skip rfl rfl rfl rfl rfl ?_
            refine WL.skip rfl rfl rfl rfl rfl ?_
            refine WL.skip rfl rfl rfl rfl rfl ?_
            refine WL.skip rfl rfl rfl rfl rfl ?_
            refine WL.skip rfl rfl rfl rfl rfl ?_
            refine WL.skip rfl rfl rfl rfl rfl ?_
            refine WL.skipU rfl rfl rfl rfl rfl ?_
            refine WL.skipU rfl rfl rfl rfl rfl ?_
            refine WL.skip rfl rfl rfl rfl rfl ?_
            refine WL.skip rfl rfl rfl rfl rfl ?_
            refine WL.skipU rfl rfl rfl rfl rfl ?_
            refine WL.skipU rfl rfl rfl rfl rfl ?_
            refine WL.skip rfl rfl rfl rfl rfl ?_
            refine WL.pure rfl rfl rfl (PV.pickT rfl rfl) ?_
            refine WL.nilS ?_
            refine CW.condT rfl ?_
            refine CW.seq ?_
            refine CW.reg ?_
            refine WL.pure rfl rfl rfl (PV.assign rfl) ?_
            refine WL.nilS ?_
            refine CW.ret ?_
            refine RQ.then ?_
            refine RQ.block ?_
            refine RQ.then ?_
            refine RQ.then ?_
            refine RQ.block ?_
            refine RQ.then ?_
            refine RQ.r1 rfl ?_
            refine ⟨?_, hB⟩
            first | rfl | (exfalso; omega) | (exfalso; simp only [ne_eq, decide_eq_decide] at *; omega) | (exfalso; rw [hok] at *; contradiction)
          try simp only [decide_eq_true_eq, decide_eq_false_iff_not, Bool.not_eq_true', Bool.not_eq_false', Bool.not_eq_eq_eq_not, Bool.not_true, Bool.not_false, Int.not_lt, Int.not_le, Classical.not_not, beq_iff_eq, beq_eq_false_iff_ne] at hc16
          refine WL.pureG rfl rfl rfl rfl rfl (PV.move rfl) ?_
          refine WL.pureG rfl rfl rfl rfl rfl (PV.lss rfl rfl) ?_
          refine WL.pure rfl rfl rfl (PV.pickF rfl rfl) ?_
          refine WL.pure rfl rfl rfl (PV.move rfl) ?_
          refine WL.split (t := 135) rfl (fun hc17 => ?_) (fun hc17 => ?_)
          · skip
            try simp only [decide_eq_true_eq, decide_eq_false_iff_not, Bool.not_eq_true', Bool.not_eq_false', Bool.not_eq_eq_eq_not, Bool.not_true, Bool.not_false, Int.not_lt, Int.not_le, Classical.not_not, beq_iff_eq, beq_eq_false_iff_ne] at hc17
            refine WL.skip rfl rfl rfl rfl rfl ?_
            refine WL.skip rfl rfl rfl rfl rfl ?_
            refine WL.skip rfl rfl rfl rfl rfl ?_
            refine WL.skip rfl rfl rfl rfl rfl ?_
            refine WL.skip rfl rfl rfl rfl rfl ?_
            refine WL.skip rfl rfl rfl rfl rfl ?_
            refine WL.skipU rfl rfl rfl rfl rfl ?_
            refine WL.skipU rfl rfl rfl rfl rfl ?_
            refine WL.skip rfl rfl rfl rfl rfl ?_
            refine WL.skip rfl rfl rfl rfl rfl ?_
            refine WL.skipU rfl rfl rfl rfl rfl ?_
            refine WL.skipU rfl rfl rfl rfl rfl ?_
            refine WL.skip rfl rfl rfl rfl rfl ?_
            refine WL.pure rfl rfl rfl (PV.pickT rfl rfl) ?_
            refine WL.nilS ?_
            refine CW.condT rfl ?_
            refine CW.seq ?_
            refine CW.reg ?_
            refine WL.pure rfl rfl rfl (PV.assign rfl) ?_
            refine WL.nilS ?_
            refine CW.ret ?_
            refine RQ.then ?_
            refine RQ.block ?_
            refine RQ.then ?_
            refine RQ.then ?_
            refine RQ.block ?_
            refine RQ.then ?_
            refine RQ.r1 rfl ?_
            refine ⟨?_, hB⟩
            first | rfl | (exfalso; omega) | (exfalso; simp only [ne_eq, decide_eq_decide] at *; omega) | (exfalso; rw [hok] at *; contradiction)
          try simp only [decide_eq_true_eq, decide_eq_false_iff_not, Bool.not_eq_true', Bool.not_eq_false', Bool.not_eq_eq_eq_not, Bool.not_true, Bool.not_false, Int.not_lt, Int.not_le, Classical.not_not, beq_iff_eq, beq_eq_false_iff_ne] at hc17
          refine WL.pureG rfl rfl rfl rfl rfl (PV.move rfl) ?_
          refine WL.pureG rfl rfl rfl rfl rfl (PV.move rfl) ?_
          first
            | refine WL.atO (x := .tmp 136) (y := .tmp 137) (f := VI) (0) rfl rfl ho4 (by first | omega | (simp; omega) | (simp_all; omega)) (fun p7 hpp7 hcp7 => ?_)
            | refine WL.atOZ (x := .tmp 136) (y := .tmp 137) (f := VI) (0) rfl rfl ho4 (by first | omega | (simp; omega) | (simp_all; omega)) (fun p7 hpp7 hzp7 hcp7 => ?_)
          refine WL.pureG rfl rfl rfl rfl rfl ((by first | exact PV.indexAddr hpp7 rfl rfl T.sl22 | exact PV.indexAddr hpp7 rfl (by rw [← hzp7]; rfl) T.sl22)) ?_
          refine WL.pureG rfl rfl rfl rfl rfl ((by first | exact PV.load0 T.na2 rfl (by first | exact Cells.up (by assumption) hB | exact Bx.cells (by assumption) | assumption) (Ext.refl _) rfl | exact PV.load1 T.na2 rfl (by first | exact Cells.up (by assumption) hB | exact Bx.cells (by assumption) | assumption) (Ext.refl _) rfl)) ?_
          refine WL.pureG rfl rfl rfl rfl rfl (PV.eql rfl rfl) ?_
          refine WL.pureG rfl rfl rfl rfl rfl (PV.move rfl) ?_
          refine WL.split (t := 141) rfl (fun hc18 => ?_) (fun hc18 => ?_)
          rotate_left
          · skip
            try simp only [decide_eq_true_eq, decide_eq_false_iff_not, Bool.not_eq_true', Bool.not_eq_false', Bool.not_eq_eq_eq_not, Bool.not_true, Bool.not_false, Int.not_lt, Int.not_le, Classical.not_not, beq_iff_eq, beq_eq_false_iff_ne] at hc18
            refine WL.skip rfl rfl rfl rfl rfl ?_
            refine WL.skip rfl rfl rfl rfl rfl ?_
            refine WL.pureG rfl rfl rfl rfl rfl (PV.pickF rfl rfl) ?_
            refine WL.pureG rfl rfl rfl rfl rfl (PV.move rfl) ?_
            refine WL.skip rfl rfl rfl rfl rfl ?_
            refine WL.skip rfl rfl rfl rfl rfl ?_
            refine WL.pureG rfl rfl rfl rfl rfl (PV.pickF rfl rfl) ?_
            refine WL.pure rfl rfl rfl (PV.pickF rfl rfl) ?_
            refine WL.nilS ?_
            refine CW.condF rfl ?_
            refine CW.skipS ?_
            refine CW.reg ?_
            refine WL.pure rfl rfl rfl (PV.move rfl) ?_
            refine WL.pure rfl rfl rfl (PV.assign rfl) ?_
            refine WL.nil ?_
            refine NQ.block ?_
            refine NQ.then ?_
            refine CW.reg ?_
            refine WL.pure rfl rfl rfl (PV.add rfl rfl (by constructor <;> omega)) ?_
            refine WL.pure rfl rfl rfl (PV.move rfl) ?_
            refine WL.nil ?_
            refine NQ.next (ρ := [(12, _), (57, _)]) ⟨rfl, rfl, rfl, rfl, rfl, rfl, rfl, trivial⟩ ?_
            exact ⟨_, ⟨k + 1, _, rfl, rfl, hU0, (by first | omega | assumption | (simp_all; done) | (simp_all; omega)), (by omega)⟩, by omega⟩
          try simp only [decide_eq_true_eq, decide_eq_false_iff_not, Bool.not_eq_true', Bool.not_eq_false', Bool.not_eq_eq_eq_not, Bool.not_true, Bool.not_false, Int.not_lt, Int.not_le, Classical.not_not, beq_iff_eq, beq_eq_false_iff_ne] at hc18
          refine WL.pureG rfl rfl rfl rfl rfl (PV.move rfl) ?_
          refine WL.pureG rfl rfl rfl rfl rfl (PV.eql rfl rfl) ?_
          refine WL.pureG rfl rfl rfl rfl rfl (PV.pickT rfl rfl) ?_
          refine WL.pureG rfl rfl rfl rfl rfl (PV.move rfl) ?_
          refine WL.split (t := 145) rfl (fun hc19 => ?_) (fun hc19 => ?_)
          rotate_left
          · skip
            try simp only [decide_eq_true_eq, decide_eq_false_iff_not, Bool.not_eq_true', Bool.not_eq_false', Bool.not_eq_eq_eq_not, Bool.not_true, Bool.not_false, Int.not_lt, Int.not_le, Classical.not_not, beq_iff_eq, beq_eq_false_iff_ne] at hc19
            refine WL.skip rfl rfl rfl rfl rfl ?_
            refine WL.skip rfl rfl rfl rfl rfl ?_
            refine WL.pureG rfl rfl rfl rfl rfl (PV.pickF rfl rfl) ?_
            refine WL.pure rfl rfl rfl (PV.pickF rfl rfl) ?_
            refine WL.nilS ?_
            refine CW.condF rfl ?_
            refine CW.skipS ?_
            refine CW.reg ?_
            refine WL.pure rfl rfl rfl (PV.move rfl) ?_
            refine WL.pure rfl rfl rfl (PV.assign rfl) ?_
            refine WL.nil ?_
            refine NQ.block ?_
            refine NQ.then ?_
            refine CW.reg ?_
            refine WL.pure rfl rfl rfl (PV.add rfl rfl (by constructor <;> omega)) ?_
            refine WL.pure rfl rfl rfl (PV.move rfl) ?_
            refine WL.nil ?_
            refine NQ.next (ρ := [(12, _), (57, _)]) ⟨rfl, rfl, rfl, rfl, rfl, rfl, rfl, trivial⟩ ?_
            exact ⟨_, ⟨k + 1, _, rfl, rfl, hU0, (by first | omega | assumption | (simp_all; done) | (simp_all; omega)), (by omega)⟩, by omega⟩
          try simp only [decide_eq_true_eq, decide_eq_false_iff_not, Bool.not_eq_true', Bool.not_eq_false', Bool.not_eq_eq_eq_not, Bool.not_true, Bool.not_false, Int.not_lt, Int.not_le, Classical.not_not, beq_iff_eq, beq_eq_false_iff_ne] at hc19
          refine WL.pureG rfl rfl rfl rfl rfl (PV.move rfl) ?_
          refine WL.pureG rfl rfl rfl rfl rfl (PV.neq rfl rfl) ?_
          refine WL.pureG rfl rfl rfl rfl rfl (PV.pickT rfl rfl) ?_
          refine WL.pure rfl rfl rfl (PV.pickF rfl rfl) ?_
          refine WL.nilS ?_
          refine CW.cond rfl (fun hc20 => ?_) (fun hc20 => ?_)
          · skip
            try simp only [decide_eq_true_eq, decide_eq_false_iff_not, Bool.not_eq_true', Bool.not_eq_false', Bool.not_eq_eq_eq_not, Bool.not_true, Bool.not_false, Int.not_lt, Int.not_le, Classical.not_not, beq_iff_eq, beq_eq_false_iff_ne] at hc20
            refine CW.seq ?_
            refine CW.reg ?_
            refine WL.pure rfl rfl rfl (PV.assign rfl) ?_
            refine WL.nilS ?_
            refine CW.ret ?_
            refine RQ.then ?_
            refine RQ.block ?_
            refine RQ.then ?_
            refine RQ.then ?_
            refine RQ.block ?_
            refine RQ.then ?_
            refine RQ.r1 rfl ?_
            refine ⟨?_, hB⟩
            first | rfl | (exfalso; omega) | (exfalso; simp only [ne_eq, decide_eq_decide] at *; omega) | (exfalso; rw [hok] at *; contradiction)
          try simp only [decide_eq_true_eq, decide_eq_false_iff_not, Bool.not_eq_true', Bool.not_eq_false', Bool.not_eq_eq_eq_not, Bool.not_true, Bool.not_false, Int.not_lt, Int.not_le, Classical.not_not, beq_iff_eq, beq_eq_false_iff_ne] at hc20
          refine CW.skipS ?_
          refine CW.reg ?_
          refine WL.pure rfl rfl rfl (PV.move rfl) ?_
          refine WL.pure rfl rfl rfl (PV.assign rfl) ?_
          refine WL.nil ?_
          refine NQ.block ?_
          refine NQ.then ?_
          refine CW.reg ?_
          refine WL.pure rfl rfl rfl (PV.add rfl rfl (by constructor <;> omega)) ?_
          refine WL.pure rfl rfl rfl (PV.move rfl) ?_
          refine WL.nil ?_
          refine NQ.next (ρ := [(12, _), (57, _)]) ⟨rfl, rfl, rfl, rfl, rfl, rfl, rfl, trivial⟩ ?_
          exact ⟨_, ⟨k + 1, _, rfl, rfl, hU0, (by first | omega | assumption | (simp_all; done) | (simp_all; omega)), (by omega)⟩, by omega⟩
        try simp only [decide_eq_true_eq, decide_eq_false_iff_not, Bool.not_eq_true', Bool.not_eq_false', Bool.not_eq_eq_eq_not, Bool.not_true, Bool.not_false, Int.not_lt, Int.not_le, Classical.not_not, beq_iff_eq, beq_eq_false_iff_ne] at hc15
        refine CW.skipS ?_
        refine CW.seq ?_
        refine CW.seq ?_
        refine CW.reg ?_
        refine WL.pure rfl rfl rfl (PV.move rfl) ?_
        refine WL.pure rfl rfl rfl (PV.move rfl) ?_
        first
          | refine WL.atO (x := .tmp 125) (y := .tmp 126) (f := VI) (0) rfl rfl ho7 (by first | omega | (simp; omega) | (simp_all; omega)) (fun p8 hpp8 hcp8 => ?_)
          | refine WL.atOZ (x := .tmp 125) (y := .tmp 126) (f := VI) (0) rfl rfl ho7 (by first | omega | (simp; omega) | (simp_all; omega)) (fun p8 hpp8 hzp8 hcp8 => ?_)
        refine WL.pure rfl rfl rfl ((by first | exact PV.indexAddr hpp8 rfl rfl T.sl22 | exact PV.indexAddr hpp8 rfl (by rw [← hzp8]; rfl) T.sl22)) ?_
        refine WL.pure rfl rfl rfl ((by first | exact PV.load0 T.na2 rfl (by first | exact Cells.up (by assumption) hB | exact Bx.cells (by assumption) | assumption) (Ext.refl _) rfl | exact PV.load1 T.na2 rfl (by first | exact Cells.up (by assumption) hB | exact Bx.cells (by assumption) | assumption) (Ext.refl _) rfl)) ?_
        refine WL.pure rfl rfl rfl (PV.move rfl) ?_
        refine WL.pure rfl rfl rfl (PV.neq rfl rfl) ?_
        refine WL.pure rfl rfl rfl (PV.move rfl) ?_
        refine WL.split (t := 131) rfl (fun hc21 => ?_) (fun hc21 => ?_)
        · skip
          try simp only [decide_eq_true_eq, decide_eq_false_iff_not, Bool.not_eq_true', Bool.not_eq_false', Bool.not_eq_eq_eq_not, Bool.not_true, Bool.not_false, Int.not_lt, Int.not_le, Classical.not_not, beq_iff_eq, beq_eq_false_iff_ne] at hc21
          refine WL.skip rfl rfl rfl rfl rfl ?_
          refine WL.skip rfl rfl rfl rfl rfl ?_
          refine WL.pure rfl rfl rfl (PV.pickT rfl rfl) ?_
          refine WL.pure rfl rfl rfl (PV.move rfl) ?_
          refine WL.skip rfl rfl rfl rfl rfl ?_
          refine WL.skip rfl rfl rfl rfl rfl ?_
          refine WL.skip rfl rfl rfl rfl rfl ?_
          refine WL.skip rfl rfl rfl rfl rfl ?_
          refine WL.skip rfl rfl rfl rfl rfl ?_
          refine WL.skip rfl rfl rfl rfl rfl ?_
          refine WL.skipU rfl rfl rfl rfl rfl ?_
          refine WL.skipU rfl rfl rfl rfl rfl ?_
          refine WL.skip rfl rfl rfl rfl rfl ?_
          refine WL.skip rfl rfl rfl rfl rfl ?_
          refine WL.skipU rfl rfl rfl rfl rfl ?_
          refine WL.skipU rfl rfl rfl rfl rfl ?_
          refine WL.skip rfl rfl rfl rfl rfl ?_
          refine WL.pure rfl rfl rfl (PV.pickT rfl rfl) ?_
          refine WL.nilS ?_
          refine CW.condT rfl ?_
          refine CW.seq ?_
          refine CW.reg ?_
          refine WL.pure rfl rfl rfl (PV.assign rfl) ?_
          refine WL.nilS ?_
          refine CW.ret ?_
          refine RQ.then ?_
          refine RQ.block ?_
          refine RQ.then ?_
          refine RQ.then ?_
          refine RQ.block ?_
          refine RQ.then ?_
          refine RQ.r1 rfl ?_
          refine ⟨?_, hB⟩
          first | rfl | (exfalso; omega) | (exfalso; simp only [ne_eq, decide_eq_decide] at *; omega) | (exfalso; rw [hok] at *; contradiction)
        try simp only [decide_eq_true_eq, decide_eq_false_iff_not, Bool.not_eq_true', Bool.not_eq_false', Bool.not_eq_eq_eq_not, Bool.not_true, Bool.not_false, Int.not_lt, Int.not_le, Classical.not_not, beq_iff_eq, beq_eq_false_iff_ne] at hc21
        refine WL.pureG rfl rfl rfl rfl rfl (PV.move rfl) ?_
        refine WL.pureG rfl rfl rfl rfl rfl (PV.lss rfl rfl) ?_
        refine WL.pure rfl rfl rfl (PV.pickF rfl rfl) ?_
        refine WL.pure rfl rfl rfl (PV.move rfl) ?_
        refine WL.split (t := 135) rfl (fun hc22 => ?_) (fun hc22 => ?_)
        · skip
          try simp only [decide_eq_true_eq, decide_eq_false_iff_not, Bool.not_eq_true', Bool.not_eq_false', Bool.not_eq_eq_eq_not, Bool.not_true, Bool.not_false, Int.not_lt, Int.not_le, Classical.not_not, beq_iff_eq, beq_eq_false_iff_ne] at hc22
          refine WL.skip rfl rfl rfl rfl rfl ?_
          refine WL.skip rfl rfl rfl rfl rfl ?_
          refine WL.skip rfl rfl rfl rfl rfl ?_
          refine WL.skip rfl rfl rfl rfl rfl ?_
          refine WL.skip rfl rfl rfl rfl rfl ?_
          refine WL.skip rfl rfl rfl rfl rfl ?_
          refine WL.skipU rfl rfl rfl rfl rfl ?_
          refine WL.skipU rfl rfl rfl rfl rfl ?_
          refine WL.skip rfl rfl rfl rfl rfl ?_
          refine WL.skip rfl rfl rfl rfl rfl ?_
          refine WL.skipU rfl rfl rfl rfl rfl ?_
          refine WL.skipU rfl rfl rfl rfl rfl ?_
          refine WL.skip rfl rfl rfl rfl rfl ?_
          refine WL.pure rfl rfl rfl (PV.pickT rfl rfl) ?_
          refine WL.nilS ?_
          refine CW.condT rfl ?_
          refine CW.seq ?_
          refine CW.reg ?_
          refine WL.pure rfl rfl rfl (PV.assign rfl) ?_
          refine WL.nilS ?_
          refine CW.ret ?_
          refine RQ.then ?_
          refine RQ.block ?_
          refine RQ.then ?_
          refine RQ.then ?_
          refine RQ.block ?_
          refine RQ.then ?_
          refine RQ.r1 rfl ?_
          refine ⟨?_, hB⟩
          first | rfl | (exfalso; omega) | (exfalso; simp only [ne_eq, decide_eq_decide] at *; omega) | (exfalso; rw [hok] at *; contradiction)
        try simp only [decide_eq_true_eq, decide_eq_false_iff_not, Bool.not_eq_true', Bool.not_eq_false', Bool.not_eq_eq_eq_not, Bool.not_true, Bool.not_false, Int.not_lt, Int.not_le, Classical.not_not, beq_iff_eq, beq_eq_false_iff_ne] at hc22
        refine WL.pureG rfl rfl rfl rfl rfl (PV.move rfl) ?_
        refine WL.pureG rfl rfl rfl rfl rfl (PV.move rfl) ?_
        first
          | refine WL.atO (x := .tmp 136) (y := .tmp 137) (f := VI) (0) rfl rfl ho4 (by first | omega | (simp; omega) | (simp_all; omega)) (fun p9 hpp9 hcp9 => ?_)
          | refine WL.atOZ (x := .tmp 136) (y := .tmp 137) (f := VI) (0) rfl rfl ho4 (by first | omega | (simp; omega) | (simp_all; omega)) (fun p9 hpp9 hzp9 hcp9 => ?_)
        refine WL.pureG rfl rfl rfl rfl rfl ((by first | exact PV.indexAddr hpp9 rfl rfl T.sl22 | exact PV.indexAddr hpp9 rfl (by rw [← hzp9]; rfl) T.sl22)) ?_
        refine WL.pureG rfl rfl rfl rfl rfl ((by first | exact PV.load0 T.na2 rfl (by first | exact Cells.up (by assumption) hB | exact Bx.cells (by assumption) | assumption) (Ext.refl _) rfl | exact PV.load1 T.na2 rfl (by first | exact Cells.up (by assumption) hB | exact Bx.cells (by assumption) | assumption) (Ext.refl _) rfl)) ?_
        refine WL.pureG rfl rfl rfl rfl rfl (PV.eql rfl rfl) ?_
        refine WL.pureG rfl rfl rfl rfl rfl (PV.move rfl) ?_
        refine WL.split (t := 141) rfl (fun hc23 => ?_) (fun hc23 => ?_)
        rotate_left
        · skip
          try simp only [decide_eq_true_eq, decide_eq_false_iff_not, Bool.not_eq_true', Bool.not_eq_false', Bool.not_eq_eq_eq_not, Bool.not_true, Bool.not_false, Int.not_lt, Int.not_le, Classical.not_not, beq_iff_eq, beq_eq_false_iff_ne] at hc23
          refine WL.skip rfl rfl rfl rfl rfl ?_
          refine WL.skip rfl rfl rfl rfl rfl ?_
          refine WL.pureG rfl rfl rfl rfl rfl (PV.pickF rfl rfl) ?_
          refine WL.pureG rfl rfl rfl rfl rfl (PV.move rfl) ?_
          refine WL.skip rfl rfl rfl rfl rfl ?_
          refine WL.skip rfl rfl rfl rfl rfl ?_
          refine WL.pureG rfl rfl rfl rfl rfl (PV.pickF rfl rfl) ?_
          refine WL.pure rfl rfl rfl (PV.pickF rfl rfl) ?_
          refine WL.nilS ?_
          refine CW.condF rfl ?_
          refine CW.skipS ?_
          refine CW.reg ?_
          refine WL.pure rfl rfl rfl (PV.move rfl) ?_
          refine WL.pure rfl rfl rfl (PV.assign rfl) ?_
          refine WL.nil ?_
          refine NQ.block ?_
          refine NQ.then ?_
          refine CW.reg ?_
          refine WL.pure rfl rfl rfl (PV.add rfl rfl (by constructor <;> omega)) ?_
          refine WL.pure rfl rfl rfl (PV.move rfl) ?_
          refine WL.nil ?_
          refine NQ.next (ρ := [(12, _), (57, _)]) ⟨rfl, rfl, rfl, rfl, rfl, rfl, rfl, trivial⟩ ?_
          exact ⟨_, ⟨k + 1, _, rfl, rfl, hU0, (by first | omega | assumption | (simp_all; done) | (simp_all; omega)), (by omega)⟩, by omega⟩
        try simp only [decide_eq_true_eq, decide_eq_false_iff_not, Bool.not_eq_true', Bool.not_eq_false', Bool.not_eq_eq_eq_not, Bool.not_true, Bool.not_false, Int.not_lt, Int.not_le, Classical.not_not, beq_iff_eq, beq_eq_false_iff_ne] at hc23
        refine WL.pureG rfl rfl rfl rfl rfl (PV.move rfl) ?_
        refine WL.pureG rfl rfl rfl rfl rfl (PV.eql rfl rfl) ?_
        refine WL.pureG rfl rfl rfl rfl rfl (PV.pickT rfl rfl) ?_
        refine WL.pureG rfl rfl rfl rfl rfl (PV.move rfl) ?_
        refine WL.split (t := 145) rfl (fun hc24 => ?_) (fun hc24 => ?_)
        rotate_left
        · skip
          try simp only [decide_eq_true_eq, decide_eq_false_iff_not, Bool.not_eq_true', Bool.not_eq_false', Bool.not_eq_eq_eq_not, Bool.not_true, Bool.not_false, Int.not_lt, Int.not_le, Classical.not_not, beq_iff_eq, beq_eq_false_iff_ne] at hc24
          refine WL.skip rfl rfl rfl rfl rfl ?_
          refine WL.skip rfl rfl rfl rfl rfl ?_
          refine WL.pureG rfl rfl rfl rfl rfl (PV.pickF rfl rfl) ?_
          refine WL.pure rfl rfl rfl (PV.pickF rfl rfl) ?_
          refine WL.nilS ?_
          refine CW.condF rfl ?_
          refine CW.skipS ?_
          refine CW.reg ?_
          refine WL.pure rfl rfl rfl (PV.move rfl) ?_
          refine WL.pure rfl rfl rfl (PV.assign rfl) ?_
          refine WL.nil ?_
          refine NQ.block ?_
          refine NQ.then ?_
          refine CW.reg ?_
          refine WL.pure rfl rfl rfl (PV.add rfl rfl (by constructor <;> omega)) ?_
          refine WL.pure rfl rfl rfl (PV.move rfl) ?_
          refine WL.nil ?_
          refine NQ.next (ρ := [(12, _), (57, _)]) ⟨rfl, rfl, rfl, rfl, rfl, rfl, rfl, trivial⟩ ?_
          exact ⟨_, ⟨k + 1, _, rfl, rfl, hU0, (by first | omega | assumption | (simp_all; done) | (simp_all; omega)), (by omega)⟩, by omega⟩
        try simp only [decide_eq_true_eq, decide_eq_false_iff_not, Bool.not_eq_true', Bool.not_eq_false', Bool.not_eq_eq_eq_not, Bool.not_true, Bool.not_false, Int.not_lt, Int.not_le, Classical.not_not, beq_iff_eq, beq_eq_false_iff_ne] at hc24
        refine WL.pureG rfl rfl rfl rfl rfl (PV.move rfl) ?_
        refine WL.pureG rfl rfl rfl rfl rfl (PV.neq rfl rfl) ?_
        refine WL.pureG rfl rfl rfl rfl rfl (PV.pickT rfl rfl) ?_
        refine WL.pure rfl rfl rfl (PV.pickF rfl rfl) ?_
        refine WL.nilS ?_
        refine CW.cond rfl (fun hc25 => ?_) (fun hc25 => ?_)
        · skip
          try simp only [decide_eq_true_eq, decide_eq_false_iff_not, Bool.not_eq_true', Bool.not_eq_false', Bool.not_eq_eq_eq_not, Bool.not_true, Bool.not_false, Int.not_lt, Int.not_le, Classical.not_not, beq_iff_eq, beq_eq_false_iff_ne] at hc25
          refine CW.seq ?_
          refine CW.reg ?_
          refine WL.pure rfl rfl rfl (PV.assign rfl) ?_
          refine WL.nilS ?_
          refine CW.ret ?_
          refine RQ.then ?_
          refine RQ.block ?_
          refine RQ.then ?_
          refine RQ.then ?_
          refine RQ.block ?_
          refine RQ.then ?_
          refine RQ.r1 rfl ?_
          refine ⟨?_, hB⟩
          first | rfl | (exfalso; omega) | (exfalso; simp only [ne_eq, decide_eq_decide] at *; omega) | (exfalso; rw [hok] at *; contradiction)
        try simp only [decide_eq_true_eq, decide_eq_false_iff_not, Bool.not_eq_true', Bool.not_eq_false', Bool.not_eq_eq_eq_not, Bool.not_true, Bool.not_false, Int.not_lt, Int.not_le, Classical.not_not, beq_iff_eq, beq_eq_false_iff_ne] at hc25
        refine CW.skipS ?_
        refine CW.reg ?_
        refine WL.pure rfl rfl rfl (PV.move rfl) ?_
        refine WL.pure rfl rfl rfl (PV.assign rfl) ?_
        refine WL.nil ?_
        refine NQ.block ?_
        refine NQ.then ?_
        refine CW.reg ?_
        refine WL.pure rfl rfl rfl (PV.add rfl rfl (by constructor <;> omega)) ?_
        refine WL.pure rfl rfl rfl (PV.move rfl) ?_
        refine WL.nil ?_
        refine NQ.next (ρ := [(12, _), (57, _)]) ⟨rfl, rfl, rfl, rfl, rfl, rfl, rfl, trivial⟩ ?_
        exact ⟨_, ⟨k + 1, _, rfl, rfl, hU0, (by first | omega | assumption | (simp_all; done) | (simp_all; omega)), (by omega)⟩, by omega⟩
      try simp only [decide_eq_true_eq, decide_eq_false_iff_not, Bool.not_eq_true', Bool.not_eq_false', Bool.not_eq_eq_eq_not, Bool.not_true, Bool.not_false, Int.not_lt, Int.not_le, Classical.not_not, beq_iff_eq, beq_eq_false_iff_ne] at hc8
      refine CW.skipS ?_
      refine CW.seq ?_
      refine CW.seq ?_
      refine CW.reg ?_
      refine WL.pure rfl rfl rfl (PV.move rfl) ?_
      refine WL.pure rfl rfl rfl (PV.move rfl) ?_
      first
        | refine WL.atO (x := .tmp 114) (y := .tmp 115) (f := VI) (0) rfl rfl ho4 (by first | omega | (simp; omega) | (simp_all; omega)) (fun p10 hpp10 hcp10 => ?_)
        | refine WL.atOZ (x := .tmp 114) (y := .tmp 115) (f := VI) (0) rfl rfl ho4 (by first | omega | (simp; omega) | (simp_all; omega)) (fun p10 hpp10 hzp10 hcp10 => ?_)
      refine WL.pure rfl rfl rfl ((by first | exact PV.indexAddr hpp10 rfl rfl T.sl22 | exact PV.indexAddr hpp10 rfl (by rw [← hzp10]; rfl) T.sl22)) ?_
      refine WL.pure rfl rfl rfl ((by first | exact PV.load0 T.na2 rfl (by first | exact Cells.up (by assumption) hB | exact Bx.cells (by assumption) | assumption) (Ext.refl _) rfl | exact PV.load1 T.na2 rfl (by first | exact Cells.up (by assumption) hB | exact Bx.cells (by assumption) | assumption) (Ext.refl _) rfl)) ?_
      refine WL.pure rfl rfl rfl (PV.eql rfl rfl) ?_
      refine WL.pure rfl rfl rfl (PV.move rfl) ?_
      refine WL.split (t := 119) rfl (fun hc26 => ?_) (fun hc26 => ?_)
      rotate_left
      · skip
        try simp only [decide_eq_true_eq, decide_eq_false_iff_not, Bool.not_eq_true', Bool.not_eq_false', Bool.not_eq_eq_eq_not, Bool.not_true, Bool.not_false, Int.not_lt, Int.not_le, Classical.not_not, beq_iff_eq, beq_eq_false_iff_ne] at hc26
        refine WL.skip rfl rfl rfl rfl rfl ?_
        refine WL.skip rfl rfl rfl rfl rfl ?_
        refine WL.pure rfl rfl rfl (PV.pickF rfl rfl) ?_
        refine WL.nilS ?_
        refine CW.condF rfl ?_
        refine CW.skipS ?_
        refine CW.seq ?_
        refine CW.seq ?_
        refine CW.reg ?_
        refine WL.pure rfl rfl rfl (PV.move rfl) ?_
        refine WL.pure rfl rfl rfl (PV.move rfl) ?_
        first
          | refine WL.atO (x := .tmp 125) (y := .tmp 126) (f := VI) (0) rfl rfl ho7 (by first | omega | (simp; omega) | (simp_all; omega)) (fun p11 hpp11 hcp11 => ?_)
          | refine WL.atOZ (x := .tmp 125) (y := .tmp 126) (f := VI) (0) rfl rfl ho7 (by first | omega | (simp; omega) | (simp_all; omega)) (fun p11 hpp11 hzp11 hcp11 => ?_)
        refine WL.pure rfl rfl rfl ((by first | exact PV.indexAddr hpp11 rfl rfl T.sl22 | exact PV.indexAddr hpp11 rfl (by rw [← hzp11]; rfl) T.sl22)) ?_
        refine WL.pure rfl rfl rfl ((by first | exact PV.load0 T.na2 rfl (by first | exact Cells.up (by assumption) hB | exact Bx.cells (by assumption) | assumption) (Ext.refl _) rfl | exact PV.load1 T.na2 rfl (by first | exact Cells.up (by assumption) hB | exact Bx.cells (by assumption) | assumption) (Ext.refl _) rfl)) ?_
        refine WL.pure rfl rfl rfl (PV.move rfl) ?_
        refine WL.pure rfl rfl rfl (PV.neq rfl rfl) ?_
        refine WL.pure rfl rfl rfl (PV.move rfl) ?_
        refine WL.split (t := 131) rfl (fun hc27 => ?_) (fun hc27 => ?_)
        · skip
          try simp only [decide_eq_true_eq, decide_eq_false_iff_not, Bool.not_eq_true', Bool.not_eq_false', Bool.not_eq_eq_eq_not, Bool.not_true, Bool.not_false, Int.not_lt, Int.not_le, Classical.not_not, beq_iff_eq, beq_eq_false_iff_ne] at hc27
          refine WL.skip rfl rfl rfl rfl rfl ?_
          refine WL.skip rfl rfl rfl rfl rfl ?_
          refine WL.pure rfl rfl rfl (PV.pickT rfl rfl) ?_
          refine WL.pure rfl rfl rfl (PV.move rfl) ?_
          refine WL.skip rfl rfl rfl rfl rfl ?_
          refine WL.skip rfl rfl rfl rfl rfl ?_
          refine WL.skip rfl rfl rfl rfl rfl ?_
          refine WL.skip rfl rfl rfl rfl rfl ?_
          refine WL.skip rfl rfl rfl rfl rfl ?_
          refine WL.skip rfl rfl rfl rfl rfl ?_
          refine WL.skipU rfl rfl rfl rfl rfl ?_
          refine WL.skipU rfl rfl rfl rfl rfl ?_
          refine WL.skip rfl rfl rfl rfl rfl ?_
          refine WL.skip rfl rfl rfl rfl rfl ?_
          refine WL.skipU rfl rfl rfl rfl rfl ?_
          refine WL.skipU rfl rfl rfl rfl rfl ?_
          refine WL.skip rfl rfl rfl rfl rfl ?_
          refine WL.pure rfl rfl rfl (PV.pickT rfl rfl) ?_
          refine WL.nilS ?_
          refine CW.condT rfl ?_
          refine CW.seq ?_
          refine CW.reg ?_
          refine WL.pure rfl rfl rfl (PV.assign rfl) ?_
          refine WL.nilS ?_
          refine CW.ret ?_
          refine RQ.then ?_
          refine RQ.block ?_
          refine RQ.then ?_
          refine RQ.then ?_
          refine RQ.block ?_
          refine RQ.then ?_
          refine RQ.r1 rfl ?_
          refine ⟨?_, hB⟩
          first | rfl | (exfalso; omega) | (exfalso; simp only [ne_eq, decide_eq_decide] at *; omega) | (exfalso; rw [hok] at *; contradiction)
        try simp only [decide_eq_true_eq, decide_eq_false_iff_not, Bool.not_eq_true', Bool.not_eq_false', Bool.not_eq_eq_eq_not, Bool.not_true, Bool.not_false, Int.not_lt, Int.not_le, Classical.not_not, beq_iff_eq, beq_eq_false_iff_ne] at hc27
        refine WL.pureG rfl rfl rfl rfl rfl (PV.move rfl) ?_
        refine WL.pureG rfl rfl rfl rfl rfl (PV.lss rfl rfl) ?_
        refine WL.pure rfl rfl rfl (PV.pickF rfl rfl) ?_
        refine WL.pure rfl rfl rfl (PV.move rfl) ?_
        refine WL.split (t := 135) rfl (fun hc28 => ?_) (fun hc28 => ?_)
        · skip
          try simp only [decide_eq_true_eq, decide_eq_false_iff_not, Bool.not_eq_true', Bool.not_eq_false', Bool.not_eq_eq_eq_not, Bool.not_true, Bool.not_false, Int.not_lt, Int.not_le, Classical.not_not, beq_iff_eq, beq_eq_false_iff_ne] at hc28
          refine WL.skip rfl rfl rfl rfl rfl ?_
          refine WL.skip rfl rfl rfl rfl rfl ?_
          refine WL.skip rfl rfl rfl rfl rfl ?_
          refine WL.skip rfl rfl rfl rfl rfl ?_
          refine WL.skip rfl rfl rfl rfl rfl ?_
          refine WL.skip rfl rfl rfl rfl rfl ?_
          refine WL.skipU rfl rfl rfl rfl rfl ?_
          refine WL.skipU rfl rfl rfl rfl rfl ?_
          refine WL.skip rfl rfl rfl rfl rfl ?_
          refine WL.skip rfl rfl rfl rfl rfl ?_
          refine WL.skipU rfl rfl rfl rfl rfl ?_
          refine WL.skipU rfl rfl rfl rfl rfl ?_
          refine WL.skip rfl rfl rfl rfl rfl ?_
          refine WL.pure rfl rfl rfl (PV.pickT rfl rfl) ?_
          refine WL.nilS ?_
          refine CW.condT rfl ?_
          refine CW.seq ?_
          refine CW.reg ?_
          refine WL.pure rfl rfl rfl (PV.assign rfl) ?_
          refine WL.nilS ?_
          refine CW.ret ?_
          refine RQ.then ?_
          refine RQ.block ?_
          refine RQ.then ?_
          refine RQ.then ?_
          refine RQ.block ?_
          refine RQ.then ?_
          refine RQ.r1 rfl ?_
          refine ⟨?_, hB⟩
          first | rfl | (exfalso; omega) | (exfalso; simp only [ne_eq, decide_eq_decide] at *; omega) | (exfalso; rw [hok] at *; contradiction)
        try simp only [decide_eq_true_eq, decide_eq_false_iff_not, Bool.not_eq_true', Bool.not_eq_false', Bool.not_eq_eq_eq_not, Bool.not_true, Bool.not_false, Int.not_lt, Int.not_le, Classical.not_not, beq_iff_eq, beq_eq_false_iff_ne] at hc28
        refine WL.pureG rfl rfl rfl rfl rfl (PV.move rfl) ?_
        refine WL.pureG rfl rfl rfl rfl rfl (PV.move rfl) ?_
        first
          | refine WL.atO (x := .tmp 136) (y := .tmp 137) (f := VI) (0) rfl rfl ho4 (by first | omega | (simp; omega) | (simp_all; omega)) (fun p12 hpp12 hcp12 => ?_)
          | refine WL.atOZ (x := .tmp 136) (y := .tmp 137) (f := VI) (0) rfl rfl ho4 (by first | omega | (simp; omega) | (simp_all; omega)) (fun p12 hpp12 hzp12 hcp12 => ?_)
        refine WL.pureG rfl rfl rfl rfl rfl ((by first | exact PV.indexAddr hpp12 rfl rfl T.sl22 | exact PV.indexAddr hpp12 rfl (by rw [← hzp12]; rfl) T.sl22)) ?_
        refine WL.pureG rfl rfl rfl rfl rfl ((by first | exact PV.load0 T.na2 rfl (by first | exact Cells.up (by assumption) hB | exact Bx.cells (by assumption) | assumption) (Ext.refl _) rfl | exact PV.load1 T.na2 rfl (by first | exact Cells.up (by assumption) hB | exact Bx.cells (by assumption) | assumption) (Ext.refl _) rfl)) ?_
        refine WL.pureG rfl rfl rfl rfl rfl (PV.eql rfl rfl) ?_
        refine WL.pureG rfl rfl rfl rfl rfl (PV.move rfl) ?_
        refine WL.split (t := 141) rfl (fun hc29 => ?_) (fun hc29 => ?_)
        rotate_left
        · skip
          try simp only [decide_eq_true_eq, decide_eq_false_iff_not, Bool.not_eq_true', Bool.not_eq_false', Bool.not_eq_eq_eq_not, Bool.not_true, Bool.not_false, Int.not_lt, Int.not_le, Classical.not_not, beq_iff_eq, beq_eq_false_iff_ne] at hc29
          refine WL.skip rfl rfl rfl rfl rfl ?_
          refine WL.skip rfl rfl rfl rfl rfl ?_
          refine WL.pureG rfl rfl rfl rfl rfl (PV.pickF rfl rfl) ?_
          refine WL.pureG rfl rfl rfl rfl rfl (PV.move rfl) ?_
          refine WL.skip rfl rfl rfl rfl rfl ?_
          refine WL.skip rfl rfl rfl rfl rfl ?_
          refine WL.pureG rfl rfl rfl rfl rfl (PV.pickF rfl rfl) ?_
          refine WL.pure rfl rfl rfl (PV.pickF rfl rfl) ?_
          refine WL.nilS ?_
          refine CW.condF rfl ?_
          refine CW.skipS ?_
          refine CW.reg ?_
          refine WL.pure rfl rfl rfl (PV.move rfl) ?_
          refine WL.pure rfl rfl rfl (PV.assign rfl) ?_
          refine WL.nil ?_
          refine NQ.block ?_
          refine NQ.then ?_
          refine CW.reg ?_
          refine WL.pure rfl rfl rfl (PV.add rfl rfl (by constructor <;> omega)) ?_
          refine WL.pure rfl rfl rfl (PV.move rfl) ?_
          refine WL.nil ?_
          refine NQ.next (ρ := [(12, _), (57, _)]) ⟨rfl, rfl, rfl, rfl, rfl, rfl, rfl, trivial⟩ ?_
          exact ⟨_, ⟨k + 1, _, rfl, rfl, hU0, (by first | omega | assumption | (simp_all; done) | (simp_all; omega)), (by omega)⟩, by omega⟩
        try simp only [decide_eq_true_eq, decide_eq_false_iff_not, Bool.not_eq_true', Bool.not_eq_false', Bool.not_eq_eq_eq_not, Bool.not_true, Bool.not_false, Int.not_lt, Int.not_le, Classical.not_not, beq_iff_eq, beq_eq_false_iff_ne] at hc29
        refine WL.pureG rfl rfl rfl rfl rfl (PV.move rfl) ?_
        refine WL.pureG rfl rfl rfl rfl rfl (PV.eql rfl rfl) ?_
        refine WL.pureG rfl rfl rfl rfl rfl (PV.pickT rfl rfl) ?_
        refine WL.pureG rfl rfl rfl rfl rfl (PV.move rfl) ?_
        refine WL.split (t := 145) rfl (fun hc30 => ?_) (fun hc30 => ?_)
        rotate_left
        · skip
          try simp only [decide_eq_true_eq, decide_eq_false_iff_not, Bool.not_eq_true', Bool.not_eq_false', Bool.not_eq_eq_eq_not, Bool.not_true, Bool.not_false, Int.not_lt, Int.not_le, Classical.not_not, beq_iff_eq, beq_eq_false_iff_ne] at hc30
          refine WL.skip rfl rfl rfl rfl rfl ?_
          refine WL.skip rfl rfl rfl rfl rfl ?_
          refine WL.pureG rfl rfl rfl rfl rfl (PV.pickF rfl rfl) ?_
          refine WL.pure rfl rfl rfl (PV.pickF rfl rfl) ?_
          refine WL.nilS ?_
          refine CW.condF rfl ?_
          refine CW.skipS ?_
          refine CW.reg ?_
          refine WL.pure rfl rfl rfl (PV.move rfl) ?_
          refine WL.pure rfl rfl rfl (PV.assign rfl) ?_
          refine WL.nil ?_
          refine NQ.block ?_
          refine NQ.then ?_
          refine CW.reg ?_
          refine WL.pure rfl rfl rfl (PV.add rfl rfl (by constructor <;> omega)) ?_
          refine WL.pure rfl rfl rfl (PV.move rfl) ?_
          refine WL.nil ?_
          refine NQ.next (ρ := [(12, _), (57, _)]) ⟨rfl, rfl, rfl, rfl, rfl, rfl, rfl, trivial⟩ ?_
          exact ⟨_, ⟨k + 1, _, rfl, rfl, hU0, (by first | omega | assumption | (simp_all; done) | (simp_all; omega)), (by omega)⟩, by omega⟩
        try simp only [decide_eq_true_eq, decide_eq_false_iff_not, Bool.not_eq_true', Bool.not_eq_false', Bool.not_eq_eq_eq_not, Bool.not_true, Bool.not_false, Int.not_lt, Int.not_le, Classical.not_not, beq_iff_eq, beq_eq_false_iff_ne] at hc30
        refine WL.pureG rfl rfl rfl rfl rfl (PV.move rfl) ?_
        refine WL.pureG rfl rfl rfl rfl rfl (PV.neq rfl rfl) ?_
        refine WL.pureG rfl rfl rfl rfl rfl (PV.pickT rfl rfl) ?_
        refine WL.pure rfl rfl rfl (PV.pickF rfl rfl) ?_
        refine WL.nilS ?_
        refine CW.cond rfl (fun hc31 => ?_) (fun hc31 => ?_)
        · skip
          try simp only [decide_eq_true_eq, decide_eq_false_iff_not, Bool.not_eq_true', Bool.not_eq_false', Bool.not_eq_eq_eq_not, Bool.not_true, Bool.not_false, Int.not_lt, Int.not_le, Classical.not_not, beq_iff_eq, beq_eq_false_iff_ne] at hc31
          refine CW.seq ?_
          refine CW.reg ?_
          refine WL.pure rfl rfl rfl (PV.assign rfl) ?_
          refine WL.nilS ?_
          refine CW.ret ?_
          refine RQ.then ?_
          refine RQ.block ?_
          refine RQ.then ?_
          refine RQ.then ?_
          refine RQ.block ?_
          refine RQ.then ?_
          refine RQ.r1 rfl ?_
          refine ⟨?_, hB⟩
          first | rfl | (exfalso; omega) | (exfalso; simp only [ne_eq, decide_eq_decide] at *; omega) | (exfalso; rw [hok] at *; contradiction)
        try simp only [decide_eq_true_eq, decide_eq_false_iff_not, Bool.not_eq_true', Bool.not_eq_false', Bool.not_eq_eq_eq_not, Bool.not_true, Bool.not_false, Int.not_lt, Int.not_le, Classical.not_not, beq_iff_eq, beq_eq_false_iff_ne] at hc31
        refine CW.skipS ?_
        refine CW.reg ?_
        refine WL.pure rfl rfl rfl (PV.move rfl) ?_
        refine WL.pure rfl rfl rfl (PV.assign rfl) ?_
        refine WL.nil ?_
        refine NQ.block ?_
        refine NQ.then ?_
        refine CW.reg ?_
        refine WL.pure rfl rfl rfl (PV.add rfl rfl (by constructor <;> omega)) ?_
        refine WL.pure rfl rfl rfl (PV.move rfl) ?_
        refine WL.nil ?_
        refine NQ.next (ρ := [(12, _), (57, _)]) ⟨rfl, rfl, rfl, rfl, rfl, rfl, rfl, trivial⟩ ?_
        exact ⟨_, ⟨k + 1, _, rfl, rfl, hU0, (by first | omega | assumption | (simp_all; done) | (simp_all; omega)), (by omega)⟩, by omega⟩
      try simp only [decide_eq_true_eq, decide_eq_false_iff_not, Bool.not_eq_true', Bool.not_eq_false', Bool.not_eq_eq_eq_not, Bool.not_true, Bool.not_false, Int.not_lt, Int.not_le, Classical.not_not, beq_iff_eq, beq_eq_false_iff_ne] at hc26
      refine WL.pureG rfl rfl rfl rfl rfl (PV.move rfl) ?_
      refine WL.pureG rfl rfl rfl rfl rfl (PV.neq rfl rfl) ?_
      refine WL.pure rfl rfl rfl (PV.pickT rfl rfl) ?_
      refine WL.nilS ?_
      refine CW.cond rfl (fun hc32 => ?_) (fun hc32 => ?_)
      · skip
        try simp only [decide_eq_true_eq, decide_eq_false_iff_not, Bool.not_eq_true', Bool.not_eq_false', Bool.not_eq_eq_eq_not, Bool.not_true, Bool.not_false, Int.not_lt, Int.not_le, Classical.not_not, beq_iff_eq, beq_eq_false_iff_ne] at hc32
        refine CW.reg ?_
        refine WL.pure rfl rfl rfl (PV.move rfl) ?_
        refine WL.pure rfl rfl rfl (PV.sub rfl rfl (by constructor <;> omega)) ?_
        refine WL.pure rfl rfl rfl (PV.assign rfl) ?_
        refine WL.nilS ?_
        refine CW.seq ?_
        refine CW.seq ?_
        refine CW.reg ?_
        refine WL.pure rfl rfl rfl (PV.move rfl) ?_
        refine WL.pure rfl rfl rfl (PV.move rfl) ?_
        first
          | refine WL.atO (x := .tmp 125) (y := .tmp 126) (f := VI) (0) rfl rfl ho7 (by first | omega | (simp; omega) | (simp_all; omega)) (fun p13 hpp13 hcp13 => ?_)
          | refine WL.atOZ (x := .tmp 125) (y := .tmp 126) (f := VI) (0) rfl rfl ho7 (by first | omega | (simp; omega) | (simp_all; omega)) (fun p13 hpp13 hzp13 hcp13 => ?_)
        refine WL.pure rfl rfl rfl ((by first | exact PV.indexAddr hpp13 rfl rfl T.sl22 | exact PV.indexAddr hpp13 rfl (by rw [← hzp13]; rfl) T.sl22)) ?_
        refine WL.pure rfl rfl rfl ((by first | exact PV.load0 T.na2 rfl (by first | exact Cells.up (by assumption) hB | exact Bx.cells (by assumption) | assumption) (Ext.refl _) rfl | exact PV.load1 T.na2 rfl (by first | exact Cells.up (by assumption) hB | exact Bx.cells (by assumption) | assumption) (Ext.refl _) rfl)) ?_
        refine WL.pure rfl rfl rfl (PV.move rfl) ?_
        refine WL.pure rfl rfl rfl (PV.neq rfl rfl) ?_
        refine WL.pure rfl rfl rfl (PV.move rfl) ?_
        refine WL.split (t := 131) rfl (fun hc33 => ?_) (fun hc33 => ?_)
        · skip
          try simp only [decide_eq_true_eq, decide_eq_false_iff_not, Bool.not_eq_true', Bool.not_eq_false', Bool.not_eq_eq_eq_not, Bool.not_true, Bool.not_false, Int.not_lt, Int.not_le, Classical.not_not, beq_iff_eq, beq_eq_false_iff_ne] at hc33
          refine WL.skip rfl rfl rfl rfl rfl ?_
          refine WL.skip rfl rfl rfl rfl rfl ?_
          refine WL.pure rfl rfl rfl (PV.pickT rfl rfl) ?_
          refine WL.pure rfl rfl rfl (PV.move rfl) ?_
          refine WL.skip rfl rfl rfl rfl rfl ?_
          refine WL.skip rfl rfl rfl rfl rfl ?_
          refine WL.skip rfl rfl rfl rfl rfl ?_
          refine WL.skip rfl rfl rfl rfl rfl ?_
          refine WL.skip rfl rfl rfl rfl rfl ?_
          refine WL.skip rfl rfl rfl rfl rfl ?_
          refine WL.skipU rfl rfl rfl rfl rfl ?_
          refine WL.skipU rfl rfl rfl rfl rfl ?_
          refine WL.skip rfl rfl rfl rfl rfl ?_
          refine WL.skip rfl rfl rfl rfl rfl ?_
          refine WL.skipU rfl rfl rfl rfl rfl ?_
          refine WL.skipU rfl rfl rfl rfl rfl ?_
          refine WL.skip rfl rfl rfl rfl rfl ?_
          refine WL.pure rfl rfl rfl (PV.pickT rfl rfl) ?_
          refine WL.nilS ?_
          refine CW.condT rfl ?_
          refine CW.seq ?_
          refine CW.reg ?_
          refine WL.pure rfl rfl rfl (PV.assign rfl) ?_
          refine WL.nilS ?_
          refine CW.ret ?_
          refine RQ.then ?_
          refine RQ.block ?_
          refine RQ.then ?_
          refine RQ.then ?_
          refine RQ.block ?_
          refine RQ.then ?_
          refine RQ.r1 rfl ?_
          refine ⟨?_, hB⟩
          first | rfl | (exfalso; omega) | (exfalso; simp only [ne_eq, decide_eq_decide] at *; omega) | (exfalso; rw [hok] at *; contradiction)
        try simp only [decide_eq_true_eq, decide_eq_false_iff_not, Bool.not_eq_true', Bool.not_eq_false', Bool.not_eq_eq_eq_not, Bool.not_true, Bool.not_false, Int.not_lt, Int.not_le, Classical.not_not, beq_iff_eq, beq_eq_false_iff_ne] at hc33
        refine WL.pureG rfl rfl rfl rfl rfl (PV.move rfl) ?_
        refine WL.pureG rfl rfl rfl rfl rfl (PV.lss rfl rfl) ?_
        refine WL.pure rfl rfl rfl (PV.pickF rfl rfl) ?_
        refine WL.pure rfl rfl rfl (PV.move rfl) ?_
        refine WL.split (t := 135) rfl (fun hc34 => ?_) (fun hc34 => ?_)
        · skip
          try simp only [decide_eq_true_eq, decide_eq_false_iff_not, Bool.not_eq_true', Bool.not_eq_false', Bool.not_eq_eq_eq_not, Bool.not_true, Bool.not_false, Int.not_lt, Int.not_le, Classical.not_not, beq_iff_eq, beq_eq_false_iff_ne] at hc34
          refine WL.skip rfl rfl rfl rfl rfl ?_
          refine WL.skip rfl rfl rfl rfl rfl ?_
          refine WL.skip rfl rfl rfl rfl rfl ?_
          refine WL.skip rfl rfl rfl rfl rfl ?_
          refine WL.skip rfl rfl rfl rfl rfl ?_
          refine WL.skip rfl rfl rfl rfl rfl ?_
          refine WL.skipU rfl rfl rfl rfl rfl ?_
          refine WL.skipU rfl rfl rfl rfl rfl ?_
          refine WL.skip rfl rfl rfl rfl rfl ?_
          refine WL.skip rfl rfl rfl rfl rfl ?_
          refine WL.skipU rfl rfl rfl rfl rfl ?_
          refine WL.skipU rfl rfl rfl rfl rfl ?_
          refine WL.skip rfl rfl rfl rfl rfl ?_
          refine WL.pure rfl rfl rfl (PV.pickT rfl rfl) ?_
          refine WL.nilS ?_
          refine CW.condT rfl ?_
          refine CW.seq ?_
          refine CW.reg ?_
          refine WL.pure rfl rfl rfl (PV.assign rfl) ?_
          refine WL.nilS ?_
          refine CW.ret ?_
          refine RQ.then ?_
          refine RQ.block ?_
          refine RQ.then ?_
          refine RQ.then ?_
          refine RQ.block ?_
          refine RQ.then ?_
          refine RQ.r1 rfl ?_
          refine ⟨?_, hB⟩
          first | rfl | (exfalso; omega) | (exfalso; simp only [ne_eq, decide_eq_decide] at *; omega) | (exfalso; rw [hok] at *; contradiction)
        try simp only [decide_eq_true_eq, decide_eq_false_iff_not, Bool.not_eq_true', Bool.not_eq_false', Bool.not_eq_eq_eq_not, Bool.not_true, Bool.not_false, Int.not_lt, Int.not_le, Classical.not_not, beq_iff_eq, beq_eq_false_iff_ne] at hc34
        refine WL.pureG rfl rfl rfl rfl rfl (PV.move rfl) ?_
        refine WL.pureG rfl rfl rfl rfl rfl (PV.move rfl) ?_
        first
          | refine WL.atO (x := .tmp 136) (y := .tmp 137) (f := VI) (0) rfl rfl ho4 (by first | omega | (simp; omega) | (simp_all; omega)) (fun p14 hpp14 hcp14 => ?_)
          | refine WL.atOZ (x := .tmp 136) (y := .tmp 137) (f := VI) (0) rfl rfl ho4 (by first | omega | (simp; omega) | (simp_all; omega)) (fun p14 hpp14 hzp14 hcp14 => ?_)
        refine WL.pureG rfl rfl rfl rfl rfl ((by first | exact PV.indexAddr hpp14 rfl rfl T.sl22 | exact PV.indexAddr hpp14 rfl (by rw [← hzp14]; rfl) T.sl22)) ?_
        refine WL.pureG rfl rfl rfl rfl rfl ((by first | exact PV.load0 T.na2 rfl (by first | exact Cells.up (by assumption) hB | exact Bx.cells (by assumption) | assumption) (Ext.refl _) rfl | exact PV.load1 T.na2 rfl (by first | exact Cells.up (by assumption) hB | exact Bx.cells (by assumption) | assumption) (Ext.refl _) rfl)) ?_
        refine WL.pureG rfl rfl rfl rfl rfl (PV.eql rfl rfl) ?_
        refine WL.pureG rfl rfl rfl rfl rfl (PV.move rfl) ?_
        refine WL.split (t := 141) rfl (fun hc35 => ?_) (fun hc35 => ?_)
        rotate_left
        · skip
          try simp only [decide_eq_true_eq, decide_eq_false_iff_not, Bool.not_eq_true', Bool.not_eq_false', Bool.not_eq_eq_eq_not, Bool.not_true, Bool.not_false, Int.not_lt, Int.not_le, Classical.not_not, beq_iff_eq, beq_eq_false_iff_ne] at hc35
          refine WL.skip rfl rfl rfl rfl rfl ?_
          refine WL.skip rfl rfl rfl rfl rfl ?_
          refine WL.pureG rfl rfl rfl rfl rfl (PV.pickF rfl rfl) ?_
          refine WL.pureG rfl rfl rfl rfl rfl (PV.move rfl) ?_
          refine WL.skip rfl rfl rfl rfl rfl ?_
          refine WL.skip rfl rfl rfl rfl rfl ?_
          refine WL.pureG rfl rfl rfl rfl rfl (PV.pickF rfl rfl) ?_
          refine WL.pure rfl rfl rfl (PV.pickF rfl rfl) ?_
          refine WL.nilS ?_
          refine CW.condF rfl ?_
          refine CW.skipS ?_
          refine CW.reg ?_
          refine WL.pure rfl rfl rfl (PV.move rfl) ?_
          refine WL.pure rfl rfl rfl (PV.assign rfl) ?_
          refine WL.nil ?_
          refine NQ.block ?_
          refine NQ.then ?_
          refine CW.reg ?_
          refine WL.pure rfl rfl rfl (PV.add rfl rfl (by constructor <;> omega)) ?_
          refine WL.pure rfl rfl rfl (PV.move rfl) ?_
          refine WL.nil ?_
          refine NQ.next (ρ := [(12, _), (57, _)]) ⟨rfl, rfl, rfl, rfl, rfl, rfl, rfl, trivial⟩ ?_
          exact ⟨_, ⟨k + 1, _, rfl, rfl, hU0, (by first | omega | assumption | (simp_all; done) | (simp_all; omega)), (by omega)⟩, by omega⟩
        try simp only [decide_eq_true_eq, decide_eq_false_iff_not, Bool.not_eq_true', Bool.not_eq_false', Bool.not_eq_eq_eq_not, Bool.not_true, Bool.not_false, Int.not_lt, Int.not_le, Classical.not_not, beq_iff_eq, beq_eq_false_iff_ne] at hc35
        refine WL.pureG rfl rfl rfl rfl rfl (PV.move rfl) ?_
        refine WL.pureG rfl rfl rfl rfl rfl (PV.eql rfl rfl) ?_
        refine WL.pureG rfl rfl rfl rfl rfl (PV.pickT rfl rfl) ?_
        refine WL.pureG rfl rfl rfl rfl rfl (PV.move rfl) ?_
        refine WL.split (t := 145) rfl (fun hc36 => ?_) (fun hc36 => ?_)
        rotate_left
        · skip
          try simp only [decide_eq_true_eq, decide_eq_false_iff_not, Bool.not_eq_true', Bool.not_eq_false', Bool.not_eq_eq_eq_not, Bool.not_true, Bool.not_false, Int.not_lt, Int.not_le, Classical.not_not, beq_iff_eq, beq_eq_false_iff_ne] at hc36
          refine WL.skip rfl rfl rfl rfl rfl ?_
          refine WL.skip rfl rfl rfl rfl rfl ?_
          refine WL.pureG rfl rfl rfl rfl rfl (PV.pickF rfl rfl) ?_
          refine WL.pure rfl rfl rfl (PV.pickF rfl rfl) ?_
          refine WL.nilS ?_
          refine CW.condF rfl ?_
          refine CW.skipS ?_
          refine CW.reg ?_
          refine WL.pure rfl rfl rfl (PV.move rfl) ?_
          refine WL.pure rfl rfl rfl (PV.assign rfl) ?_
          refine WL.nil ?_
          refine NQ.block ?_
          refine NQ.then ?_
          refine CW.reg ?_
          refine WL.pure rfl rfl rfl (PV.add rfl rfl (by constructor <;> omega)) ?_
          refine WL.pure rfl rfl rfl (PV.move rfl) ?_
          refine WL.nil ?_
          refine NQ.next (ρ := [(12, _), (57, _)]) ⟨rfl, rfl, rfl, rfl, rfl, rfl, rfl, trivial⟩ ?_
          exact ⟨_, ⟨k + 1, _, rfl, rfl, hU0, (by first | omega | assumption | (simp_all; done) | (simp_all; omega)), (by omega)⟩, by omega⟩
        try simp only [decide_eq_true_eq, decide_eq_false_iff_not, Bool.not_eq_true', Bool.not_eq_false', Bool.not_eq_eq_eq_not, Bool.not_true, Bool.not_false, Int.not_lt, Int.not_le, Classical.not_not, beq_iff_eq, beq_eq_false_iff_ne] at hc36
        refine WL.pureG rfl rfl rfl rfl rfl (PV.move rfl) ?_
        refine WL.pureG rfl rfl rfl rfl rfl (PV.neq rfl rfl) ?_
        refine WL.pureG rfl rfl rfl rfl rfl (PV.pickT rfl rfl) ?_
        refine WL.pure rfl rfl rfl (PV.pickF rfl rfl) ?_
        refine WL.nilS ?_
        refine CW.cond rfl (fun hc37 => ?_) (fun hc37 => ?_)
        · skip
          try simp only [decide_eq_true_eq, decide_eq_false_iff_not, Bool.not_eq_true', Bool.not_eq_false', Bool.not_eq_eq_eq_not, Bool.not_true, Bool.not_false, Int.not_lt, Int.not_le, Classical.not_not, beq_iff_eq, beq_eq_false_iff_ne] at hc37
          refine CW.seq ?_
          refine CW.reg ?_
          refine WL.pure rfl rfl rfl (PV.assign rfl) ?_
          refine WL.nilS ?_
          refine CW.ret ?_
          refine RQ.then ?_
          refine RQ.block ?_
          refine RQ.then ?_
          refine RQ.then ?_
          refine RQ.block ?_
          refine RQ.then ?_
          refine RQ.r1 rfl ?_
          refine ⟨?_, hB⟩
          first | rfl | (exfalso; omega) | (exfalso; simp only [ne_eq, decide_eq_decide] at *; omega) | (exfalso; rw [hok] at *; contradiction)
        try simp only [decide_eq_true_eq, decide_eq_false_iff_not, Bool.not_eq_true', Bool.not_eq_false', Bool.not_eq_eq_eq_not, Bool.not_true, Bool.not_false, Int.not_lt, Int.not_le, Classical.not_not, beq_iff_eq, beq_eq_false_iff_ne] at hc37
        refine CW.skipS ?_
        refine CW.reg ?_
        refine WL.pure rfl rfl rfl (PV.move rfl) ?_
        refine WL.pure rfl rfl rfl (PV.assign rfl) ?_
        refine WL.nil ?_
        refine NQ.block ?_
        refine NQ.then ?_
        refine CW.reg ?_
        refine WL.pure rfl rfl rfl (PV.add rfl rfl (by constructor <;> omega)) ?_
        refine WL.pure rfl rfl rfl (PV.move rfl) ?_
        refine WL.nil ?_
        refine NQ.next (ρ := [(12, _), (57, _)]) ⟨rfl, rfl, rfl, rfl, rfl, rfl, rfl, trivial⟩ ?_
        exact ⟨_, ⟨k + 1, _, rfl, rfl, hU0, (by first | omega | assumption | (simp_all; done) | (simp_all; omega)), (by omega)⟩, by omega⟩
      try simp only [decide_eq_true_eq, decide_eq_false_iff_not, Bool.not_eq_true', Bool.not_eq_false', Bool.not_eq_eq_eq_not, Bool.not_true, Bool.not_false, Int.not_lt, Int.not_le, Classical.not_not, beq_iff_eq, beq_eq_false_iff_ne] at hc32
      refine CW.skipS ?_
      refine CW.seq ?_
      refine CW.seq ?_
      refine CW.reg ?_
      refine WL.pure rfl rfl rfl (PV.move rfl) ?_
      refine WL.pure rfl rfl rfl (PV.move rfl) ?_
      first
        | refine WL.atO (x := .tmp 125) (y := .tmp 126) (f := VI) (0) rfl rfl ho7 (by first | omega | (simp; omega) | (simp_all; omega)) (fun p15 hpp15 hcp15 => ?_)
        | refine WL.atOZ (x := .tmp 125) (y := .tmp 126) (f := VI) (0) rfl rfl ho7 (by first | omega | (simp; omega) | (simp_all; omega)) (fun p15 hpp15 hzp15 hcp15 => ?_)
      refine WL.pure rfl rfl rfl ((by first | exact PV.indexAddr hpp15 rfl rfl T.sl22 | exact PV.indexAddr hpp15 rfl (by rw [← hzp15]; rfl) T.sl22)) ?_
      refine WL.pure rfl rfl rfl ((by first | exact PV.load0 T.na2 rfl (by first | exact Cells.up (by assumption) hB | exact Bx.cells (by assumption) | assumption) (Ext.refl _) rfl | exact PV.load1 T.na2 rfl (by first | exact Cells.up (by assumption) hB | exact Bx.cells (by assumption) | assumption) (Ext.refl _) rfl)) ?_
      refine WL.pure rfl rfl rfl (PV.move rfl) ?_
      refine WL.pure rfl rfl rfl (PV.neq rfl rfl) ?_
      refine WL.pure rfl rfl rfl (PV.move rfl) ?_
      refine WL.split (t := 131) rfl (fun hc38 => ?_) (fun hc38 => ?_)
      · skip
        try simp only [decide_eq_true_eq, decide_eq_false_iff_not, Bool.not_eq_true', Bool.not_eq_false', Bool.not_eq_eq_eq_not, Bool.not_true, Bool.not_false, Int.not_lt, Int.not_le, Classical.not_not, beq_iff_eq, beq_eq_false_iff_ne] at hc38
        refine WL.skip rfl rfl rfl rfl rfl ?_
        refine WL.skip rfl rfl rfl rfl rfl ?_
        refine WL.pure rfl rfl rfl (PV.pickT rfl rfl) ?_
        refine WL.pure rfl rfl rfl (PV.move rfl) ?_
        refine WL.skip rfl rfl rfl rfl rfl ?_
        refine WL.skip rfl rfl rfl rfl rfl ?_
        refine WL.skip rfl rfl rfl rfl rfl ?_
        refine WL.skip rfl rfl rfl rfl rfl ?_
        refine WL.skip rfl rfl rfl rfl rfl ?_
        refine WL.skip rfl rfl rfl rfl rfl ?_
        refine WL.skipU rfl rfl rfl rfl rfl ?_
        refine WL.skipU rfl rfl rfl rfl rfl ?_
        refine WL.skip rfl rfl rfl rfl rfl ?_
        refine WL.skip rfl rfl rfl rfl rfl ?_
        refine WL.skipU rfl rfl rfl rfl rfl ?_
        refine WL.skipU rfl rfl rfl rfl rfl ?_
        refine WL.skip rfl rfl rfl rfl rfl ?_
        refine WL.pure rfl rfl rfl (PV.pickT rfl rfl) ?_
        refine WL.nilS ?_
        refine CW.condT rfl ?_
        refine CW.seq ?_
        refine CW.reg ?_
        refine WL.pure rfl rfl rfl (PV.assign rfl) ?_
        refine WL.nilS ?_
        refine CW.ret ?_
        refine RQ.then ?_
        refine RQ.block ?_
        refine RQ.then ?_
        refine RQ.then ?_
        refine RQ.block ?_
        refine RQ.then ?_
        refine RQ.r1 rfl ?_
        refine ⟨?_, hB⟩
        first | rfl | (exfalso; omega) | (exfalso; simp only [ne_eq, decide_eq_decide] at *; omega) | (exfalso; rw [hok] at *; contradiction)
      try simp only [decide_eq_true_eq, decide_eq_false_iff_not, Bool.not_eq_true', Bool.not_eq_false', Bool.not_eq_eq_eq_not, Bool.not_true, Bool.not_false, Int.not_lt, Int.not_le, Classical.not_not, beq_iff_eq, beq_eq_false_iff_ne] at hc38
      refine WL.pureG rfl rfl rfl rfl rfl (PV.move rfl) ?_
      refine WL.pureG rfl rfl rfl rfl rfl (PV.lss rfl rfl) ?_
      refine WL.pure rfl rfl rfl (PV.pickF rfl rfl) ?_
      refine WL.pure rfl rfl rfl (PV.move rfl) ?_
      refine WL.split (t := 135) rfl (fun hc39 => ?_) (fun hc39 => ?_)
      · skip
        try simp only [decide_eq_true_eq, decide_eq_false_iff_not, Bool.not_eq_true', Bool.not_eq_false', Bool.not_eq_eq_eq_not, Bool.not_true, Bool.not_false, Int.not_lt, Int.not_le, Classical.not_not, beq_iff_eq, beq_eq_false_iff_ne] at hc39
        refine WL.skip rfl rfl rfl rfl rfl ?_
        refine WL.skip rfl rfl rfl rfl rfl ?_
        refine WL.skip rfl rfl rfl rfl rfl ?_
        refine WL.skip rfl rfl rfl rfl rfl ?_
        refine WL.skip rfl rfl rfl rfl rfl ?_
        refine WL.skip rfl rfl rfl rfl rfl ?_
        refine WL.skipU rfl rfl rfl rfl rfl ?_
        refine WL.skipU rfl rfl rfl rfl rfl ?_
        refine WL.skip rfl rfl rfl rfl rfl ?_
        refine WL.skip rfl rfl rfl rfl rfl ?_
        refine WL.skipU rfl rfl rfl rfl rfl ?_
        refine WL.skipU rfl rfl rfl rfl rfl ?_
        refine WL.skip rfl rfl rfl rfl rfl ?_
        refine WL.pure rfl rfl rfl (PV.pickT rfl rfl) ?_
        refine WL.nilS ?_
        refine CW.condT rfl ?_
        refine CW.seq ?_
        refine CW.reg ?_
        refine WL.pure rfl rfl rfl (PV.assign rfl) ?_
        refine WL.nilS ?_
        refine CW.ret ?_
        refine RQ.then ?_
        refine RQ.block ?_
        refine RQ.then ?_
        refine RQ.then ?_
        refine RQ.block ?_
        refine RQ.then ?_
        refine RQ.r1 rfl ?_
        refine ⟨?_, hB⟩
        first | rfl | (exfalso; omega) | (exfalso; simp only [ne_eq, decide_eq_decide] at *; omega) | (exfalso; rw [hok] at *; contradiction)
      try simp only [decide_eq_true_eq, decide_eq_false_iff_not, Bool.not_eq_true', Bool.not_eq_false', Bool.not_eq_eq_eq_not, Bool.not_true, Bool.not_false, Int.not_lt, Int.not_le, Classical.not_not, beq_iff_eq, beq_eq_false_iff_ne] at hc39
      refine WL.pureG rfl rfl rfl rfl rfl (PV.move rfl) ?_
      refine WL.pureG rfl rfl rfl rfl rfl (PV.move rfl) ?_
      first
        | refine WL.atO (x := .tmp 136) (y := .tmp 137) (f := VI) (0) rfl rfl ho4 (by first | omega | (simp; omega) | (simp_all; omega)) (fun p16 hpp16 hcp16 => ?_)
        | refine WL.atOZ (x := .tmp 136) (y := .tmp 137) (f := VI) (0) rfl rfl ho4 (by first | omega | (simp; omega) | (simp_all; omega)) (fun p16 hpp16 hzp16 hcp16 => ?_)
      refine WL.pureG rfl rfl rfl rfl rfl ((by first | exact PV.indexAddr hpp16 rfl rfl T.sl22 | exact PV.indexAddr hpp16 rfl (by rw [← hzp16]; rfl) T.sl22)) ?_
      refine WL.pureG rfl rfl rfl rfl rfl ((by first | exact PV.load0 T.na2 rfl (by first | exact Cells.up (by assumption) hB | exact Bx.cells (by assumption) | assumption) (Ext.refl _) rfl | exact PV.load1 T.na2 rfl (by first | exact Cells.up (by assumption) hB | exact Bx.cells (by assumption) | assumption) (Ext.refl _) rfl)) ?_
      refine WL.pureG rfl rfl rfl rfl rfl (PV.eql rfl rfl) ?_
      refine WL.pureG rfl rfl rfl rfl rfl (PV.move rfl) ?_
      refine WL.split (t := 141) rfl (fun hc40 => ?_) (fun hc40 => ?_)
      rotate_left
      · skip
        try simp only [decide_eq_true_eq, decide_eq_false_iff_not, Bool.not_eq_true', Bool.not_eq_false', Bool.not_eq_eq_eq_not, Bool.not_true, Bool.not_false, Int.not_lt, Int.not_le, Classical.not_not, beq_iff_eq, beq_eq_false_iff_ne] at hc40
        refine WL.skip rfl rfl rfl rfl rfl ?_
        refine WL.skip rfl rfl rfl rfl rfl ?_
        refine WL.pureG rfl rfl rfl rfl rfl (PV.pickF rfl rfl) ?_
        refine WL.pureG rfl rfl rfl rfl rfl (PV.move rfl) ?_
        refine WL.skip rfl rfl rfl rfl rfl ?_
        refine WL.skip rfl rfl rfl rfl rfl ?_
        refine WL.pureG rfl rfl rfl rfl rfl (PV.pickF rfl rfl) ?_
        refine WL.pure rfl rfl rfl (PV.pickF rfl rfl) ?_
        refine WL.nilS ?_
        refine CW.condF rfl ?_
        refine CW.skipS ?_
        refine CW.reg ?_
        refine WL.pure rfl rfl rfl (PV.move rfl) ?_
        refine WL.pure rfl rfl rfl (PV.assign rfl) ?_
        refine WL.nil ?_
        refine NQ.block ?_
        refine NQ.then ?_
        refine CW.reg ?_
        refine WL.pure rfl rfl rfl (PV.add rfl rfl (by constructor <;> omega)) ?_
        refine WL.pure rfl rfl rfl (PV.move rfl) ?_
        refine WL.nil ?_
        refine NQ.next (ρ := [(12, _), (57, _)]) ⟨rfl, rfl, rfl, rfl, rfl, rfl, rfl, trivial⟩ ?_
        exact ⟨_, ⟨k + 1, _, rfl, rfl, hU0, (by first | omega | assumption | (simp_all; done) | (simp_all; omega)), (by omega)⟩, by omega⟩
      try simp only [decide_eq_true_eq, decide_eq_false_iff_not, Bool.not_eq_true', Bool.not_eq_false', Bool.not_eq_eq_eq_not, Bool.not_true, Bool.not_false, Int.not_lt, Int.not_le, Classical.not_not, beq_iff_eq, beq_eq_false_iff_ne] at hc40
      refine WL.pureG rfl rfl rfl rfl rfl (PV.move rfl) ?_
      refine WL.pureG rfl rfl rfl rfl rfl (PV.eql rfl rfl) ?_
      refine WL.pureG rfl rfl rfl rfl rfl (PV.pickT rfl rfl) ?_
      refine WL.pureG rfl rfl rfl rfl rfl (PV.move rfl) ?_
      refine WL.split (t := 145) rfl (fun hc41 => ?_) (fun hc41 => ?_)
      rotate_left
      · skip
        try simp only [decide_eq_true_eq, decide_eq_false_iff_not, Bool.not_eq_true', Bool.not_eq_false', Bool.not_eq_eq_eq_not, Bool.not_true, Bool.not_false, Int.not_lt, Int.not_le, Classical.not_not, beq_iff_eq, beq_eq_false_iff_ne] at hc41
        refine WL.skip rfl rfl rfl rfl rfl ?_
        refine WL.skip rfl rfl rfl rfl rfl ?_
        refine WL.pureG rfl rfl rfl rfl rfl (PV.pickF rfl rfl) ?_
        refine WL.pure rfl rfl rfl (PV.pickF rfl rfl) ?_
        refine WL.nilS ?_
        refine CW.condF rfl ?_
        refine CW.skipS ?_
        refine CW.reg ?_
        refine WL.pure rfl rfl rfl (PV.move rfl) ?_
        refine WL.pure rfl rfl rfl (PV.assign rfl) ?_
        refine WL.nil ?_
        refine NQ.block ?_
        refine NQ.then ?_
        refine CW.reg ?_
        refine WL.pure rfl rfl rfl (PV.add rfl rfl (by constructor <;> omega)) ?_
        refine WL.pure rfl rfl rfl (PV.move rfl) ?_
        refine WL.nil ?_
        refine NQ.next (ρ := [(12, _), (57, _)]) ⟨rfl, rfl, rfl, rfl, rfl, rfl, rfl, trivial⟩ ?_
        exact ⟨_, ⟨k + 1, _, rfl, rfl, hU0, (by first | omega | assumption | (simp_all; done) | (simp_all; omega)), (by omega)⟩, by omega⟩
      try simp only [decide_eq_true_eq, decide_eq_false_iff_not, Bool.not_eq_true', Bool.not_eq_false', Bool.not_eq_eq_eq_not, Bool.not_true, Bool.not_false, Int.not_lt, Int.not_le, Classical.not_not, beq_iff_eq, beq_eq_false_iff_ne] at hc41
      refine WL.pureG rfl rfl rfl rfl rfl (PV.move rfl) ?_
      refine WL.pureG rfl rfl rfl rfl rfl (PV.neq rfl rfl) ?_
      refine WL.pureG rfl rfl rfl rfl rfl (PV.pickT rfl rfl) ?_
      refine WL.pure rfl rfl rfl (PV.pickF rfl rfl) ?_
      refine WL.nilS ?_
      refine CW.cond rfl (fun hc42 => ?_) (fun hc42 => ?_)
      · skip
        try simp only [decide_eq_true_eq, decide_eq_false_iff_not, Bool.not_eq_true', Bool.not_eq_false', Bool.not_eq_eq_eq_not, Bool.not_true, Bool.not_false, Int.not_lt, Int.not_le, Classical.not_not, beq_iff_eq, beq_eq_false_iff_ne] at hc42
        refine CW.seq ?_
        refine CW.reg ?_
        refine WL.pure rfl rfl rfl (PV.assign rfl) ?_
        refine WL.nilS ?_
        refine CW.ret ?_
        refine RQ.then ?_
        refine RQ.block ?_
        refine RQ.then ?_
        refine RQ.then ?_
        refine RQ.block ?_
        refine RQ.then ?_
        refine RQ.r1 rfl ?_
        refine ⟨?_, hB⟩
        first | rfl | (exfalso; omega) | (exfalso; simp only [ne_eq, decide_eq_decide] at *; omega) | (exfalso; rw [hok] at *; contradiction)
      try simp only [decide_eq_true_eq, decide_eq_false_iff_not, Bool.not_eq_true', Bool.not_eq_false', Bool.not_eq_eq_eq_not, Bool.not_true, Bool.not_false, Int.not_lt, Int.not_le, Classical.not_not, beq_iff_eq, beq_eq_false_iff_ne] at hc42
      refine CW.skipS ?_
      refine CW.reg ?_
      refine WL.pure rfl rfl rfl (PV.move rfl) ?_
      refine WL.pure rfl rfl rfl (PV.assign rfl) ?_
      refine WL.nil ?_
      refine NQ.block ?_
      refine NQ.then ?_
      refine CW.reg ?_
      refine WL.pure rfl rfl rfl (PV.add rfl rfl (by constructor <;> omega)) ?_
      refine WL.pure rfl rfl rfl (PV.move rfl) ?_
      refine WL.nil ?_
      refine NQ.next (ρ := [(12, _), (57, _)]) ⟨rfl, rfl, rfl, rfl, rfl, rfl, rfl, trivial⟩ ?_
      exact ⟨_, ⟨k + 1, _, rfl, rfl, hU0, (by first | omega | assumption | (simp_all; done) | (simp_all; omega)), (by omega)⟩, by omega⟩
    try simp only [decide_eq_true_eq, decide_eq_false_iff_not, Bool.not_eq_true', Bool.not_eq_false', Bool.not_eq_eq_eq_not, Bool.not_true, Bool.not_false, Int.not_lt, Int.not_le, Classical.not_not, beq_iff_eq, beq_eq_false_iff_ne] at hc7
    refine HP.takeG rfl rfl rfl rfl rfl rfl hS (fun wS hS1 => PV.move rfl) ?_
    refine HP.takeG rfl rfl rfl rfl rfl rfl hS (fun wS hS1 => PV.lss rfl rfl) ?_
    refine HP.takeG rfl rfl rfl rfl rfl rfl hS (fun wS hS1 => PV.move rfl) ?_
    refine HP.split (t := 69) rfl (fun hc43 => ?_) (fun hc43 => ?_)
    · skip
      try simp only [decide_eq_true_eq, decide_eq_false_iff_not, Bool.not_eq_true', Bool.not_eq_false', Bool.not_eq_eq_eq_not, Bool.not_true, Bool.not_false, Int.not_lt, Int.not_le, Classical.not_not, beq_iff_eq, beq_eq_false_iff_ne] at hc43
      refine HP.skip rfl rfl rfl rfl rfl rfl hS ?_
      refine HP.skip rfl rfl rfl rfl rfl rfl hS ?_
      refine HP.skip rfl rfl rfl rfl rfl rfl hS ?_
      refine HP.takeG rfl rfl rfl rfl rfl rfl hS (fun wS hS1 => PV.pickT rfl rfl) ?_
      refine HP.takeG rfl rfl rfl rfl rfl rfl hS (fun wS hS1 => PV.move rfl) ?_
      refine HP.skip rfl rfl rfl rfl rfl rfl hS ?_
      refine HP.skip rfl rfl rfl rfl rfl rfl hS ?_
      refine HP.skip rfl rfl rfl rfl rfl rfl hS ?_
      refine HP.skip rfl rfl rfl rfl rfl rfl hS ?_
      refine HP.skip rfl rfl rfl rfl rfl rfl hS ?_
      refine HP.skip rfl rfl rfl rfl rfl rfl hS ?_
      refine HP.takeG rfl rfl rfl rfl rfl rfl hS (fun wS hS1 => PV.pickT rfl rfl) ?_
      refine HP.takeG rfl rfl rfl rfl rfl rfl hS (fun wS hS1 => PV.move rfl) ?_
      refine HP.skip rfl rfl rfl rfl rfl rfl hS ?_
      refine HP.skip rfl rfl rfl rfl rfl rfl hS ?_
      refine HP.skip rfl rfl rfl rfl rfl rfl hS ?_
      refine HP.skip rfl rfl rfl rfl rfl rfl hS ?_
      refine HP.skip rfl rfl rfl rfl rfl rfl hS ?_
      refine HP.skip rfl rfl rfl rfl rfl rfl hS ?_
      refine HP.skip rfl rfl rfl rfl rfl rfl hS ?_
      refine HP.skip rfl rfl rfl rfl rfl rfl hS ?_
      refine HP.skip rfl rfl rfl rfl rfl rfl hS ?_
      refine HP.skip rfl rfl rfl rfl rfl rfl hS ?_
      refine HP.takeG rfl rfl rfl rfl rfl rfl hS (fun wS hS1 => PV.pickT rfl rfl) ?_
      refine HP.takeG rfl rfl rfl rfl rfl rfl hS (fun wS hS1 => PV.move rfl) ?_
      refine HP.skip rfl rfl rfl rfl rfl rfl hS ?_
      refine HP.skip rfl rfl rfl rfl rfl rfl hS ?_
      refine HP.skip rfl rfl rfl rfl rfl rfl hS ?_
      refine HP.skip rfl rfl rfl rfl rfl rfl hS ?_
      refine HP.skip rfl rfl rfl rfl rfl rfl hS ?_
      refine HP.skip rfl rfl rfl rfl rfl rfl hS ?_
      refine HP.skip rfl rfl rfl rfl rfl rfl hS ?_
      refine HP.skip rfl rfl rfl rfl rfl rfl hS ?_
      refine HP.skip rfl rfl rfl rfl rfl rfl hS ?_
      refine HP.takeG rfl rfl rfl rfl rfl rfl hS (fun wS hS1 => PV.pickT rfl rfl) ?_
      refine HP.take rfl rfl rfl rfl hS (fun wS hS1 => PV.pickT rfl rfl) ?_
      refine HP.doneS ?_
      refine CW.condT rfl ?_
      refine CW.seq ?_
      refine CW.reg ?_
      refine WL.pure rfl rfl rfl (PV.assign rfl) ?_
      refine WL.nilS ?_
      refine CW.ret ?_
      refine RQ.then ?_
      refine RQ.block ?_
      refine RQ.then ?_
      refine RQ.then ?_
      refine RQ.block ?_
      refine RQ.then ?_
      refine RQ.r1 rfl ?_
      refine ⟨?_, hB⟩
      first | rfl | (exfalso; omega) | (exfalso; simp only [ne_eq, decide_eq_decide] at *; omega) | (exfalso; rw [hok] at *; contradiction)
    try simp only [decide_eq_true_eq, decide_eq_false_iff_not, Bool.not_eq_true', Bool.not_eq_false', Bool.not_eq_eq_eq_not, Bool.not_true, Bool.not_false, Int.not_lt, Int.not_le, Classical.not_not, beq_iff_eq, beq_eq_false_iff_ne] at hc43
    refine HP.takeG rfl rfl rfl rfl rfl rfl hS (fun wS hS1 => PV.move rfl) ?_
    refine HP.takeG rfl rfl rfl rfl rfl rfl hS (fun wS hS1 => PV.move rfl) ?_
    refine HP.takeG rfl rfl rfl rfl rfl rfl hS (fun wS hS1 => PV.geq rfl rfl) ?_
    refine HP.takeG rfl rfl rfl rfl rfl rfl hS (fun wS hS1 => PV.pickF rfl rfl) ?_
    refine HP.takeG rfl rfl rfl rfl rfl rfl hS (fun wS hS1 => PV.move rfl) ?_
    refine HP.split (t := 74) rfl (fun hc44 => ?_) (fun hc44 => ?_)
    · skip
      try simp only [decide_eq_true_eq, decide_eq_false_iff_not, Bool.not_eq_true', Bool.not_eq_false', Bool.not_eq_eq_eq_not, Bool.not_true, Bool.not_false, Int.not_lt, Int.not_le, Classical.not_not, beq_iff_eq, beq_eq_false_iff_ne] at hc44
      refine HP.skip rfl rfl rfl rfl rfl rfl hS ?_
      refine HP.skip rfl rfl rfl rfl rfl rfl hS ?_
      refine HP.skip rfl rfl rfl rfl rfl rfl hS ?_
      refine HP.skip rfl rfl rfl rfl rfl rfl hS ?_
      refine HP.skip rfl rfl rfl rfl rfl rfl hS ?_
      refine HP.skip rfl rfl rfl rfl rfl rfl hS ?_
      refine HP.takeG rfl rfl rfl rfl rfl rfl hS (fun wS hS1 => PV.pickT rfl rfl) ?_
      refine HP.takeG rfl rfl rfl rfl rfl rfl hS (fun wS hS1 => PV.move rfl) ?_
      refine HP.skip rfl rfl rfl rfl rfl rfl hS ?_
      refine HP.skip rfl rfl rfl rfl rfl rfl hS ?_
      refine HP.skip rfl rfl rfl rfl rfl rfl hS ?_
      refine HP.skip rfl rfl rfl rfl rfl rfl hS ?_
      refine HP.skip rfl rfl rfl rfl rfl rfl hS ?_
      refine HP.skip rfl rfl rfl rfl rfl rfl hS ?_
      refine HP.skip rfl rfl rfl rfl rfl rfl hS ?_
      refine HP.skip rfl rfl rfl rfl rfl rfl hS ?_
      refine HP.skip rfl rfl rfl rfl rfl rfl hS ?_
      refine HP.skip rfl rfl rfl rfl rfl rfl hS ?_
      refine HP.takeG rfl rfl rfl rfl rfl rfl hS (fun wS hS1 => PV.pickT rfl rfl) ?_
      refine HP.takeG rfl rfl rfl rfl rfl rfl hS (fun wS hS1 => PV.move rfl) ?_
      refine HP.skip rfl rfl rfl rfl rfl rfl hS ?_
      refine HP.skip rfl rfl rfl rfl rfl rfl hS ?_
      refine HP.skip rfl rfl rfl rfl rfl rfl hS ?_
      refine HP.skip rfl rfl rfl rfl rfl rfl hS ?_
      refine HP.skip rfl rfl rfl rfl rfl rfl hS ?_
      refine HP.skip rfl rfl rfl rfl rfl rfl hS ?_
      refine HP.skip rfl rfl rfl rfl rfl rfl hS ?_
      refine HP.skip rfl rfl rfl rfl rfl rfl hS ?_
      refine HP.skip rfl rfl rfl rfl rfl rfl hS ?_
      refine HP.takeG rfl rfl rfl rfl rfl rfl hS (fun wS hS1 => PV.pickT rfl rfl) ?_
      refine HP.take rfl rfl rfl rfl hS (fun wS hS1 => PV.pickT rfl rfl) ?_
      refine HP.doneS ?_
      refine CW.condT rfl ?_
      refine CW.seq ?_
      refine CW.reg ?_
      refine WL.pure rfl rfl rfl (PV.assign rfl) ?_
      refine WL.nilS ?_
      refine CW.ret ?_
      refine RQ.then ?_
      refine RQ.block ?_
      refine RQ.then ?_
      refine RQ.then ?_
      refine RQ.block ?_
      refine RQ.then ?_
      refine RQ.r1 rfl ?_
      refine ⟨?_, hB⟩
      first | rfl | (exfalso; omega) | (exfalso; simp only [ne_eq, decide_eq_decide] at *; omega) | (exfalso; rw [hok] at *; contradiction)
    try simp only [decide_eq_true_eq, decide_eq_false_iff_not, Bool.not_eq_true', Bool.not_eq_false', Bool.not_eq_eq_eq_not, Bool.not_true, Bool.not_false, Int.not_lt, Int.not_le, Classical.not_not, beq_iff_eq, beq_eq_false_iff_ne] at hc44
    refine HP.takeG rfl rfl rfl rfl rfl rfl hS (fun wS hS1 => PV.move rfl) ?_
    refine HP.takeG rfl rfl rfl rfl rfl rfl hS (fun wS hS1 => PV.move rfl) ?_
    first
      | refine HP.atO (wb := w7) (x := .tmp 75) (y := .tmp 76) (f := VI) (0) rfl rfl (by assumption) (by omega) (fun p17 hpp17 hcp17 => ?_)
      | refine HP.atOZ (wb := w7) (x := .tmp 75) (y := .tmp 76) (f := VI) (0) rfl rfl (by assumption) (by omega) (fun p17 hpp17 hzp17 hcp17 => ?_)
    refine HP.takeG rfl rfl rfl rfl rfl rfl hS (fun wS hS1 => (by first | exact PV.indexAddr hpp17 rfl rfl T.sl22 | exact PV.indexAddr hpp17 rfl (by rw [← hzp17]; rfl) T.sl22)) ?_
    refine HP.takeG rfl rfl rfl rfl rfl rfl hS (fun wS hS1 => (by first | exact PV.load0 T.na2 rfl (by first | exact Cells.up (by assumption) (hBr.trans hS1) | exact Bx.cells (Bx.updD (by assumption) hS1 (Dj.nlR _)) | exact Cells.upd (by assumption) hS1 (by simp)) (Ext.refl _) rfl | exact PV.load1 T.na2 rfl (by first | exact Cells.up (by assumption) (hBr.trans hS1) | exact Bx.cells (Bx.updD (by assumption) hS1 (Dj.nlR _)) | exact Cells.upd (by assumption) hS1 (by simp)) (Ext.refl _) rfl)) ?_
    refine HP.takeG rfl rfl rfl rfl rfl rfl hS (fun wS hS1 => PV.move rfl) ?_
    refine HP.takeG rfl rfl rfl rfl rfl rfl hS (fun wS hS1 => PV.neq rfl rfl) ?_
    refine HP.takeG rfl rfl rfl rfl rfl rfl hS (fun wS hS1 => PV.pickF rfl rfl) ?_
    refine HP.takeG rfl rfl rfl rfl rfl rfl hS (fun wS hS1 => PV.move rfl) ?_
    refine HP.split (t := 82) rfl (fun hc45 => ?_) (fun hc45 => ?_)
    · skip
      try simp only [decide_eq_true_eq, decide_eq_false_iff_not, Bool.not_eq_true', Bool.not_eq_false', Bool.not_eq_eq_eq_not, Bool.not_true, Bool.not_false, Int.not_lt, Int.not_le, Classical.not_not, beq_iff_eq, beq_eq_false_iff_ne] at hc45
      refine HP.skip rfl rfl rfl rfl rfl rfl hS ?_
      refine HP.skip rfl rfl rfl rfl rfl rfl hS ?_
      refine HP.skip rfl rfl rfl rfl rfl rfl hS ?_
      refine HP.skip rfl rfl rfl rfl rfl rfl hS ?_
      refine HP.skip rfl rfl rfl rfl rfl rfl hS ?_
      refine HP.skip rfl rfl rfl rfl rfl rfl hS ?_
      refine HP.skip rfl rfl rfl rfl rfl rfl hS ?_
      refine HP.skip rfl rfl rfl rfl rfl rfl hS ?_
      refine HP.skip rfl rfl rfl rfl rfl rfl hS ?_
      refine HP.skip rfl rfl rfl rfl rfl rfl hS ?_
      refine HP.takeG rfl rfl rfl rfl rfl rfl hS (fun wS hS1 => PV.pickT rfl rfl) ?_
      refine HP.takeG rfl rfl rfl rfl rfl rfl hS (fun wS hS1 => PV.move rfl) ?_
      refine HP.skip rfl rfl rfl rfl rfl rfl hS ?_
      refine HP.skip rfl rfl rfl rfl rfl rfl hS ?_
      refine HP.skip rfl rfl rfl rfl rfl rfl hS ?_
      refine HP.skip rfl rfl rfl rfl rfl rfl hS ?_
      refine HP.skip rfl rfl rfl rfl rfl rfl hS ?_
      refine HP.skip rfl rfl rfl rfl rfl rfl hS ?_
      refine HP.skip rfl rfl rfl rfl rfl rfl hS ?_
      refine HP.skip rfl rfl rfl rfl rfl rfl hS ?_
      refine HP.skip rfl rfl rfl rfl rfl rfl hS ?_
      refine HP.takeG rfl rfl rfl rfl rfl rfl hS (fun wS hS1 => PV.pickT rfl rfl) ?_
      refine HP.take rfl rfl rfl rfl hS (fun wS hS1 => PV.pickT rfl rfl) ?_
      refine HP.doneS ?_
      refine CW.condT rfl ?_
      refine CW.seq ?_
      refine CW.reg ?_
      refine WL.pure rfl rfl rfl (PV.assign rfl) ?_
      refine WL.nilS ?_
      refine CW.ret ?_
      refine RQ.then ?_
      refine RQ.block ?_
      refine RQ.then ?_
      refine RQ.then ?_
      refine RQ.block ?_
      refine RQ.then ?_
      refine RQ.r1 rfl ?_
      refine ⟨?_, hB⟩
      first | rfl | (exfalso; omega) | (exfalso; simp only [ne_eq, decide_eq_decide] at *; omega) | (exfalso; rw [hok] at *; contradiction)
    try simp only [decide_eq_true_eq, decide_eq_false_iff_not, Bool.not_eq_true', Bool.not_eq_false', Bool.not_eq_eq_eq_not, Bool.not_true, Bool.not_false, Int.not_lt, Int.not_le, Classical.not_not, beq_iff_eq, beq_eq_false_iff_ne] at hc45
    refine HP.takeG rfl rfl rfl rfl rfl rfl hS (fun wS hS1 => PV.move rfl) ?_
    refine HP.takeG rfl rfl rfl rfl rfl rfl hS (fun wS hS1 => PV.move rfl) ?_
    first
      | refine HP.atO (wb := w7) (x := .tmp 83) (y := .tmp 84) (f := VI) (0) rfl rfl (by assumption) (by first | omega | (simp; omega) | (simp_all; omega)) (fun p18 hpp18 hcp18 => ?_)
      | refine HP.atOZ (wb := w7) (x := .tmp 83) (y := .tmp 84) (f := VI) (0) rfl rfl (by assumption) (by first | omega | (simp; omega) | (simp_all; omega)) (fun p18 hpp18 hzp18 hcp18 => ?_)
    refine HP.takeG rfl rfl rfl rfl rfl rfl hS (fun wS hS1 => (by first | exact PV.indexAddr hpp18 rfl rfl T.sl22 | exact PV.indexAddr hpp18 rfl (by rw [← hzp18]; rfl) T.sl22)) ?_
    refine HP.takeG rfl rfl rfl rfl rfl rfl hS (fun wS hS1 => (by first | exact PV.load0 T.na2 rfl (by first | exact Cells.up (by assumption) (hBr.trans hS1) | exact Bx.cells (Bx.updD (by assumption) hS1 (Dj.nlR _)) | exact Cells.upd (by assumption) hS1 (by simp)) (Ext.refl _) rfl | exact PV.load1 T.na2 rfl (by first | exact Cells.up (by assumption) (hBr.trans hS1) | exact Bx.cells (Bx.updD (by assumption) hS1 (Dj.nlR _)) | exact Cells.upd (by assumption) hS1 (by simp)) (Ext.refl _) rfl)) ?_
    refine HP.takeG rfl rfl rfl rfl rfl rfl hS (fun wS hS1 => PV.move rfl) ?_
    refine HP.takeG rfl rfl rfl rfl rfl rfl hS (fun wS hS1 => PV.move rfl) ?_
    first
      | refine HP.atO (wb := w7) (x := .tmp 87) (y := .tmp 88) (f := VI) (0) rfl rfl (by assumption) (by omega) (fun p19 hpp19 hcp19 => ?_)
      | refine HP.atOZ (wb := w7) (x := .tmp 87) (y := .tmp 88) (f := VI) (0) rfl rfl (by assumption) (by omega) (fun p19 hpp19 hzp19 hcp19 => ?_)
    refine HP.takeG rfl rfl rfl rfl rfl rfl hS (fun wS hS1 => (by first | exact PV.indexAddr hpp19 rfl rfl T.sl22 | exact PV.indexAddr hpp19 rfl (by rw [← hzp19]; rfl) T.sl22)) ?_
    refine HP.takeG rfl rfl rfl rfl rfl rfl hS (fun wS hS1 => (by first | exact PV.load0 T.na2 rfl (by first | exact Cells.up (by assumption) (hBr.trans hS1) | exact Bx.cells (Bx.updD (by assumption) hS1 (Dj.nlR _)) | exact Cells.upd (by assumption) hS1 (by simp)) (Ext.refl _) rfl | exact PV.load1 T.na2 rfl (by first | exact Cells.up (by assumption) (hBr.trans hS1) | exact Bx.cells (Bx.updD (by assumption) hS1 (Dj.nlR _)) | exact Cells.upd (by assumption) hS1 (by simp)) (Ext.refl _) rfl)) ?_
    refine HP.takeG rfl rfl rfl rfl rfl rfl hS (fun wS hS1 => PV.add rfl rfl (by constructor <;> omega)) ?_
    refine HP.takeG rfl rfl rfl rfl rfl rfl hS (fun wS hS1 => PV.neq rfl rfl) ?_
    refine HP.takeG rfl rfl rfl rfl rfl rfl hS (fun wS hS1 => PV.pickF rfl rfl) ?_
    refine HP.takeG rfl rfl rfl rfl rfl rfl hS (fun wS hS1 => PV.move rfl) ?_
    refine HP.split (t := 94) rfl (fun hc46 => ?_) (fun hc46 => ?_)
    · skip
      try simp only [decide_eq_true_eq, decide_eq_false_iff_not, Bool.not_eq_true', Bool.not_eq_false', Bool.not_eq_eq_eq_not, Bool.not_true, Bool.not_false, Int.not_lt, Int.not_le, Classical.not_not, beq_iff_eq, beq_eq_false_iff_ne] at hc46
      refine HP.skip rfl rfl rfl rfl rfl rfl hS ?_
      refine HP.skip rfl rfl rfl rfl rfl rfl hS ?_
      refine HP.skip rfl rfl rfl rfl rfl rfl hS ?_
      refine HP.skip rfl rfl rfl rfl rfl rfl hS ?_
      refine HP.skip rfl rfl rfl rfl rfl rfl hS ?_
      refine HP.skip rfl rfl rfl rfl rfl rfl hS ?_
      refine HP.skip rfl rfl rfl rfl rfl rfl hS ?_
      refine HP.skip rfl rfl rfl rfl rfl rfl hS ?_
      refine HP.skip rfl rfl rfl rfl rfl rfl hS ?_
      refine HP.takeG rfl rfl rfl rfl rfl rfl hS (fun wS hS1 => PV.pickT rfl rfl) ?_
      refine HP.take rfl rfl rfl rfl hS (fun wS hS1 => PV.pickT rfl rfl) ?_
      refine HP.doneS ?_
      refine CW.condT rfl ?_
      refine CW.seq ?_
      refine CW.reg ?_
      refine WL.pure rfl rfl rfl (PV.assign rfl) ?_
      refine WL.nilS ?_
      refine CW.ret ?_
      refine RQ.then ?_
      refine RQ.block ?_
      refine RQ.then ?_
      refine RQ.then ?_
      refine RQ.block ?_
      refine RQ.then ?_
      refine RQ.r1 rfl ?_
      refine ⟨?_, hB⟩
      first | rfl | (exfalso; omega) | (exfalso; simp only [ne_eq, decide_eq_decide] at *; omega) | (exfalso; rw [hok] at *; contradiction)
    try simp only [decide_eq_true_eq, decide_eq_false_iff_not, Bool.not_eq_true', Bool.not_eq_false', Bool.not_eq_eq_eq_not, Bool.not_true, Bool.not_false, Int.not_lt, Int.not_le, Classical.not_not, beq_iff_eq, beq_eq_false_iff_ne] at hc46
    refine HP.takeG rfl rfl rfl rfl rfl rfl hS (fun wS hS1 => PV.move rfl) ?_
    refine HP.takeG rfl rfl rfl rfl rfl rfl hS (fun wS hS1 => PV.move rfl) ?_
    first
      | refine HP.atO (wb := w7) (x := .tmp 95) (y := .tmp 96) (f := VI) (0) rfl rfl (by assumption) (by first | omega | (simp; omega) | (simp_all; omega)) (fun p20 hpp20 hcp20 => ?_)
      | refine HP.atOZ (wb := w7) (x := .tmp 95) (y := .tmp 96) (f := VI) (0) rfl rfl (by assumption) (by first | omega | (simp; omega) | (simp_all; omega)) (fun p20 hpp20 hzp20 hcp20 => ?_)
    refine HP.takeG rfl rfl rfl rfl rfl rfl hS (fun wS hS1 => (by first | exact PV.indexAddr hpp20 rfl rfl T.sl22 | exact PV.indexAddr hpp20 rfl (by rw [← hzp20]; rfl) T.sl22)) ?_
    refine HP.takeG rfl rfl rfl rfl rfl rfl hS (fun wS hS1 => (by first | exact PV.load0 T.na2 rfl (by first | exact Cells.up (by assumption) (hBr.trans hS1) | exact Bx.cells (Bx.updD (by assumption) hS1 (Dj.nlR _)) | exact Cells.upd (by assumption) hS1 (by simp)) (Ext.refl _) rfl | exact PV.load1 T.na2 rfl (by first | exact Cells.up (by assumption) (hBr.trans hS1) | exact Bx.cells (Bx.updD (by assumption) hS1 (Dj.nlR _)) | exact Cells.upd (by assumption) hS1 (by simp)) (Ext.refl _) rfl)) ?_
    refine HP.takeG rfl rfl rfl rfl rfl rfl hS (fun wS hS1 => PV.eql rfl rfl) ?_
    refine HP.takeG rfl rfl rfl rfl rfl rfl hS (fun wS hS1 => PV.move rfl) ?_
    refine HP.takeG rfl rfl rfl rfl rfl rfl hS (fun wS hS1 => PV.move rfl) ?_
    refine HP.takeG rfl rfl rfl rfl rfl rfl hS (fun wS hS1 => PV.lss rfl rfl) ?_
    refine HP.takeG rfl rfl rfl rfl rfl rfl hS (fun wS hS1 => PV.neqB T.bl4 rfl rfl) ?_
    refine HP.takeG rfl rfl rfl rfl rfl rfl hS (fun wS hS1 => PV.pickF rfl rfl) ?_
    refine HP.take rfl rfl rfl rfl hS (fun wS hS1 => PV.pickT rfl rfl) ?_
    refine HP.doneS ?_
    refine CW.cond rfl (fun hc47 => ?_) (fun hc47 => ?_)
    · skip
      try simp only [decide_eq_true_eq, decide_eq_false_iff_not, Bool.not_eq_true', Bool.not_eq_false', Bool.not_eq_eq_eq_not, Bool.not_true, Bool.not_false, Int.not_lt, Int.not_le, Classical.not_not, beq_iff_eq, beq_eq_false_iff_ne] at hc47
      refine CW.seq ?_
      refine CW.reg ?_
      refine WL.pure rfl rfl rfl (PV.assign rfl) ?_
      refine WL.nilS ?_
      refine CW.ret ?_
      refine RQ.then ?_
      refine RQ.block ?_
      refine RQ.then ?_
      refine RQ.then ?_
      refine RQ.block ?_
      refine RQ.then ?_
      refine RQ.r1 rfl ?_
      refine ⟨?_, hB⟩
      first | rfl | (exfalso; omega) | (exfalso; simp only [ne_eq, decide_eq_decide] at *; omega) | (exfalso; rw [hok] at *; contradiction)
    try simp only [decide_eq_true_eq, decide_eq_false_iff_not, Bool.not_eq_true', Bool.not_eq_false', Bool.not_eq_eq_eq_not, Bool.not_true, Bool.not_false, Int.not_lt, Int.not_le, Classical.not_not, beq_iff_eq, beq_eq_false_iff_ne] at hc47
    refine CW.skipS ?_
    refine CW.seq ?_
    refine CW.reg ?_
    refine WL.pure rfl rfl rfl (PV.move rfl) ?_
    refine WL.pure rfl rfl rfl (PV.assign rfl) ?_
    refine WL.nilS ?_
    refine CW.seq ?_
    refine CW.seq ?_
    refine CW.reg ?_
    refine WL.pure rfl rfl rfl (PV.move rfl) ?_
    refine WL.pure rfl rfl rfl (PV.move rfl) ?_
    first
      | refine WL.atO (x := .tmp 107) (y := .tmp 108) (f := VI) (0) rfl rfl ho4 (by first | omega | (simp; omega) | (simp_all; omega)) (fun p21 hpp21 hcp21 => ?_)
      | refine WL.atOZ (x := .tmp 107) (y := .tmp 108) (f := VI) (0) rfl rfl ho4 (by first | omega | (simp; omega) | (simp_all; omega)) (fun p21 hpp21 hzp21 hcp21 => ?_)
    refine WL.pure rfl rfl rfl ((by first | exact PV.indexAddr hpp21 rfl rfl T.sl22 | exact PV.indexAddr hpp21 rfl (by rw [← hzp21]; rfl) T.sl22)) ?_
    refine WL.pure rfl rfl rfl ((by first | exact PV.load0 T.na2 rfl (by first | exact Cells.up (by assumption) hB | exact Bx.cells (by assumption) | assumption) (Ext.refl _) rfl | exact PV.load1 T.na2 rfl (by first | exact Cells.up (by assumption) hB | exact Bx.cells (by assumption) | assumption) (Ext.refl _) rfl)) ?_
    refine WL.pure rfl rfl rfl (PV.eql rfl rfl) ?_
    refine WL.nilS ?_
    refine CW.cond rfl (fun hc48 => ?_) (fun hc48 => ?_)
    · skip
      try simp only [decide_eq_true_eq, decide_eq_false_iff_not, Bool.not_eq_true', Bool.not_eq_false', Bool.not_eq_eq_eq_not, Bool.not_true, Bool.not_false, Int.not_lt, Int.not_le, Classical.not_not, beq_iff_eq, beq_eq_false_iff_ne] at hc48
      refine CW.reg ?_
      refine WL.pure rfl rfl rfl (PV.move rfl) ?_
      refine WL.pure rfl rfl rfl (PV.add rfl rfl (by constructor <;> omega)) ?_
      refine WL.pure rfl rfl rfl (PV.assign rfl) ?_
      refine WL.nilS ?_
      refine CW.seq ?_
      refine CW.seq ?_
      refine CW.reg ?_
      refine WL.pure rfl rfl rfl (PV.move rfl) ?_
      refine WL.pure rfl rfl rfl (PV.move rfl) ?_
      first
        | refine WL.atO (x := .tmp 114) (y := .tmp 115) (f := VI) (0) rfl rfl ho4 (by first | omega | (simp; omega) | (simp_all; omega)) (fun p22 hpp22 hcp22 => ?_)
        | refine WL.atOZ (x := .tmp 114) (y := .tmp 115) (f := VI) (0) rfl rfl ho4 (by first | omega | (simp; omega) | (simp_all; omega)) (fun p22 hpp22 hzp22 hcp22 => ?_)
      refine WL.pure rfl rfl rfl ((by first | exact PV.indexAddr hpp22 rfl rfl T.sl22 | exact PV.indexAddr hpp22 rfl (by rw [← hzp22]; rfl) T.sl22)) ?_
      refine WL.pure rfl rfl rfl ((by first | exact PV.load0 T.na2 rfl (by first | exact Cells.up (by assumption) hB | exact Bx.cells (by assumption) | assumption) (Ext.refl _) rfl | exact PV.load1 T.na2 rfl (by first | exact Cells.up (by assumption) hB | exact Bx.cells (by assumption) | assumption) (Ext.refl _) rfl)) ?_
      refine WL.pure rfl rfl rfl (PV.eql rfl rfl) ?_
      refine WL.pure rfl rfl rfl (PV.move rfl) ?_
      refine WL.split (t := 119) rfl (fun hc49 => ?_) (fun hc49 => ?_)
      rotate_left
      · skip
        try simp only [decide_eq_true_eq, decide_eq_false_iff_not, Bool.not_eq_true', Bool.not_eq_false', Bool.not_eq_eq_eq_not, Bool.not_true, Bool.not_false, Int.not_lt, Int.not_le, Classical.not_not, beq_iff_eq, beq_eq_false_iff_ne] at hc49
        refine WL.skip rfl rfl rfl rfl rfl ?_
        refine WL.skip rfl rfl rfl rfl rfl ?_
        refine WL.pure rfl rfl rfl (PV.pickF rfl rfl) ?_
        refine WL.nilS ?_
        refine CW.condF rfl ?_
        refine CW.skipS ?_
        refine CW.seq ?_
        refine CW.seq ?_
        refine CW.reg ?_
        refine WL.pure rfl rfl rfl (PV.move rfl) ?_
        refine WL.pure rfl rfl rfl (PV.move rfl) ?_
        first
          | refine WL.atO (x := .tmp 125) (y := .tmp 126) (f := VI) (0) rfl rfl ho7 (by first | omega | (simp; omega) | (simp_all; omega)) (fun p23 hpp23 hcp23 => ?_)
          | refine WL.atOZ (x := .tmp 125) (y := .tmp 126) (f := VI) (0) rfl rfl ho7 (by first | omega | (simp; omega) | (simp_all; omega)) (fun p23 hpp23 hzp23 hcp23 => ?_)
        refine WL.pure rfl rfl rfl ((by first | exact PV.indexAddr hpp23 rfl rfl T.sl22 | exact PV.indexAddr hpp23 rfl (by rw [← hzp23]; rfl) T.sl22)) ?_
        refine WL.pure rfl rfl rfl ((by first | exact PV.load0 T.na2 rfl (by first | exact Cells.up (by assumption) hB | exact Bx.cells (by assumption) | assumption) (Ext.refl _) rfl | exact PV.load1 T.na2 rfl (by first | exact Cells.up (by assumption) hB | exact Bx.cells (by assumption) | assumption) (Ext.refl _) rfl)) ?_
        refine WL.pure rfl rfl rfl (PV.move rfl) ?_
        refine WL.pure rfl rfl rfl (PV.neq rfl rfl) ?_
        refine WL.pure rfl rfl rfl (PV.move rfl) ?_
        refine WL.split (t := 131) rfl (fun hc50 => ?_) (fun hc50 => ?_)
        · skip
          try simp only [decide_eq_true_eq, decide_eq_false_iff_not, Bool.not_eq_true', Bool.not_eq_false', Bool.not_eq_eq_eq_not, Bool.not_true, Bool.not_false, Int.not_lt, Int.not_le, Classical.not_not, beq_iff_eq, beq_eq_false_iff_ne] at hc50
          refine WL.skip rfl rfl rfl rfl rfl ?_
          refine WL.skip rfl rfl rfl rfl rfl ?_
          refine WL.pure rfl rfl rfl (PV.pickT rfl rfl) ?_
          refine WL.pure rfl rfl rfl (PV.move rfl) ?_
          refine WL.skip rfl rfl rfl rfl rfl ?_
          refine WL.skip rfl rfl rfl rfl rfl ?_
          refine WL.skip rfl rfl rfl rfl rfl ?_
          refine WL.skip rfl rfl rfl rfl rfl ?_
          refine WL.skip rfl rfl rfl rfl rfl ?_
          refine WL.skip rfl rfl rfl rfl rfl ?_
          refine WL.skipU rfl rfl rfl rfl rfl ?_
          refine WL.skipU rfl rfl rfl rfl rfl ?_
          refine WL.skip rfl rfl rfl rfl rfl ?_
          refine WL.skip rfl rfl rfl rfl rfl ?_
          refine WL.skipU rfl rfl rfl rfl rfl ?_
          refine WL.skipU rfl rfl rfl rfl rfl ?_
          refine WL.skip rfl rfl rfl rfl rfl ?_
          refine WL.pure rfl rfl rfl (PV.pickT rfl rfl) ?_
          refine WL.nilS ?_
          refine CW.condT rfl ?_
          refine CW.seq ?_
          refine CW.reg ?_
          refine WL.pure rfl rfl rfl (PV.assign rfl) ?_
          refine WL.nilS ?_
          refine CW.ret ?_
          refine RQ.then ?_
          refine RQ.block ?_
          refine RQ.then ?_
          refine RQ.then ?_
          refine RQ.block ?_
          refine RQ.then ?_
          refine RQ.r1 rfl ?_
          refine ⟨?_, hB⟩
          first | rfl | (exfalso; omega) | (exfalso; simp only [ne_eq, decide_eq_decide] at *; omega) | (exfalso; rw [hok] at *; contradiction)
        try simp only [decide_eq_true_eq, decide_eq_false_iff_not, Bool.not_eq_true', Bool.not_eq_false', Bool.not_eq_eq_eq_not, Bool.not_true, Bool.not_false, Int.not_lt, Int.not_le, Classical.not_not, beq_iff_eq, beq_eq_false_iff_ne] at hc50
        refine WL.pureG rfl rfl rfl rfl rfl (PV.move rfl) ?_
        refine WL.pureG rfl rfl rfl rfl rfl (PV.lss rfl rfl) ?_
        refine WL.pure rfl rfl rfl (PV.pickF rfl rfl) ?_
        refine WL.pure rfl rfl rfl (PV.move rfl) ?_
        refine WL.split (t := 135) rfl (fun hc51 => ?_) (fun hc51 => ?_)
        · skip
          try simp only [decide_eq_true_eq, decide_eq_false_iff_not, Bool.not_eq_true', Bool.not_eq_false', Bool.not_eq_eq_eq_not, Bool.not_true, Bool.not_false, Int.not_lt, Int.not_le, Classical.not_not, beq_iff_eq, beq_eq_false_iff_ne] at hc51
          refine WL.skip rfl rfl rfl rfl rfl ?_
          refine WL.skip rfl rfl rfl rfl rfl ?_
          refine WL.skip rfl rfl rfl rfl rfl ?_
          refine WL.skip rfl rfl rfl rfl rfl ?_
          refine WL.skip rfl rfl rfl rfl rfl ?_
          refine WL.skip rfl rfl rfl rfl rfl ?_
          refine WL.skipU rfl rfl rfl rfl rfl ?_
          refine WL.skipU rfl rfl rfl rfl rfl ?_
          refine WL.skip rfl rfl rfl rfl rfl ?_
          refine WL.skip rfl rfl rfl rfl rfl ?_
          refine WL.skipU rfl rfl rfl rfl rfl ?_
          refine WL.skipU rfl rfl rfl rfl rfl ?_
          refine WL.skip rfl rfl rfl rfl rfl ?_
          refine WL.pure rfl rfl rfl (PV.pickT rfl rfl) ?_
          refine WL.nilS ?_
          refine CW.condT rfl ?_
          refine CW.seq ?_
          refine CW.reg ?_
          refine WL.pure rfl rfl rfl (PV.assign rfl) ?_
          refine WL.nilS ?_
          refine CW.ret ?_
          refine RQ.then ?_
          refine RQ.block ?_
          refine RQ.then ?_
          refine RQ.then ?_
          refine RQ.block ?_
          refine RQ.then ?_
          refine RQ.r1 rfl ?_
          refine ⟨?_, hB⟩
          first | rfl | (exfalso; omega) | (exfalso; simp only [ne_eq, decide_eq_decide] at *; omega) | (exfalso; rw [hok] at *; contradiction)
        try simp only [decide_eq_true_eq, decide_eq_false_iff_not, Bool.not_eq_true', Bool.not_eq_false', Bool.not_eq_eq_eq_not, Bool.not_true, Bool.not_false, Int.not_lt, Int.not_le, Classical.not_not, beq_iff_eq, beq_eq_false_iff_ne] at hc51
        refine WL.pureG rfl rfl rfl rfl rfl (PV.move rfl) ?_
        refine WL.pureG rfl rfl rfl rfl rfl (PV.move rfl) ?_
        first
          | refine WL.atO (x := .tmp 136) (y := .tmp 137) (f := VI) (0) rfl rfl ho4 (by first | omega | (simp; omega) | (simp_all; omega)) (fun p24 hpp24 hcp24 => ?_)
          | refine WL.atOZ (x := .tmp 136) (y := .tmp 137) (f := VI) (0) rfl rfl ho4 (by first | omega | (simp; omega) | (simp_all; omega)) (fun p24 hpp24 hzp24 hcp24 => ?_)
        refine WL.pureG rfl rfl rfl rfl rfl ((by first | exact PV.indexAddr hpp24 rfl rfl T.sl22 | exact PV.indexAddr hpp24 rfl (by rw [← hzp24]; rfl) T.sl22)) ?_
        refine WL.pureG rfl rfl rfl rfl rfl ((by first | exact PV.load0 T.na2 rfl (by first | exact Cells.up (by assumption) hB | exact Bx.cells (by assumption) | assumption) (Ext.refl _) rfl | exact PV.load1 T.na2 rfl (by first | exact Cells.up (by assumption) hB | exact Bx.cells (by assumption) | assumption) (Ext.refl _) rfl)) ?_
        refine WL.pureG rfl rfl rfl rfl rfl (PV.eql rfl rfl) ?_
        refine WL.pureG rfl rfl rfl rfl rfl (PV.move rfl) ?_
        refine WL.split (t := 141) rfl (fun hc52 => ?_) (fun hc52 => ?_)
        rotate_left
        · skip
          try simp only [decide_eq_true_eq, decide_eq_false_iff_not, Bool.not_eq_true', Bool.not_eq_false', Bool.not_eq_eq_eq_not, Bool.not_true, Bool.not_false, Int.not_lt, Int.not_le, Classical.not_not, beq_iff_eq, beq_eq_false_iff_ne] at hc52
          refine WL.skip rfl rfl rfl rfl rfl ?_
          refine WL.skip rfl rfl rfl rfl rfl ?_
          refine WL.pureG rfl rfl rfl rfl rfl (PV.pickF rfl rfl) ?_
          refine WL.pureG rfl rfl rfl rfl rfl (PV.move rfl) ?_
          refine WL.skip rfl rfl rfl rfl rfl ?_
          refine WL.skip rfl rfl rfl rfl rfl ?_
          refine WL.pureG rfl rfl rfl rfl rfl (PV.pickF rfl rfl) ?_
          refine WL.pure rfl rfl rfl (PV.pickF rfl rfl) ?_
          refine WL.nilS ?_
          refine CW.condF rfl ?_
          refine CW.skipS ?_
          refine CW.reg ?_
          refine WL.pure rfl rfl rfl (PV.move rfl) ?_
          refine WL.pure rfl rfl rfl (PV.assign rfl) ?_
          refine WL.nil ?_
          refine NQ.block ?_
          refine NQ.then ?_
          refine CW.reg ?_
          refine WL.pure rfl rfl rfl (PV.add rfl rfl (by constructor <;> omega)) ?_
          refine WL.pure rfl rfl rfl (PV.move rfl) ?_
          refine WL.nil ?_
          refine NQ.next (ρ := [(12, _), (57, _)]) ⟨rfl, rfl, rfl, rfl, rfl, rfl, rfl, trivial⟩ ?_
          exact ⟨_, ⟨k + 1, _, rfl, rfl, hU0, (by first | omega | assumption | (simp_all; done) | (simp_all; omega)), (by omega)⟩, by omega⟩
        try simp only [decide_eq_true_eq, decide_eq_false_iff_not, Bool.not_eq_true', Bool.not_eq_false', Bool.not_eq_eq_eq_not, Bool.not_true, Bool.not_false, Int.not_lt, Int.not_le, Classical.not_not, beq_iff_eq, beq_eq_false_iff_ne] at hc52
        refine WL.pureG rfl rfl rfl rfl rfl (PV.move rfl) ?_
        refine WL.pureG rfl rfl rfl rfl rfl (PV.eql rfl rfl) ?_
        refine WL.pureG rfl rfl rfl rfl rfl (PV.pickT rfl rfl) ?_
        refine WL.pureG rfl rfl rfl rfl rfl (PV.move rfl) ?_
        refine WL.split (t := 145) rfl (fun hc53 => ?_) (fun hc53 => ?_)
        rotate_left
        · skip
          try simp only [decide_eq_true_eq, decide_eq_false_iff_not, Bool.not_eq_true', Bool.not_eq_false', Bool.not_eq_eq_eq_not, Bool.not_true, Bool.not_false, Int.not_lt, Int.not_le, Classical.not_not, beq_iff_eq, beq_eq_false_iff_ne] at hc53
          refine WL.skip rfl rfl rfl rfl rfl ?_
          refine WL.skip rfl rfl rfl rfl rfl ?_
          refine WL.pureG rfl rfl rfl rfl rfl (PV.pickF rfl rfl) ?_
          refine WL.pure rfl rfl rfl (PV.pickF rfl rfl) ?_
          refine WL.nilS ?_
          refine CW.condF rfl ?_
          refine CW.skipS ?_
          refine CW.reg ?_
          refine WL.pure rfl rfl rfl (PV.move rfl) ?_
          refine WL.pure rfl rfl rfl (PV.assign rfl) ?_
          refine WL.nil ?_
          refine NQ.block ?_
          refine NQ.then ?_
          refine CW.reg ?_
          refine WL.pure rfl rfl rfl (PV.add rfl rfl (by constructor <;> omega)) ?_
          refine WL.pure rfl rfl rfl (PV.move rfl) ?_
          refine WL.nil ?_
          refine NQ.next (ρ := [(12, _), (57, _)]) ⟨rfl, rfl, rfl, rfl, rfl, rfl, rfl, trivial⟩ ?_
          exact ⟨_, ⟨k + 1, _, rfl, rfl, hU0, (by first | omega | assumption | (simp_all; done) | (simp_all; omega)), (by omega)⟩, by omega⟩
        try simp only [decide_eq_true_eq, decide_eq_false_iff_not, Bool.not_eq_true', Bool.not_eq_false', Bool.not_eq_eq_eq_not, Bool.not_true, Bool.not_false, Int.not_lt, Int.not_le, Classical.not_not, beq_iff_eq, beq_eq_false_iff_ne] at hc53
        refine WL.pureG rfl rfl rfl rfl rfl (PV.move rfl) ?_
        refine WL.pureG rfl rfl rfl rfl rfl (PV.neq rfl rfl) ?_
        refine WL.pureG rfl rfl rfl rfl rfl (PV.pickT rfl rfl) ?_
        refine WL.pure rfl rfl rfl (PV.pickF rfl rfl) ?_
        refine WL.nilS ?_
        refine CW.cond rfl (fun hc54 => ?_) (fun hc54 => ?_)
        · skip
          try simp only [decide_eq_true_eq, decide_eq_false_iff_not, Bool.not_eq_true', Bool.not_eq_false', Bool.not_eq_eq_eq_not, Bool.not_true, Bool.not_false, Int.not_lt, Int.not_le, Classical.not_not, beq_iff_eq, beq_eq_false_iff_ne] at hc54
          refine CW.seq ?_
          refine CW.reg ?_
          refine WL.pure rfl rfl rfl (PV.assign rfl) ?_
          refine WL.nilS ?_
          refine CW.ret ?_
          refine RQ.then ?_
          refine RQ.block ?_
          refine RQ.then ?_
          refine RQ.then ?_
          refine RQ.block ?_
          refine RQ.then ?_
          refine RQ.r1 rfl ?_
          refine ⟨?_, hB⟩
          first | rfl | (exfalso; omega) | (exfalso; simp only [ne_eq, decide_eq_decide] at *; omega) | (exfalso; rw [hok] at *; contradiction)
        try simp only [decide_eq_true_eq, decide_eq_false_iff_not, Bool.not_eq_true', Bool.not_eq_false', Bool.not_eq_eq_eq_not, Bool.not_true, Bool.not_false, Int.not_lt, Int.not_le, Classical.not_not, beq_iff_eq, beq_eq_false_iff_ne] at hc54
        refine CW.skipS ?_
        refine CW.reg ?_
        refine WL.pure rfl rfl rfl (PV.move rfl) ?_
        refine WL.pure rfl rfl rfl (PV.assign rfl) ?_
        refine WL.nil ?_
        refine NQ.block ?_
        refine NQ.then ?_
        refine CW.reg ?_
        refine WL.pure rfl rfl rfl (PV.add rfl rfl (by constructor <;> omega)) ?_
        refine WL.pure rfl rfl rfl (PV.move rfl) ?_
        refine WL.nil ?_
        refine NQ.next (ρ := [(12, _), (57, _)]) ⟨rfl, rfl, rfl, rfl, rfl, rfl, rfl, trivial⟩ ?_
        exact ⟨_, ⟨k + 1, _, rfl, rfl, hU0, (by first | omega | assumption | (simp_all; done) | (simp_all; omega)), (by omega)⟩, by omega⟩
      try simp only [decide_eq_true_eq, decide_eq_false_iff_not, Bool.not_eq_true', Bool.not_eq_false', Bool.not_eq_eq_eq_not, Bool.not_true, Bool.not_false, Int.not_lt, Int.not_le, Classical.not_not, beq_iff_eq, beq_eq_false_iff_ne] at hc49
      refine WL.pureG rfl rfl rfl rfl rfl (PV.move rfl) ?_
      refine WL.pureG rfl rfl rfl rfl rfl (PV.neq rfl rfl) ?_
      refine WL.pure rfl rfl rfl (PV.pickT rfl rfl) ?_
      refine WL.nilS ?_
      refine CW.cond rfl (fun hc55 => ?_) (fun hc55 => ?_)
      · skip
        try simp only [decide_eq_true_eq, decide_eq_false_iff_not, Bool.not_eq_true', Bool.not_eq_false', Bool.not_eq_eq_eq_not, Bool.not_true, Bool.not_false, Int.not_lt, Int.not_le, Classical.not_not, beq_iff_eq, beq_eq_false_iff_ne] at hc55
        refine CW.reg ?_
        refine WL.pure rfl rfl rfl (PV.move rfl) ?_
        refine WL.pure rfl rfl rfl (PV.sub rfl rfl (by constructor <;> omega)) ?_
        refine WL.pure rfl rfl rfl (PV.assign rfl) ?_
        refine WL.nilS ?_
        refine CW.seq ?_
        refine CW.seq ?_
        refine CW.reg ?_
        refine WL.pure rfl rfl rfl (PV.move rfl) ?_
        refine WL.pure rfl rfl rfl (PV.move rfl) ?_
        first
          | refine WL.atO (x := .tmp 125) (y := .tmp 126) (f := VI) (0) rfl rfl ho7 (by first | omega | (simp; omega) | (simp_all; omega)) (fun p25 hpp25 hcp25 => ?_)
          | refine WL.atOZ (x := .tmp 125) (y := .tmp 126) (f := VI) (0) rfl rfl ho7 (by first | omega | (simp; omega) | (simp_all; omega)) (fun p25 hpp25 hzp25 hcp25 => ?_)
        refine WL.pure rfl rfl rfl ((by first | exact PV.indexAddr hpp25 rfl rfl T.sl22 | exact PV.indexAddr hpp25 rfl (by rw [← hzp25]; rfl) T.sl22)) ?_
        refine WL.pure rfl rfl rfl ((by first | exact PV.load0 T.na2 rfl (by first | exact Cells.up (by assumption) hB | exact Bx.cells (by assumption) | assumption) (Ext.refl _) rfl | exact PV.load1 T.na2 rfl (by first | exact Cells.up (by assumption) hB | exact Bx.cells (by assumption) | assumption) (Ext.refl _) rfl)) ?_
        refine WL.pure rfl rfl rfl (PV.move rfl) ?_
        refine WL.pure rfl rfl rfl (PV.neq rfl rfl) ?_
        refine WL.pure rfl rfl rfl (PV.move rfl) ?_
        refine WL.split (t := 131) rfl (fun hc56 => ?_) (fun hc56 => ?_)
        · skip
          try simp only [decide_eq_true_eq, decide_eq_false_iff_not, Bool.not_eq_true', Bool.not_eq_false', Bool.not_eq_eq_eq_not, Bool.not_true, Bool.not_false, Int.not_lt, Int.not_le, Classical.not_not, beq_iff_eq, beq_eq_false_iff_ne] at hc56
          refine WL.skip rfl rfl rfl rfl rfl ?_
          refine WL.skip rfl rfl rfl rfl rfl ?_
          refine WL.pure rfl rfl rfl (PV.pickT rfl rfl) ?_
          refine WL.pure rfl rfl rfl (PV.move rfl) ?_
          refine WL.skip rfl rfl rfl rfl rfl ?_
          refine WL.skip rfl rfl rfl rfl rfl ?_
          refine WL.skip rfl rfl rfl rfl rfl ?_
          refine WL.skip rfl rfl rfl rfl rfl ?_
          refine WL.skip rfl rfl rfl rfl rfl ?_
          refine WL.skip rfl rfl rfl rfl rfl ?_
          refine WL.skipU rfl rfl rfl rfl rfl ?_
          refine WL.skipU rfl rfl rfl rfl rfl ?_
          refine WL.skip rfl rfl rfl rfl rfl ?_
          refine WL.skip rfl rfl rfl rfl rfl ?_
          refine WL.skipU rfl rfl rfl rfl rfl ?_
          refine WL.skipU rfl rfl rfl rfl rfl ?_
          refine WL.skip rfl rfl rfl rfl rfl ?_
          refine WL.pure rfl rfl rfl (PV.pickT rfl rfl) ?_
          refine WL.nilS ?_
          refine CW.condT rfl ?_
          refine CW.seq ?_
          refine CW.reg ?_
          refine WL.pure rfl rfl rfl (PV.assign rfl) ?_
          refine WL.nilS ?_
          refine CW.ret ?_
          refine RQ.then ?_
          refine RQ.block ?_
          refine RQ.then ?_
          refine RQ.then ?_
          refine RQ.block ?_
          refine RQ.then ?_
          refine RQ.r1 rfl ?_
          refine ⟨?_, hB⟩
          first | rfl | (exfalso; omega) | (exfalso; simp only [ne_eq, decide_eq_decide] at *; omega) | (exfalso; rw [hok] at *; contradiction)
        try simp only [decide_eq_true_eq, decide_eq_false_iff_not, Bool.not_eq_true', Bool.not_eq_false', Bool.not_eq_eq_eq_not, Bool.not_true, Bool.not_false, Int.not_lt, Int.not_le, Classical.not_not, beq_iff_eq, beq_eq_false_iff_ne] at hc56
        refine WL.pureG rfl rfl rfl rfl rfl (PV.move rfl) ?_
        refine WL.pureG rfl rfl rfl rfl rfl (PV.lss rfl rfl) ?_
        refine WL.pure rfl rfl rfl (PV.pickF rfl rfl) ?_
        refine WL.pure rfl rfl rfl (PV.move rfl) ?_
        refine WL.split (t := 135) rfl (fun hc57 => ?_) (fun hc57 => ?_)
        · skip
          try simp only [decide_eq_true_eq, decide_eq_false_iff_not, Bool.not_eq_true', Bool.not_eq_false', Bool.not_eq_eq_eq_not, Bool.not_true, Bool.not_false, Int.not_lt, Int.not_le, Classical.not_not, beq_iff_eq, beq_eq_false_iff_ne] at hc57
          refine WL.skip rfl rfl rfl rfl rfl ?_
          refine WL.skip rfl rfl rfl rfl rfl ?_
          refine WL.skip rfl rfl rfl rfl rfl ?_
          refine WL.skip rfl rfl rfl rfl rfl ?_
          refine WL.skip rfl rfl rfl rfl rfl ?_
          refine WL.skip rfl rfl rfl rfl rfl ?_
          refine WL.skipU rfl rfl rfl rfl rfl ?_
          refine WL.skipU rfl rfl rfl rfl rfl ?_
          refine WL.skip rfl rfl rfl rfl rfl ?_
          refine WL.skip rfl rfl rfl rfl rfl ?_
          refine WL.skipU rfl rfl rfl rfl rfl ?_
          refine WL.skipU rfl rfl rfl rfl rfl ?_
          refine WL.skip rfl rfl rfl rfl rfl ?_
          refine WL.pure rfl rfl rfl (PV.pickT rfl rfl) ?_
          refine WL.nilS ?_
          refine CW.condT rfl ?_
          refine CW.seq ?_
          refine CW.reg ?_
          refine WL.pure rfl rfl rfl (PV.assign rfl) ?_
          refine WL.nilS ?_
          refine CW.ret ?_
          refine RQ.then ?_
          refine RQ.block ?_
          refine RQ.then ?_
          refine RQ.then ?_
          refine RQ.block ?_
          refine RQ.then ?_
          refine RQ.r1 rfl ?_
          refine ⟨?_, hB⟩
          first | rfl | (exfalso; omega) | (exfalso; simp only [ne_eq, decide_eq_decide] at *; omega) | (exfalso; rw [hok] at *; contradiction)
        try simp only [decide_eq_true_eq, decide_eq_false_iff_not, Bool.not_eq_true', Bool.not_eq_false', Bool.not_eq_eq_eq_not, Bool.not_true, Bool.not_false, Int.not_lt, Int.not_le, Classical.not_not, beq_iff_eq, beq_eq_false_iff_ne] at hc57
        refine WL.pureG rfl rfl rfl rfl rfl (PV.move rfl) ?_
        refine WL.pureG rfl rfl rfl rfl rfl (PV.move rfl) ?_
        first
          | refine WL.atO (x := .tmp 136) (y := .tmp 137) (f := VI) (0) rfl rfl ho4 (by first | omega | (simp; omega) | (simp_all; omega)) (fun p26 hpp26 hcp26 => ?_)
          | refine WL.atOZ (x := .tmp 136) (y := .tmp 137) (f := VI) (0) rfl rfl ho4 (by first | omega | (simp; omega) | (simp_all; omega)) (fun p26 hpp26 hzp26 hcp26 => ?_)
        refine WL.pureG rfl rfl rfl rfl rfl ((by first | exact PV.indexAddr hpp26 rfl rfl T.sl22 | exact PV.indexAddr hpp26 rfl (by rw [← hzp26]; rfl) T.sl22)) ?_
        refine WL.pureG rfl rfl rfl rfl rfl ((by first | exact PV.load0 T.na2 rfl (by first | exact Cells.up (by assumption) hB | exact Bx.cells (by assumption) | assumption) (Ext.refl _) rfl | exact PV.load1 T.na2 rfl (by first | exact Cells.up (by assumption) hB | exact Bx.cells (by assumption) | assumption) (Ext.refl _) rfl)) ?_
        refine WL.pureG rfl rfl rfl rfl rfl (PV.eql rfl rfl) ?_
        refine WL.pureG rfl rfl rfl rfl rfl (PV.move rfl) ?_
        refine WL.split (t := 141) rfl (fun hc58 => ?_) (fun hc58 => ?_)
        rotate_left
        · skip
          try simp only [decide_eq_true_eq, decide_eq_false_iff_not, Bool.not_eq_true', Bool.not_eq_false', Bool.not_eq_eq_eq_not, Bool.not_true, Bool.not_false, Int.not_lt, Int.not_le, Classical.not_not, beq_iff_eq, beq_eq_false_iff_ne] at hc58
          refine WL.skip rfl rfl rfl rfl rfl ?_
          refine WL.skip rfl rfl rfl rfl rfl ?_
          refine WL.pureG rfl rfl rfl rfl rfl (PV.pickF rfl rfl) ?_
          refine WL.pureG rfl rfl rfl rfl rfl (PV.move rfl) ?_
          refine WL.skip rfl rfl rfl rfl rfl ?_
          refine WL.skip rfl rfl rfl rfl rfl ?_
          refine WL.pureG rfl rfl rfl rfl rfl (PV.pickF rfl rfl) ?_
          refine WL.pure rfl rfl rfl (PV.pickF rfl rfl) ?_
          refine WL.nilS ?_
          refine CW.condF rfl ?_
          refine CW.skipS ?_
          refine CW.reg ?_
          refine WL.pure rfl rfl rfl (PV.move rfl) ?_
          refine WL.pure rfl rfl rfl (PV.assign rfl) ?_
          refine WL.nil ?_
          refine NQ.block ?_
          refine NQ.then ?_
          refine CW.reg ?_
          refine WL.pure rfl rfl rfl (PV.add rfl rfl (by constructor <;> omega)) ?_
          refine WL.pure rfl rfl rfl (PV.move rfl) ?_
          refine WL.nil ?_
          refine NQ.next (ρ := [(12, _), (57, _)]) ⟨rfl, rfl, rfl, rfl, rfl, rfl, rfl, trivial⟩ ?_
          exact ⟨_, ⟨k + 1, _, rfl, rfl, hU0, (by first | omega | assumption | (simp_all; done) | (simp_all; omega)), (by omega)⟩, by omega⟩
        try simp only [decide_eq_true_eq, decide_eq_false_iff_not, Bool.not_eq_true', Bool.not_eq_false', Bool.not_eq_eq_eq_not, Bool.not_true, Bool.not_false, Int.not_lt, Int.not_le, Classical.not_not, beq_iff_eq, beq_eq_false_iff_ne] at hc58
        refine WL.pureG rfl rfl rfl rfl rfl (PV.move rfl) ?_
        refine WL.pureG rfl rfl rfl rfl rfl (PV.eql rfl rfl) ?_
        refine WL.pureG rfl rfl rfl rfl rfl (PV.pickT rfl rfl) ?_
        refine WL.pureG rfl rfl rfl rfl rfl (PV.move rfl) ?_
        refine WL.split (t := 145) rfl (fun hc59 => ?_) (fun hc59 => ?_)
        rotate_left
        · skip
          try simp only [decide_eq_true_eq, decide_eq_false_iff_not, Bool.not_eq_true', Bool.not_eq_false', Bool.not_eq_eq_eq_not, Bool.not_true, Bool.not_false, Int.not_lt, Int.not_le, Classical.not_not, beq_iff_eq, beq_eq_false_iff_ne] at hc59
          refine WL.skip rfl rfl rfl rfl rfl ?_
          refine WL.skip rfl rfl rfl rfl rfl ?_
          refine WL.pureG rfl rfl rfl rfl rfl (PV.pickF rfl rfl) ?_
          refine WL.pure rfl rfl rfl (PV.pickF rfl rfl) ?_
          refine WL.nilS ?_
          refine CW.condF rfl ?_
          refine CW.skipS ?_
          refine CW.reg ?_
          refine WL.pure rfl rfl rfl (PV.move rfl) ?_
          refine WL.pure rfl rfl rfl (PV.assign rfl) ?_
          refine WL.nil ?_
          refine NQ.block ?_
          refine NQ.then ?_
          refine CW.reg ?_
          refine WL.pure rfl rfl rfl (PV.add rfl rfl (by constructor <;> omega)) ?_
          refine WL.pure rfl rfl rfl (PV.move rfl) ?_
          refine WL.nil ?_
          refine NQ.next (ρ := [(12, _), (57, _)]) ⟨rfl, rfl, rfl, rfl, rfl, rfl, rfl, trivial⟩ ?_
          exact ⟨_, ⟨k + 1, _, rfl, rfl, hU0, (by first | omega | assumption | (simp_all; done) | (simp_all; omega)), (by omega)⟩, by omega⟩
        try simp only [decide_eq_true_eq, decide_eq_false_iff_not, Bool.not_eq_true', Bool.not_eq_false', Bool.not_eq_eq_eq_not, Bool.not_true, Bool.not_false, Int.not_lt, Int.not_le, Classical.not_not, beq_iff_eq, beq_eq_false_iff_ne] at hc59
        refine WL.pureG rfl rfl rfl rfl rfl (PV.move rfl) ?_
        refine WL.pureG rfl rfl rfl rfl rfl (PV.neq rfl rfl) ?_
        refine WL.pureG rfl rfl rfl rfl rfl (PV.pickT rfl rfl) ?_
        refine WL.pure rfl rfl rfl (PV.pickF rfl rfl) ?_
        refine WL.nilS ?_
        refine CW.cond rfl (fun hc60 => ?_) (fun hc60 => ?_)
        · skip
          try simp only [decide_eq_true_eq, decide_eq_false_iff_not, Bool.not_eq_true', Bool.not_eq_false', Bool.not_eq_eq_eq_not, Bool.not_true, Bool.not_false, Int.not_lt, Int.not_le, Classical.not_not, beq_iff_eq, beq_eq_false_iff_ne] at hc60
          refine CW.seq ?_
          refine CW.reg ?_
          refine WL.pure rfl rfl rfl (PV.assign rfl) ?_
          refine WL.nilS ?_
          refine CW.ret ?_
          refine RQ.then ?_
          refine RQ.block ?_
          refine RQ.then ?_
          refine RQ.then ?_
          refine RQ.block ?_
          refine RQ.then ?_
          refine RQ.r1 rfl ?_
          refine ⟨?_, hB⟩
          first | rfl | (exfalso; omega) | (exfalso; simp only [ne_eq, decide_eq_decide] at *; omega) | (exfalso; rw [hok] at *; contradiction)
        try simp only [decide_eq_true_eq, decide_eq_false_iff_not, Bool.not_eq_true', Bool.not_eq_false', Bool.not_eq_eq_eq_not, Bool.not_true, Bool.not_false, Int.not_lt, Int.not_le, Classical.not_not, beq_iff_eq, beq_eq_false_iff_ne] at hc60
        refine CW.skipS ?_
        refine CW.reg ?_
        refine WL.pure rfl rfl rfl (PV.move rfl) ?_
        refine WL.pure rfl rfl rfl (PV.assign rfl) ?_
        refine WL.nil ?_
        refine NQ.block ?_
        refine NQ.then ?_
        refine CW.reg ?_
        refine WL.pure rfl rfl rfl (PV.add rfl rfl (by constructor <;> omega)) ?_
        refine WL.pure rfl rfl rfl (PV.move rfl) ?_
        refine WL.nil ?_
        refine NQ.next (ρ := [(12, _), (57, _)]) ⟨rfl, rfl, rfl, rfl, rfl, rfl, rfl, trivial⟩ ?_
        exact ⟨_, ⟨k + 1, _, rfl, rfl, hU0, (by first | omega | assumption | (simp_all; done) | (simp_all; omega)), (by omega)⟩, by omega⟩
      try simp only [decide_eq_true_eq, decide_eq_false_iff_not, Bool.not_eq_true', Bool.not_eq_false', Bool.not_eq_eq_eq_not, Bool.not_true, Bool.not_false, Int.not_lt, Int.not_le, Classical.not_not, beq_iff_eq, beq_eq_false_iff_ne] at hc55
      refine CW.skipS ?_
      refine CW.seq ?_
      refine CW.seq ?_
      refine CW.reg ?_
      refine WL.pure rfl rfl rfl (PV.move rfl) ?_
      refine WL.pure rfl rfl rfl (PV.move rfl) ?_
      first
        | refine WL.atO (x := .tmp 125) (y := .tmp 126) (f := VI) (0) rfl rfl ho7 (by first | omega | (simp; omega) | (simp_all; omega)) (fun p27 hpp27 hcp27 => ?_)
        | refine WL.atOZ (x := .tmp 125) (y := .tmp 126) (f := VI) (0) rfl rfl ho7 (by first | omega | (simp; omega) | (simp_all; omega)) (fun p27 hpp27 hzp27 hcp27 => ?_)
      refine WL.pure rfl rfl rfl ((by first | exact PV.indexAddr hpp27 rfl rfl T.sl22 | exact PV.indexAddr hpp27 rfl (by rw [← hzp27]; rfl) T.sl22)) ?_
      refine WL.pure rfl rfl rfl ((by first | exact PV.load0 T.na2 rfl (by first | exact Cells.up (by assumption) hB | exact Bx.cells (by assumption) | assumption) (Ext.refl _) rfl | exact PV.load1 T.na2 rfl (by first | exact Cells.up (by assumption) hB | exact Bx.cells (by assumption) | assumption) (Ext.refl _) rfl)) ?_
      refine WL.pure rfl rfl rfl (PV.move rfl) ?_
      refine WL.pure rfl rfl rfl (PV.neq rfl rfl) ?_
      refine WL.pure rfl rfl rfl (PV.move rfl) ?_
      refine WL.split (t := 131) rfl (fun hc61 => ?_) (fun hc61 => ?_)
      · skip
        try simp only [decide_eq_true_eq, decide_eq_false_iff_not, Bool.not_eq_true', Bool.not_eq_false', Bool.not_eq_eq_eq_not, Bool.not_true, Bool.not_false, Int.not_lt, Int.not_le, Classical.not_not, beq_iff_eq, beq_eq_false_iff_ne] at hc61
        refine WL.skip rfl rfl rfl rfl rfl ?_
        refine WL.skip rfl rfl rfl rfl rfl ?_
        refine WL.pure rfl rfl rfl (PV.pickT rfl rfl) ?_
        refine WL.pure rfl rfl rfl (PV.move rfl) ?_
        refine WL.skip rfl rfl rfl rfl rfl ?_
        refine WL.skip rfl rfl rfl rfl rfl ?_
        refine WL.skip rfl rfl rfl rfl rfl ?_
        refine WL.skip rfl rfl rfl rfl rfl ?_
        refine WL.skip rfl rfl rfl rfl rfl ?_
        refine WL.skip rfl rfl rfl rfl rfl ?_
        refine WL.skipU rfl rfl rfl rfl rfl ?_
        refine WL.skipU rfl rfl rfl rfl rfl ?_
        refine WL.skip rfl rfl rfl rfl rfl ?_
        refine WL.skip rfl rfl rfl rfl rfl ?_
        refine WL.skipU rfl rfl rfl rfl rfl ?_
        refine WL.skipU rfl rfl rfl rfl rfl ?_
        refine WL.skip rfl rfl rfl rfl rfl ?_
        refine WL.pure rfl rfl rfl (PV.pickT rfl rfl) ?_
        refine WL.nilS ?_
        refine CW.condT rfl ?_
        refine CW.seq ?_
        refine CW.reg ?_
        refine WL.pure rfl rfl rfl (PV.assign rfl) ?_
        refine WL.nilS ?_
        refine CW.ret ?_
        refine RQ.then ?_
        refine RQ.block ?_
        refine RQ.then ?_
        refine RQ.then ?_
        refine RQ.block ?_
        refine RQ.then ?_
        refine RQ.r1 rfl ?_
        refine ⟨?_, hB⟩
        first | rfl | (exfalso; omega) | (exfalso; simp only [ne_eq, decide_eq_decide] at *; omega) | (exfalso; rw [hok] at *; contradiction)
      try simp only [decide_eq_true_eq, decide_eq_false_iff_not, Bool.not_eq_true', Bool.not_eq_false', Bool.not_eq_eq_eq_not, Bool.not_true, Bool.not_false, Int.not_lt, Int.not_le, Classical.not_not, beq_iff_eq, beq_eq_false_iff_ne] at hc61
      refine WL.pureG rfl rfl rfl rfl rfl (PV.move rfl) ?_
      refine WL.pureG rfl rfl rfl rfl rfl (PV.lss rfl rfl) ?_
      refine WL.pure rfl rfl rfl (PV.pickF rfl rfl) ?_
      refine WL.pure rfl rfl rfl (PV.move rfl) ?_
      refine WL.split (t := 135) rfl (fun hc62 => ?_) (fun hc62 => ?_)
      · skip
        try simp only [decide_eq_true_eq, decide_eq_false_iff_not, Bool.not_eq_true', Bool.not_eq_false', Bool.not_eq_eq_eq_not, Bool.not_true, Bool.not_false, Int.not_lt, Int.not_le, Classical.not_not, beq_iff_eq, beq_eq_false_iff_ne] at hc62
        refine WL.skip rfl rfl rfl rfl rfl ?_
        refine WL.skip rfl rfl rfl rfl rfl ?_
        refine WL.skip rfl rfl rfl rfl rfl ?_
        refine WL.skip rfl rfl rfl rfl rfl ?_
        refine WL.skip rfl rfl rfl rfl rfl ?_
        refine WL.skip rfl rfl rfl rfl rfl ?_
        refine WL.skipU rfl rfl rfl rfl rfl ?_
        refine WL.skipU rfl rfl rfl rfl rfl ?_
        refine WL.skip rfl rfl rfl rfl rfl ?_
        refine WL.skip rfl rfl rfl rfl rfl ?_
        refine WL.skipU rfl rfl rfl rfl rfl ?_
        refine WL.skipU rfl rfl rfl rfl rfl ?_
        refine WL.skip rfl rfl rfl rfl rfl ?_
        refine WL.pure rfl rfl rfl (PV.pickT rfl rfl) ?_
        refine WL.nilS ?_
        refine CW.condT rfl ?_
        refine CW.seq ?_
        refine CW.reg ?_
        refine WL.pure rfl rfl rfl (PV.assign rfl) ?_
        refine WL.nilS ?_
        refine CW.ret ?_
        refine RQ.then ?_
        refine RQ.block ?_
        refine RQ.then ?_
        refine RQ.then ?_
        refine RQ.block ?_
        refine RQ.then ?_
        refine RQ.r1 rfl ?_
        refine ⟨?_, hB⟩
        first | rfl | (exfalso; omega) | (exfalso; simp only [ne_eq, decide_eq_decide] at *; omega) | (exfalso; rw [hok] at *; contradiction)
      try simp only [decide_eq_true_eq, decide_eq_false_iff_not, Bool.not_eq_true', Bool.not_eq_false', Bool.not_eq_eq_eq_not, Bool.not_true, Bool.not_false, Int.not_lt, Int.not_le, Classical.not_not, beq_iff_eq, beq_eq_false_iff_ne] at hc62
      refine WL.pureG rfl rfl rfl rfl rfl (PV.move rfl) ?_
      refine WL.pureG rfl rfl rfl rfl rfl (PV.move rfl) ?_
      first
        | refine WL.atO (x := .tmp 136) (y := .tmp 137) (f := VI) (0) rfl rfl ho4 (by first | omega | (simp; omega) | (simp_all; omega)) (fun p28 hpp28 hcp28 => ?_)
        | refine WL.atOZ (x := .tmp 136) (y := .tmp 137) (f := VI) (0) rfl rfl ho4 (by first | omega | (simp; omega) | (simp_all; omega)) (fun p28 hpp28 hzp28 hcp28 => ?_)
      refine WL.pureG rfl rfl rfl rfl rfl ((by first | exact PV.indexAddr hpp28 rfl rfl T.sl22 | exact PV.indexAddr hpp28 rfl (by rw [← hzp28]; rfl) T.sl22)) ?_
      refine WL.pureG rfl rfl rfl rfl rfl ((by first | exact PV.load0 T.na2 rfl (by first | exact Cells.up (by assumption) hB | exact Bx.cells (by assumption) | assumption) (Ext.refl _) rfl | exact PV.load1 T.na2 rfl (by first | exact Cells.up (by assumption) hB | exact Bx.cells (by assumption) | assumption) (Ext.refl _) rfl)) ?_
      refine WL.pureG rfl rfl rfl rfl rfl (PV.eql rfl rfl) ?_
      refine WL.pureG rfl rfl rfl rfl rfl (PV.move rfl) ?_
      refine WL.split (t := 141) rfl (fun hc63 => ?_) (fun hc63 => ?_)
      rotate_left
      · skip
        try simp only [decide_eq_true_eq, decide_eq_false_iff_not, Bool.not_eq_true', Bool.not_eq_false', Bool.not_eq_eq_eq_not, Bool.not_true, Bool.not_false, Int.not_lt, Int.not_le, Classical.not_not, beq_iff_eq, beq_eq_false_iff_ne] at hc63
        refine WL.skip rfl rfl rfl rfl rfl ?_
        refine WL.skip rfl rfl rfl rfl rfl ?_
        refine WL.pureG rfl rfl rfl rfl rfl (PV.pickF rfl rfl) ?_
        refine WL.pureG rfl rfl rfl rfl rfl (PV.move rfl) ?_
        refine WL.skip rfl rfl rfl rfl rfl ?_
        refine WL.skip rfl rfl rfl rfl rfl ?_
        refine WL.pureG rfl rfl rfl rfl rfl (PV.pickF rfl rfl) ?_
        refine WL.pure rfl rfl rfl (PV.pickF rfl rfl) ?_
        refine WL.nilS ?_
        refine CW.condF rfl ?_
        refine CW.skipS ?_
        refine CW.reg ?_
        refine WL.pure rfl rfl rfl (PV.move rfl) ?_
        refine WL.pure rfl rfl rfl (PV.assign rfl) ?_
        refine WL.nil ?_
        refine NQ.block ?_
        refine NQ.then ?_
        refine CW.reg ?_
        refine WL.pure rfl rfl rfl (PV.add rfl rfl (by constructor <;> omega)) ?_
        refine WL.pure rfl rfl rfl (PV.move rfl) ?_
        refine WL.nil ?_
        refine NQ.next (ρ := [(12, _), (57, _)]) ⟨rfl, rfl, rfl, rfl, rfl, rfl, rfl, trivial⟩ ?_
        exact ⟨_, ⟨k + 1, _, rfl, rfl, hU0, (by first | omega | assumption | (simp_all; done) | (simp_all; omega)), (by omega)⟩, by omega⟩
      try simp only [decide_eq_true_eq, decide_eq_false_iff_not, Bool.not_eq_true', Bool.not_eq_false', Bool.not_eq_eq_eq_not, Bool.not_true, Bool.not_false, Int.not_lt, Int.not_le, Classical.not_not, beq_iff_eq, beq_eq_false_iff_ne] at hc63
      refine WL.pureG rfl rfl rfl rfl rfl (PV.move rfl) ?_
      refine WL.pureG rfl rfl rfl rfl rfl (PV.eql rfl rfl) ?_
      refine WL.pureG rfl rfl rfl rfl rfl (PV.pickT rfl rfl) ?_
      refine WL.pureG rfl rfl rfl rfl rfl (PV.move rfl) ?_
      refine WL.split (t := 145) rfl (fun hc64 => ?_) (fun hc64 => ?_)
      rotate_left
      · skip
        try simp only [decide_eq_true_eq, decide_eq_false_iff_not, Bool.not_eq_true', Bool.not_eq_false', Bool.not_eq_eq_eq_not, Bool.not_true, Bool.not_false, Int.not_lt, Int.not_le, Classical.not_not, beq_iff_eq, beq_eq_false_iff_ne] at hc64
        refine WL.skip rfl rfl rfl rfl rfl ?_
        refine WL.skip rfl rfl rfl rfl rfl ?_
        refine WL.pureG rfl rfl rfl rfl rfl (PV.pickF rfl rfl) ?_
        refine WL.pure rfl rfl rfl (PV.pickF rfl rfl) ?_
        refine WL.nilS ?_
        refine CW.condF rfl ?_
        refine CW.skipS ?_
        refine CW.reg ?_
        refine WL.pure rfl rfl rfl (PV.move rfl) ?_
        refine WL.pure rfl rfl rfl (PV.assign rfl) ?_
        refine WL.nil ?_
        refine NQ.block ?_
        refine NQ.then ?_
        refine CW.reg ?_
        refine WL.pure rfl rfl rfl (PV.add rfl rfl (by constructor <;> omega)) ?_
        refine WL.pure rfl rfl rfl (PV.move rfl) ?_
        refine WL.nil ?_
        refine NQ.next (ρ := [(12, _), (57, _)]) ⟨rfl, rfl, rfl, rfl, rfl, rfl, rfl, trivial⟩ ?_
        exact ⟨_, ⟨k + 1, _, rfl, rfl, hU0, (by first | omega | assumption | (simp_all; done) | (simp_all; omega)), (by omega)⟩, by omega⟩
      try simp only [decide_eq_true_eq, decide_eq_false_iff_not, Bool.not_eq_true', Bool.not_eq_false', Bool.not_eq_eq_eq_not, Bool.not_true, Bool.not_false, Int.not_lt, Int.not_le, Classical.not_not, beq_iff_eq, beq_eq_false_iff_ne] at hc64
      refine WL.pureG rfl rfl rfl rfl rfl (PV.move rfl) ?_
      refine WL.pureG rfl rfl rfl rfl rfl (PV.neq rfl rfl) ?_
      refine WL.pureG rfl rfl rfl rfl rfl (PV.pickT rfl rfl) ?_
      refine WL.pure rfl rfl rfl (PV.pickF rfl rfl) ?_
      refine WL.nilS ?_
      refine CW.cond rfl (fun hc65 => ?_) (fun hc65 => ?_)
      · skip
        try simp only [decide_eq_true_eq, decide_eq_false_iff_not, Bool.not_eq_true', Bool.not_eq_false', Bool.not_eq_eq_eq_not, Bool.not_true, Bool.not_false, Int.not_lt, Int.not_le, Classical.not_not, beq_iff_eq, beq_eq_false_iff_ne] at hc65
        refine CW.seq ?_
        refine CW.reg ?_
        refine WL.pure rfl rfl rfl (PV.assign rfl) ?_
        refine WL.nilS ?_
        refine CW.ret ?_
        refine RQ.then ?_
        refine RQ.block ?_
        refine RQ.then ?_
        refine RQ.then ?_
        refine RQ.block ?_
        refine RQ.then ?_
        refine RQ.r1 rfl ?_
        refine ⟨?_, hB⟩
        first | rfl | (exfalso; omega) | (exfalso; simp only [ne_eq, decide_eq_decide] at *; omega) | (exfalso; rw [hok] at *; contradiction)
      try simp only [decide_eq_true_eq, decide_eq_false_iff_not, Bool.not_eq_true', Bool.not_eq_false', Bool.not_eq_eq_eq_not, Bool.not_true, Bool.not_false, Int.not_lt, Int.not_le, Classical.not_not, beq_iff_eq, beq_eq_false_iff_ne] at hc65
      refine CW.skipS ?_
      refine CW.reg ?_
      refine WL.pure rfl rfl rfl (PV.move rfl) ?_
      refine WL.pure rfl rfl rfl (PV.assign rfl) ?_
      refine WL.nil ?_
      refine NQ.block ?_
      refine NQ.then ?_
      refine CW.reg ?_
      refine WL.pure rfl rfl rfl (PV.add rfl rfl (by constructor <;> omega)) ?_
      refine WL.pure rfl rfl rfl (PV.move rfl) ?_
      refine WL.nil ?_
      refine NQ.next (ρ := [(12, _), (57, _)]) ⟨rfl, rfl, rfl, rfl, rfl, rfl, rfl, trivial⟩ ?_
      exact ⟨_, ⟨k + 1, _, rfl, rfl, hU0, (by first | omega | assumption | (simp_all; done) | (simp_all; omega)), (by omega)⟩, by omega⟩
    try simp only [decide_eq_true_eq, decide_eq_false_iff_not, Bool.not_eq_true', Bool.not_eq_false', Bool.not_eq_eq_eq_not, Bool.not_true, Bool.not_false, Int.not_lt, Int.not_le, Classical.not_not, beq_iff_eq, beq_eq_false_iff_ne] at hc48
    refine CW.skipS ?_
    refine CW.seq ?_
    refine CW.seq ?_
    refine CW.reg ?_
    refine WL.pure rfl rfl rfl (PV.move rfl) ?_
    refine WL.pure rfl rfl rfl (PV.move rfl) ?_
    first
      | refine WL.atO (x := .tmp 114) (y := .tmp 115) (f := VI) (0) rfl rfl ho4 (by first | omega | (simp; omega) | (simp_all; omega)) (fun p29 hpp29 hcp29 => ?_)
      | refine WL.atOZ (x := .tmp 114) (y := .tmp 115) (f := VI) (0) rfl rfl ho4 (by first | omega | (simp; omega) | (simp_all; omega)) (fun p29 hpp29 hzp29 hcp29 => ?_)
    refine WL.pure rfl rfl rfl ((by first | exact PV.indexAddr hpp29 rfl rfl T.sl22 | exact PV.indexAddr hpp29 rfl (by rw [← hzp29]; rfl) T.sl22)) ?_
    refine WL.pure rfl rfl rfl ((by first | exact PV.load0 T.na2 rfl (by first | exact Cells.up (by assumption) hB | exact Bx.cells (by assumption) | assumption) (Ext.refl _) rfl | exact PV.load1 T.na2 rfl (by first | exact Cells.up (by assumption) hB | exact Bx.cells (by assumption) | assumption) (Ext.refl _) rfl)) ?_
    refine WL.pure rfl rfl rfl (PV.eql rfl rfl) ?_
    refine WL.pure rfl rfl rfl (PV.move rfl) ?_
    refine WL.split (t := 119) rfl (fun hc66 => ?_) (fun hc66 => ?_)
    rotate_left
    · skip
      try simp only [decide_eq_true_eq, decide_eq_false_iff_not, Bool.not_eq_true', Bool.not_eq_false', Bool.not_eq_eq_eq_not, Bool.not_true, Bool.not_false, Int.not_lt, Int.not_le, Classical.not_not, beq_iff_eq, beq_eq_false_iff_ne] at hc66
      refine WL.skip rfl rfl rfl rfl rfl ?_
      refine WL.skip rfl rfl rfl rfl rfl ?_
      refine WL.pure rfl rfl rfl (PV.pickF rfl rfl) ?_
      refine WL.nilS ?_
      refine CW.condF rfl ?_
      refine CW.skipS ?_
      refine CW.seq ?_
      refine CW.seq ?_
      refine CW.reg ?_
      refine WL.pure rfl rfl rfl (PV.move rfl) ?_
      refine WL.pure rfl rfl rfl (PV.move rfl) ?_
      first
        | refine WL.atO (x := .tmp 125) (y := .tmp 126) (f := VI) (0) rfl rfl ho7 (by first | omega | (simp; omega) | (simp_all; omega)) (fun p30 hpp30 hcp30 => ?_)
        | refine WL.atOZ (x := .tmp 125) (y := .tmp 126) (f := VI) (0) rfl rfl ho7 (by first | omega | (simp; omega) | (simp_all; omega)) (fun p30 hpp30 hzp30 hcp30 => ?_)
      refine WL.pure rfl rfl rfl ((by first | exact PV.indexAddr hpp30 rfl rfl T.sl22 | exact PV.indexAddr hpp30 rfl (by rw [← hzp30]; rfl) T.sl22)) ?_
      refine WL.pure rfl rfl rfl ((by first | exact PV.load0 T.na2 rfl (by first | exact Cells.up (by assumption) hB | exact Bx.cells (by assumption) | assumption) (Ext.refl _) rfl | exact PV.load1 T.na2 rfl (by first | exact Cells.up (by assumption) hB | exact Bx.cells (by assumption) | assumption) (Ext.refl _) rfl)) ?_
      refine WL.pure rfl rfl rfl (PV.move rfl) ?_
      refine WL.pure rfl rfl rfl (PV.neq rfl rfl) ?_
      refine WL.pure rfl rfl rfl (PV.move rfl) ?_
      refine WL.split (t := 131) rfl (fun hc67 => ?_) (fun hc67 => ?_)
      · skip
        try simp only [decide_eq_true_eq, decide_eq_false_iff_not, Bool.not_eq_true', Bool.not_eq_false', Bool.not_eq_eq_eq_not, Bool.not_true, Bool.not_false, Int.not_lt, Int.not_le, Classical.not_not, beq_iff_eq, beq_eq_false_iff_ne] at hc67
        refine WL.skip rfl rfl rfl rfl rfl ?_
        refine WL.skip rfl rfl rfl rfl rfl ?_
        refine WL.pure rfl rfl rfl (PV.pickT rfl rfl) ?_
        refine WL.pure rfl rfl rfl (PV.move rfl) ?_
        refine WL.skip rfl rfl rfl rfl rfl ?_
        refine WL.skip rfl rfl rfl rfl rfl ?_
        refine WL.skip rfl rfl rfl rfl rfl ?_
        refine WL.skip rfl rfl rfl rfl rfl ?_
        refine WL.skip rfl rfl rfl rfl rfl ?_
        refine WL.skip rfl rfl rfl rfl rfl ?_
        refine WL.skipU rfl rfl rfl rfl rfl ?_
        refine WL.skipU rfl rfl rfl rfl rfl ?_
        refine WL.skip rfl rfl rfl rfl rfl ?_
        refine WL.skip rfl rfl rfl rfl rfl ?_
        refine WL.skipU rfl rfl rfl rfl rfl ?_
        refine WL.skipU rfl rfl rfl rfl rfl ?_
        refine WL.skip rfl rfl rfl rfl rfl ?_
        refine WL.pure rfl rfl rfl (PV.pickT rfl rfl) ?_
        refine WL.nilS ?_
        refine CW.condT rfl ?_
        refine CW.seq ?_
        refine CW.reg ?_
        refine WL.pure rfl rfl rfl (PV.assign rfl) ?_
        refine WL.nilS ?_
        refine CW.ret ?_
        refine RQ.then ?_
        refine RQ.block ?_
        refine RQ.then ?_
        refine RQ.then ?_
        refine RQ.block ?_
        refine RQ.then ?_
        refine RQ.r1 rfl ?_
        refine ⟨?_, hB⟩
        first | rfl | (exfalso; omega) | (exfalso; simp only [ne_eq, decide_eq_decide] at *; omega) | (exfalso; rw [hok] at *; contradiction)
      try simp only [decide_eq_true_eq, decide_eq_false_iff_not, Bool.not_eq_true', Bool.not_eq_false', Bool.not_eq_eq_eq_not, Bool.not_true, Bool.not_false, Int.not_lt, Int.not_le, Classical.not_not, beq_iff_eq, beq_eq_false_iff_ne] at hc67
      refine WL.pureG rfl rfl rfl rfl rfl (PV.move rfl) ?_
      refine WL.pureG rfl rfl rfl rfl rfl (PV.lss rfl rfl) ?_
      refine WL.pure rfl rfl rfl (PV.pickF rfl rfl) ?_
      refine WL.pure rfl rfl rfl (PV.move rfl) ?_
      refine WL.split (t := 135) rfl (fun hc68 => ?_) (fun hc68 => ?_)
      · skip
        try simp only [decide_eq_true_eq, decide_eq_false_iff_not, Bool.not_eq_true', Bool.not_eq_false', Bool.not_eq_eq_eq_not, Bool.not_true, Bool.not_false, Int.not_lt, Int.not_le, Classical.not_not, beq_iff_eq, beq_eq_false_iff_ne] at hc68
        refine WL.skip rfl rfl rfl rfl rfl ?_
        refine WL.skip rfl rfl rfl rfl rfl ?_
        refine WL.skip rfl rfl rfl rfl rfl ?_
        refine WL.skip rfl rfl rfl rfl rfl ?_
        refine WL.skip rfl rfl rfl rfl rfl ?_
        refine WL.skip rfl rfl rfl rfl rfl ?_
        refine WL.skipU rfl rfl rfl rfl rfl ?_
        refine WL.skipU rfl rfl rfl rfl rfl ?_
        refine WL.skip rfl rfl rfl rfl rfl ?_
        refine WL.skip rfl rfl rfl rfl rfl ?_
        refine WL.skipU rfl rfl rfl rfl rfl ?_
        refine WL.skipU rfl rfl rfl rfl rfl ?_
        refine WL.skip rfl rfl rfl rfl rfl ?_
        refine WL.pure rfl rfl rfl (PV.pickT rfl rfl) ?_
        refine WL.nilS ?_
        refine CW.condT rfl ?_
        refine CW.seq ?_
        refine CW.reg ?_
        refine WL.pure rfl rfl rfl (PV.assign rfl) ?_
        refine WL.nilS ?_
        refine CW.ret ?_
        refine RQ.then ?_
        refine RQ.block ?_
        refine RQ.then ?_
        refine RQ.then ?_
        refine RQ.block ?_
        refine RQ.then ?_
        refine RQ.r1 rfl ?_
        refine ⟨?_, hB⟩
        first | rfl | (exfalso; omega) | (exfalso; simp only [ne_eq, decide_eq_decide] at *; omega) | (exfalso; rw [hok] at *; contradiction)
      try simp only [decide_eq_true_eq, decide_eq_false_iff_not, Bool.not_eq_true', Bool.not_eq_false', Bool.not_eq_eq_eq_not, Bool.not_true, Bool.not_false, Int.not_lt, Int.not_le, Classical.not_not, beq_iff_eq, beq_eq_false_iff_ne] at hc68
      refine WL.pureG rfl rfl rfl rfl rfl (PV.move rfl) ?_
      refine WL.pureG rfl rfl rfl rfl rfl (PV.move rfl) ?_
      first
        | refine WL.atO (x := .tmp 136) (y := .tmp 137) (f := VI) (0) rfl rfl ho4 (by first | omega | (simp; omega) | (simp_all; omega)) (fun p31 hpp31 hcp31 => ?_)
        | refine WL.atOZ (x := .tmp 136) (y := .tmp 137) (f := VI) (0) rfl rfl ho4 (by first | omega | (simp; omega) | (simp_all; omega)) (fun p31 hpp31 hzp31 hcp31 => ?_)
      refine WL.pureG rfl rfl rfl rfl rfl ((by first | exact PV.indexAddr hpp31 rfl rfl T.sl22 | exact PV.indexAddr hpp31 rfl (by rw [← hzp31]; rfl) T.sl22)) ?_
      refine WL.pureG rfl rfl rfl rfl rfl ((by first | exact PV.load0 T.na2 rfl (by first | exact Cells.up (by assumption) hB | exact Bx.cells (by assumption) | assumption) (Ext.refl _) rfl | exact PV.load1 T.na2 rfl (by first | exact Cells.up (by assumption) hB | exact Bx.cells (by assumption) | assumption) (Ext.refl _) rfl)) ?_
      refine WL.pureG rfl rfl rfl rfl rfl (PV.eql rfl rfl) ?_
      refine WL.pureG rfl rfl rfl rfl rfl (PV.move rfl) ?_
      refine WL.split (t := 141) rfl (fun hc69 => ?_) (fun hc69 => ?_)
      rotate_left
      · skip
        try simp only [decide_eq_true_eq, decide_eq_false_iff_not, Bool.not_eq_true', Bool.not_eq_false', Bool.not_eq_eq_eq_not, Bool.not_true, Bool.not_false, Int.not_lt, Int.not_le, Classical.not_not, beq_iff_eq, beq_eq_false_iff_ne] at hc69
        refine WL.skip rfl rfl rfl rfl rfl ?_
        refine WL.skip rfl rfl rfl rfl rfl ?_
        refine WL.pureG rfl rfl rfl rfl rfl (PV.pickF rfl rfl) ?_
        refine WL.pureG rfl rfl rfl rfl rfl (PV.move rfl) ?_
        refine WL.skip rfl rfl rfl rfl rfl ?_
        refine WL.skip rfl rfl rfl rfl rfl ?_
        refine WL.pureG rfl rfl rfl rfl rfl (PV.pickF rfl rfl) ?_
        refine WL.pure rfl rfl rfl (PV.pickF rfl rfl) ?_
        refine WL.nilS ?_
        refine CW.condF rfl ?_
        refine CW.skipS ?_
        refine CW.reg ?_
        refine WL.pure rfl rfl rfl (PV.move rfl) ?_
        refine WL.pure rfl rfl rfl (PV.assign rfl) ?_
        refine WL.nil ?_
        refine NQ.block ?_
        refine NQ.then ?_
        refine CW.reg ?_
        refine WL.pure rfl rfl rfl (PV.add rfl rfl (by constructor <;> omega)) ?_
        refine WL.pure rfl rfl rfl (PV.move rfl) ?_
        refine WL.nil ?_
        refine NQ.next (ρ := [(12, _), (57, _)]) ⟨rfl, rfl, rfl, rfl, rfl, rfl, rfl, trivial⟩ ?_
        exact ⟨_, ⟨k + 1, _, rfl, rfl, hU0, (by first | omega | assumption | (simp_all; done) | (simp_all; omega)), (by omega)⟩, by omega⟩
      try simp only [decide_eq_true_eq, decide_eq_false_iff_not, Bool.not_eq_true', Bool.not_eq_false', Bool.not_eq_eq_eq_not, Bool.not_true, Bool.not_false, Int.not_lt, Int.not_le, Classical.not_not, beq_iff_eq, beq_eq_false_iff_ne] at hc69
      refine WL.pureG rfl rfl rfl rfl rfl (PV.move rfl) ?_
      refine WL.pureG rfl rfl rfl rfl rfl (PV.eql rfl rfl) ?_
      refine WL.pureG rfl rfl rfl rfl rfl (PV.pickT rfl rfl) ?_
      refine WL.pureG rfl rfl rfl rfl rfl (PV.move rfl) ?_
      refine WL.split (t := 145) rfl (fun hc70 => ?_) (fun hc70 => ?_)
      rotate_left
      · skip
        try simp only [decide_eq_true_eq, decide_eq_false_iff_not, Bool.not_eq_true', Bool.not_eq_false', Bool.not_eq_eq_eq_not, Bool.not_true, Bool.not_false, Int.not_lt, Int.not_le, Classical.not_not, beq_iff_eq, beq_eq_false_iff_ne] at hc70
        refine WL.skip rfl rfl rfl rfl rfl ?_
        refine WL.skip rfl rfl rfl rfl rfl ?_
        refine WL.pureG rfl rfl rfl rfl rfl (PV.pickF rfl rfl) ?_
        refine WL.pure rfl rfl rfl (PV.pickF rfl rfl) ?_
        refine WL.nilS ?_
        refine CW.condF rfl ?_
        refine CW.skipS ?_
        refine CW.reg ?_
        refine WL.pure rfl rfl rfl (PV.move rfl) ?_
        refine WL.pure rfl rfl rfl (PV.assign rfl) ?_
        refine WL.nil ?_
        refine NQ.block ?_
        refine NQ.then ?_
        refine CW.reg ?_
        refine WL.pure rfl rfl rfl (PV.add rfl rfl (by constructor <;> omega)) ?_
        refine WL.pure rfl rfl rfl (PV.move rfl) ?_
        refine WL.nil ?_
        refine NQ.next (ρ := [(12, _), (57, _)]) ⟨rfl, rfl, rfl, rfl, rfl, rfl, rfl, trivial⟩ ?_
        exact ⟨_, ⟨k + 1, _, rfl, rfl, hU0, (by first | omega | assumption | (simp_all; done) | (simp_all; omega)), (by omega)⟩, by omega⟩
      try simp only [decide_eq_true_eq, decide_eq_false_iff_not, Bool.not_eq_true', Bool.not_eq_false', Bool.not_eq_eq_eq_not, Bool.not_true, Bool.not_false, Int.not_lt, Int.not_le, Classical.not_not, beq_iff_eq, beq_eq_false_iff_ne] at hc70
      refine WL.pureG rfl rfl rfl rfl rfl (PV.move rfl) ?_
      refine WL.pureG rfl rfl rfl rfl rfl (PV.neq rfl rfl) ?_
      refine WL.pureG rfl rfl rfl rfl rfl (PV.pickT rfl rfl) ?_
      refine WL.pure rfl rfl rfl (PV.pickF rfl rfl) ?_
      refine WL.nilS ?_
      refine CW.cond rfl (fun hc71 => ?_) (fun hc71 => ?_)
      · skip
        try simp only [decide_eq_true_eq, decide_eq_false_iff_not, Bool.not_eq_true', Bool.not_eq_false', Bool.not_eq_eq_eq_not, Bool.not_true, Bool.not_false, Int.not_lt, Int.not_le, Classical.not_not, beq_iff_eq, beq_eq_false_iff_ne] at hc71
        refine CW.seq ?_
        refine CW.reg ?_
        refine WL.pure rfl rfl rfl (PV.assign rfl) ?_
        refine WL.nilS ?_
        refine CW.ret ?_
        refine RQ.then ?_
        refine RQ.block ?_
        refine RQ.then ?_
        refine RQ.then ?_
        refine RQ.block ?_
        refine RQ.then ?_
        refine RQ.r1 rfl ?_
        refine ⟨?_, hB⟩
        first | rfl | (exfalso; omega) | (exfalso; simp only [ne_eq, decide_eq_decide] at *; omega) | (exfalso; rw [hok] at *; contradiction)
      try simp only [decide_eq_true_eq, decide_eq_false_iff_not, Bool.not_eq_true', Bool.not_eq_false', Bool.not_eq_eq_eq_not, Bool.not_true, Bool.not_false, Int.not_lt, Int.not_le, Classical.not_not, beq_iff_eq, beq_eq_false_iff_ne] at hc71
      refine CW.skipS ?_
      refine CW.reg ?_
      refine WL.pure rfl rfl rfl (PV.move rfl) ?_
      refine WL.pure rfl rfl rfl (PV.assign rfl) ?_
      refine WL.nil ?_
      refine NQ.block ?_
      refine NQ.then ?_
      refine CW.reg ?_
      refine WL.pure rfl rfl rfl (PV.add rfl rfl (by constructor <;> omega)) ?_
      refine WL.pure rfl rfl rfl (PV.move rfl) ?_
      refine WL.nil ?_
      refine NQ.next (ρ := [(12, _), (57, _)]) ⟨rfl, rfl, rfl, rfl, rfl, rfl, rfl, trivial⟩ ?_
      exact ⟨_, ⟨k + 1, _, rfl, rfl, hU0, (by first | omega | assumption | (simp_all; done) | (simp_all; omega)), (by omega)⟩, by omega⟩
    try simp only [decide_eq_true_eq, decide_eq_false_iff_not, Bool.not_eq_true', Bool.not_eq_false', Bool.not_eq_eq_eq_not, Bool.not_true, Bool.not_false, Int.not_lt, Int.not_le, Classical.not_not, beq_iff_eq, beq_eq_false_iff_ne] at hc66
    refine WL.pureG rfl rfl rfl rfl rfl (PV.move rfl) ?_
    refine WL.pureG rfl rfl rfl rfl rfl (PV.neq rfl rfl) ?_
    refine WL.pure rfl rfl rfl (PV.pickT rfl rfl) ?_
    refine WL.nilS ?_
    refine CW.cond rfl (fun hc72 => ?_) (fun hc72 => ?_)
    · skip
      try simp only [decide_eq_true_eq, decide_eq_false_iff_not, Bool.not_eq_true', Bool.not_eq_false', Bool.not_eq_eq_eq_not, Bool.not_true, Bool.not_false, Int.not_lt, Int.not_le, Classical.not_not, beq_iff_eq, beq_eq_false_iff_ne] at hc72
      refine CW.reg ?_
      refine WL.pure rfl rfl rfl (PV.move rfl) ?_
      refine WL.pure rfl rfl rfl (PV.sub rfl rfl (by constructor <;> omega)) ?_
      refine WL.pure rfl rfl rfl (PV.assign rfl) ?_
      refine WL.nilS ?_
      refine CW.seq ?_
      refine CW.seq ?_
      refine CW.reg ?_
      refine WL.pure rfl rfl rfl (PV.move rfl) ?_
      refine WL.pure rfl rfl rfl (PV.move rfl) ?_
      first
        | refine WL.atO (x := .tmp 125) (y := .tmp 126) (f := VI) (0) rfl rfl ho7 (by first | omega | (simp; omega) | (simp_all; omega)) (fun p32 hpp32 hcp32 => ?_)
        | refine WL.atOZ (x := .tmp 125) (y := .tmp 126) (f := VI) (0) rfl rfl ho7 (by first | omega | (simp; omega) | (simp_all; omega)) (fun p32 hpp32 hzp32 hcp32 => ?_)
      refine WL.pure rfl rfl rfl ((by first | exact PV.indexAddr hpp32 rfl rfl T.sl22 | exact PV.indexAddr hpp32 rfl (by rw [← hzp32]; rfl) T.sl22)) ?_
      refine WL.pure rfl rfl rfl ((by first | exact PV.load0 T.na2 rfl (by first | exact Cells.up (by assumption) hB | exact Bx.cells (by assumption) | assumption) (Ext.refl _) rfl | exact PV.load1 T.na2 rfl (by first | exact Cells.up (by assumption) hB | exact Bx.cells (by assumption) | assumption) (Ext.refl _) rfl)) ?_
      refine WL.pure rfl rfl rfl (PV.move rfl) ?_
      refine WL.pure rfl rfl rfl (PV.neq rfl rfl) ?_
      refine WL.pure rfl rfl rfl (PV.move rfl) ?_
      refine WL.split (t := 131) rfl (fun hc73 => ?_) (fun hc73 => ?_)
      · skip
        try simp only [decide_eq_true_eq, decide_eq_false_iff_not, Bool.not_eq_true', Bool.not_eq_false', Bool.not_eq_eq_eq_not, Bool.not_true, Bool.not_false, Int.not_lt, Int.not_le, Classical.not_not, beq_iff_eq, beq_eq_false_iff_ne] at hc73
        refine WL.skip rfl rfl rfl rfl rfl ?_
        refine WL.skip rfl rfl rfl rfl rfl ?_
        refine WL.pure rfl rfl rfl (PV.pickT rfl rfl) ?_
        refine WL.pure rfl rfl rfl (PV.move rfl) ?_
        refine WL.skip rfl rfl rfl rfl rfl ?_
        refine WL.skip rfl rfl rfl rfl rfl ?_
        refine WL.skip rfl rfl rfl rfl rfl ?_
        refine WL.skip rfl rfl rfl rfl rfl ?_
        refine WL.skip rfl rfl rfl rfl rfl ?_
        refine WL.skip rfl rfl rfl rfl rfl ?_
        refine WL.skipU rfl rfl rfl rfl rfl ?_
        refine WL.skipU rfl rfl rfl rfl rfl ?_
        refine WL.skip rfl rfl rfl rfl rfl ?_
        refine WL.skip rfl rfl rfl rfl rfl ?_
        refine WL.skipU rfl rfl rfl rfl rfl ?_
        refine WL.skipU rfl rfl rfl rfl rfl ?_
        refine WL.skip rfl rfl rfl rfl rfl ?_
        refine WL.pure rfl rfl rfl (PV.pickT rfl rfl) ?_
        refine WL.nilS ?_
        refine CW.condT rfl ?_
        refine CW.seq ?_
        refine CW.reg ?_
        refine WL.pure rfl rfl rfl (PV.assign rfl) ?_
        refine WL.nilS ?_
        refine CW.ret ?_
        refine RQ.then ?_
        refine RQ.block ?_
        refine RQ.then ?_
        refine RQ.then ?_
        refine RQ.block ?_
        refine RQ.then ?_
        refine RQ.r1 rfl ?_
        refine ⟨?_, hB⟩
        first | rfl | (exfalso; omega) | (exfalso; simp only [ne_eq, decide_eq_decide] at *; omega) | (exfalso; rw [hok] at *; contradiction)
      try simp only [decide_eq_true_eq, decide_eq_false_iff_not, Bool.not_eq_true', Bool.not_eq_false', Bool.not_eq_eq_eq_not, Bool.not_true, Bool.not_false, Int.not_lt, Int.not_le, Classical.not_not, beq_iff_eq, beq_eq_false_iff_ne] at hc73
      refine WL.pureG rfl rfl rfl rfl rfl (PV.move rfl) ?_
      refine WL.pureG rfl rfl rfl rfl rfl (PV.lss rfl rfl) ?_
      refine WL.pure rfl rfl rfl (PV.pickF rfl rfl) ?_
      refine WL.pure rfl rfl rfl (PV.move rfl) ?_
      refine WL.split (t := 135) rfl (fun hc74 => ?_) (fun hc74 => ?_)
      · skip
        try simp only [decide_eq_true_eq, decide_eq_false_iff_not, Bool.not_eq_true', Bool.not_eq_false', Bool.not_eq_eq_eq_not, Bool.not_true, Bool.not_false, Int.not_lt, Int.not_le, Classical.not_not, beq_iff_eq, beq_eq_false_iff_ne] at hc74
        refine WL.skip rfl rfl rfl rfl rfl ?_
        refine WL.skip rfl rfl rfl rfl rfl ?_
        refine WL.skip rfl rfl rfl rfl rfl ?_
        refine WL.skip rfl rfl rfl rfl rfl ?_
        refine WL.skip rfl rfl rfl rfl rfl ?_
        refine WL.skip rfl rfl rfl rfl rfl ?_
        refine WL.skipU rfl rfl rfl rfl rfl ?_
        refine WL.skipU rfl rfl rfl rfl rfl ?_
        refine WL.skip rfl rfl rfl rfl rfl ?_
        refine WL.skip rfl rfl rfl rfl rfl ?_
        refine WL.skipU rfl rfl rfl rfl rfl ?_
        refine WL.skipU rfl rfl rfl rfl rfl ?_
        refine WL.skip rfl rfl rfl rfl rfl ?_
        refine WL.pure rfl rfl rfl (PV.pickT rfl rfl) ?_
        refine WL.nilS ?_
        refine CW.condT rfl ?_
        refine CW.seq ?_
        refine CW.reg ?_
        refine WL.pure rfl rfl rfl (PV.assign rfl) ?_
        refine WL.nilS ?_
        refine CW.ret ?_
        refine RQ.then ?_
        refine RQ.block ?_
        refine RQ.then ?_
        refine RQ.then ?_
        refine RQ.block ?_
        refine RQ.then ?_
        refine RQ.r1 rfl ?_
        refine ⟨?_, hB⟩
        first | rfl | (exfalso; omega) | (exfalso; simp only [ne_eq, decide_eq_decide] at *; omega) | (exfalso; rw [hok] at *; contradiction)
      try simp only [decide_eq_true_eq, decide_eq_false_iff_not, Bool.not_eq_true', Bool.not_eq_false', Bool.not_eq_eq_eq_not, Bool.not_true, Bool.not_false, Int.not_lt, Int.not_le, Classical.not_not, beq_iff_eq, beq_eq_false_iff_ne] at hc74
      refine WL.pureG rfl rfl rfl rfl rfl (PV.move rfl) ?_
      refine WL.pureG rfl rfl rfl rfl rfl (PV.move rfl) ?_
      first
        | refine WL.atO (x := .tmp 136) (y := .tmp 137) (f := VI) (0) rfl rfl ho4 (by first | omega | (simp; omega) | (simp_all; omega)) (fun p33 hpp33 hcp33 => ?_)
        | refine WL.atOZ (x := .tmp 136) (y := .tmp 137) (f := VI) (0) rfl rfl ho4 (by first | omega | (simp; omega) | (simp_all; omega)) (fun p33 hpp33 hzp33 hcp33 => ?_)
      refine WL.pureG rfl rfl rfl rfl rfl ((by first | exact PV.indexAddr hpp33 rfl rfl T.sl22 | exact PV.indexAddr hpp33 rfl (by rw [← hzp33]; rfl) T.sl22)) ?_
      refine WL.pureG rfl rfl rfl rfl rfl ((by first | exact PV.load0 T.na2 rfl (by first | exact Cells.up (by assumption) hB | exact Bx.cells (by assumption) | assumption) (Ext.refl _) rfl | exact PV.load1 T.na2 rfl (by first | exact Cells.up (by assumption) hB | exact Bx.cells (by assumption) | assumption) (Ext.refl _) rfl)) ?_
      refine WL.pureG rfl rfl rfl rfl rfl (PV.eql rfl rfl) ?_
      refine WL.pureG rfl rfl rfl rfl rfl (PV.move rfl) ?_
      refine WL.split (t := 141) rfl (fun hc75 => ?_) (fun hc75 => ?_)
      rotate_left
      · skip
        try simp only [decide_eq_true_eq, decide_eq_false_iff_not, Bool.not_eq_true', Bool.not_eq_false', Bool.not_eq_eq_eq_not, Bool.not_true, Bool.not_false, Int.not_lt, Int.not_le, Classical.not_not, beq_iff_eq, beq_eq_false_iff_ne] at hc75
        refine WL.skip rfl rfl rfl rfl rfl ?_
        refine WL.skip rfl rfl rfl rfl rfl ?_
        refine WL.pureG rfl rfl rfl rfl rfl (PV.pickF rfl rfl) ?_
        refine WL.pureG rfl rfl rfl rfl rfl (PV.move rfl) ?_
        refine WL.skip rfl rfl rfl rfl rfl ?_
        refine WL.skip rfl rfl rfl rfl rfl ?_
        refine WL.pureG rfl rfl rfl rfl rfl (PV.pickF rfl rfl) ?_
        refine WL.pure rfl rfl rfl (PV.pickF rfl rfl) ?_
        refine WL.nilS ?_
        refine CW.condF rfl ?_
        refine CW.skipS ?_
        refine CW.reg ?_
        refine WL.pure rfl rfl rfl (PV.move rfl) ?_
        refine WL.pure rfl rfl rfl (PV.assign rfl) ?_
        refine WL.nil ?_
        refine NQ.block ?_
        refine NQ.then ?_
        refine CW.reg ?_
        refine WL.pure rfl rfl rfl (PV.add rfl rfl (by constructor <;> omega)) ?_
        refine WL.pure rfl rfl rfl (PV.move rfl) ?_
        refine WL.nil ?_
        refine NQ.next (ρ := [(12, _), (57, _)]) ⟨rfl, rfl, rfl, rfl, rfl, rfl, rfl, trivial⟩ ?_
        exact ⟨_, ⟨k + 1, _, rfl, rfl, hU0, (by first | omega | assumption | (simp_all; done) | (simp_all; omega)), (by omega)⟩, by omega⟩
      try simp only [decide_eq_true_eq, decide_eq_false_iff_not, Bool.not_eq_true', Bool.not_eq_false', Bool.not_eq_eq_eq_not, Bool.not_true, Bool.not_false, Int.not_lt, Int.not_le, Classical.not_not, beq_iff_eq, beq_eq_false_iff_ne] at hc75
      refine WL.pureG rfl rfl rfl rfl rfl (PV.move rfl) ?_
      refine WL.pureG rfl rfl rfl rfl rfl (PV.eql rfl rfl) ?_
      refine WL.pureG rfl rfl rfl rfl rfl (PV.pickT rfl rfl) ?_
      refine WL.pureG rfl rfl rfl rfl rfl (PV.move rfl) ?_
      refine WL.split (t := 145) rfl (fun hc76 => ?_) (fun hc76 => ?_)
      rotate_left
      · skip
        try simp only [decide_eq_true_eq, decide_eq_false_iff_not, Bool.not_eq_true', Bool.not_eq_false', Bool.not_eq_eq_eq_not, Bool.not_true, Bool.not_false, Int.not_lt, Int.not_le, Classical.not_not, beq_iff_eq, beq_eq_false_iff_ne] at hc76
        refine WL.skip rfl rfl rfl rfl rfl ?_
        refine WL.skip rfl rfl rfl rfl rfl ?_
        refine WL.pureG rfl rfl rfl rfl rfl (PV.pickF rfl rfl) ?_
        refine WL.pure rfl rfl rfl (PV.pickF rfl rfl) ?_
        refine WL.nilS ?_
        refine CW.condF rfl ?_
        refine CW.skipS ?_
        refine CW.reg ?_
        refine WL.pure rfl rfl rfl (PV.move rfl) ?_
        refine WL.pure rfl rfl rfl (PV.assign rfl) ?_
        refine WL.nil ?_
        refine NQ.block ?_
        refine NQ.then ?_
        refine CW.reg ?_
        refine WL.pure rfl rfl rfl (PV.add rfl rfl (by constructor <;> omega)) ?_
        refine WL.pure rfl rfl rfl (PV.move rfl) ?_
        refine WL.nil ?_
        refine NQ.next (ρ := [(12, _), (57, _)]) ⟨rfl, rfl, rfl, rfl, rfl, rfl, rfl, trivial⟩ ?_
        exact ⟨_, ⟨k + 1, _, rfl, rfl, hU0, (by first | omega | assumption | (simp_all; done) | (simp_all; omega)), (by omega)⟩, by omega⟩
      try simp only [decide_eq_true_eq, decide_eq_false_iff_not, Bool.not_eq_true', Bool.not_eq_false', Bool.not_eq_eq_eq_not, Bool.not_true, Bool.not_false, Int.not_lt, Int.not_le, Classical.not_not, beq_iff_eq, beq_eq_false_iff_ne] at hc76
      refine WL.pureG rfl rfl rfl rfl rfl (PV.move rfl) ?_
      refine WL.pureG rfl rfl rfl rfl rfl (PV.neq rfl rfl) ?_
      refine WL.pureG rfl rfl rfl rfl rfl (PV.pickT rfl rfl) ?_
      refine WL.pure rfl rfl rfl (PV.pickF rfl rfl) ?_
      refine WL.nilS ?_
      refine CW.cond rfl (fun hc77 => ?_) (fun hc77 => ?_)
      · skip
        try simp only [decide_eq_true_eq, decide_eq_false_iff_not, Bool.not_eq_true', Bool.not_eq_false', Bool.not_eq_eq_eq_not, Bool.not_true, Bool.not_false, Int.not_lt, Int.not_le, Classical.not_not, beq_iff_eq, beq_eq_false_iff_ne] at hc77
        refine CW.seq ?_
        refine CW.reg ?_
        refine WL.pure rfl rfl rfl (PV.assign rfl) ?_
        refine WL.nilS ?_
        refine CW.ret ?_
        refine RQ.then ?_
        refine RQ.block ?_
        refine RQ.then ?_
        refine RQ.then ?_
        refine RQ.block ?_
        refine RQ.then ?_
        refine RQ.r1 rfl ?_
        refine ⟨?_, hB⟩
        first | rfl | (exfalso; omega) | (exfalso; simp only [ne_eq, decide_eq_decide] at *; omega) | (exfalso; rw [hok] at *; contradiction)
      try simp only [decide_eq_true_eq, decide_eq_false_iff_not, Bool.not_eq_true', Bool.not_eq_false', Bool.not_eq_eq_eq_not, Bool.not_true, Bool.not_false, Int.not_lt, Int.not_le, Classical.not_not, beq_iff_eq, beq_eq_false_iff_ne] at hc77
      refine CW.skipS ?_
      refine CW.reg ?_
      refine WL.pure rfl rfl rfl (PV.move rfl) ?_
      refine WL.pure rfl rfl rfl (PV.assign rfl) ?_
      refine WL.nil ?_
      refine NQ.block ?_
      refine NQ.then ?_
      refine CW.reg ?_
      refine WL.pure rfl rfl rfl (PV.add rfl rfl (by constructor <;> omega)) ?_
      refine WL.pure rfl rfl rfl (PV.move rfl) ?_
      refine WL.nil ?_
      refine NQ.next (ρ := [(12, _), (57, _)]) ⟨rfl, rfl, rfl, rfl, rfl, rfl, rfl, trivial⟩ ?_
      exact ⟨_, ⟨k + 1, _, rfl, rfl, hU0, (by first | omega | assumption | (simp_all; done) | (simp_all; omega)), (by omega)⟩, by omega⟩
    try simp only [decide_eq_true_eq, decide_eq_false_iff_not, Bool.not_eq_true', Bool.not_eq_false', Bool.not_eq_eq_eq_not, Bool.not_true, Bool.not_false, Int.not_lt, Int.not_le, Classical.not_not, beq_iff_eq, beq_eq_false_iff_ne] at hc72
    refine CW.skipS ?_
    refine CW.seq ?_
    refine CW.seq ?_
    refine CW.reg ?_
    refine WL.pure rfl rfl rfl (PV.move rfl) ?_
    refine WL.pure rfl rfl rfl (PV.move rfl) ?_
    first
      | refine WL.atO (x := .tmp 125) (y := .tmp 126) (f := VI) (0) rfl rfl ho7 (by first | omega | (simp; omega) | (simp_all; omega)) (fun p34 hpp34 hcp34 => ?_)
      | refine WL.atOZ (x := .tmp 125) (y := .tmp 126) (f := VI) (0) rfl rfl ho7 (by first | omega | (simp; omega) | (simp_all; omega)) (fun p34 hpp34 hzp34 hcp34 => ?_)
    refine WL.pure rfl rfl rfl ((by first | exact PV.indexAddr hpp34 rfl rfl T.sl22 | exact PV.indexAddr hpp34 rfl (by rw [← hzp34]; rfl) T.sl22)) ?_
    refine WL.pure rfl rfl rfl ((by first | exact PV.load0 T.na2 rfl (by first | exact Cells.up (by assumption) hB | exact Bx.cells (by assumption) | assumption) (Ext.refl _) rfl | exact PV.load1 T.na2 rfl (by first | exact Cells.up (by assumption) hB | exact Bx.cells (by assumption) | assumption) (Ext.refl _) rfl)) ?_
    refine WL.pure rfl rfl rfl (PV.move rfl) ?_
    refine WL.pure rfl rfl rfl (PV.neq rfl rfl) ?_
    refine WL.pure rfl rfl rfl (PV.move rfl) ?_
    refine WL.split (t := 131) rfl (fun hc78 => ?_) (fun hc78 => ?_)
    · skip
      try simp only [decide_eq_true_eq, decide_eq_false_iff_not, Bool.not_eq_true', Bool.not_eq_false', Bool.not_eq_eq_eq_not, Bool.not_true, Bool.not_false, Int.not_lt, Int.not_le, Classical.not_not, beq_iff_eq, beq_eq_false_iff_ne] at hc78
      refine WL.skip rfl rfl rfl rfl rfl ?_
      refine WL.skip rfl rfl rfl rfl rfl ?_
      refine WL.pure rfl rfl rfl (PV.pickT rfl rfl) ?_
      refine WL.pure rfl rfl rfl (PV.move rfl) ?_
      refine WL.skip rfl rfl rfl rfl rfl ?_
      refine WL.skip rfl rfl rfl rfl rfl ?_
      refine WL.skip rfl rfl rfl rfl rfl ?_
      refine WL.skip rfl rfl rfl rfl rfl ?_
      refine WL.skip rfl rfl rfl rfl rfl ?_
      refine WL.skip rfl rfl rfl rfl rfl ?_
      refine WL.skipU rfl rfl rfl rfl rfl ?_
      refine WL.skipU rfl rfl rfl rfl rfl ?_
      refine WL.skip rfl rfl rfl rfl rfl ?_
      refine WL.skip rfl rfl rfl rfl rfl ?_
      refine WL.skipU rfl rfl rfl rfl rfl ?_
      refine WL.skipU rfl rfl rfl rfl rfl ?_
      refine WL.skip rfl rfl rfl rfl rfl ?_
      refine WL.pure rfl rfl rfl (PV.pickT rfl rfl) ?_
      refine WL.nilS ?_
      refine CW.condT rfl ?_
      refine CW.seq ?_
      refine CW.reg ?_
      refine WL.pure rfl rfl rfl (PV.assign rfl) ?_
      refine WL.nilS ?_
      refine CW.ret ?_
      refine RQ.then ?_
      refine RQ.block ?_
      refine RQ.then ?_
      refine RQ.then ?_
      refine RQ.block ?_
      refine RQ.then ?_
      refine RQ.r1 rfl ?_
      refine ⟨?_, hB⟩
      first | rfl | (exfalso; omega) | (exfalso; simp only [ne_eq, decide_eq_decide] at *; omega) | (exfalso; rw [hok] at *; contradiction)
    try simp only [decide_eq_true_eq, decide_eq_false_iff_not, Bool.not_eq_true', Bool.not_eq_false', Bool.not_eq_eq_eq_not, Bool.not_true, Bool.not_false, Int.not_lt, Int.not_le, Classical.not_not, beq_iff_eq, beq_eq_false_iff_ne] at hc78
    refine WL.pureG rfl rfl rfl rfl rfl (PV.move rfl) ?_
    refine WL.pureG rfl rfl rfl rfl rfl (PV.lss rfl rfl) ?_
    refine WL.pure rfl rfl rfl (PV.pickF rfl rfl) ?_
    refine WL.pure rfl rfl rfl (PV.move rfl) ?_
    refine WL.split (t := 135) rfl (fun hc79 => ?_) (fun hc79 => ?_)
    · skip
      try simp only [decide_eq_true_eq, decide_eq_false_iff_not, Bool.not_eq_true', Bool.not_eq_false', Bool.not_eq_eq_eq_not, Bool.not_true, Bool.not_false, Int.not_lt, Int.not_le, Classical.not_not, beq_iff_eq, beq_eq_false_iff_ne] at hc79
      refine WL.skip rfl rfl rfl rfl rfl ?_
      refine WL.skip rfl rfl rfl rfl rfl ?_
      refine WL.skip rfl rfl rfl rfl rfl ?_
      refine WL.skip rfl rfl rfl rfl rfl ?_
      refine WL.skip rfl rfl rfl rfl rfl ?_
      refine WL.skip rfl rfl rfl rfl rfl ?_
      refine WL.skipU rfl rfl rfl rfl rfl ?_
      refine WL.skipU rfl rfl rfl rfl rfl ?_
      refine WL.skip rfl rfl rfl rfl rfl ?_
      refine WL.skip rfl rfl rfl rfl rfl ?_
      refine WL.skipU rfl rfl rfl rfl rfl ?_
      refine WL.skipU rfl rfl rfl rfl rfl ?_
      refine WL.skip rfl rfl rfl rfl rfl ?_
      refine WL.pure rfl rfl rfl (PV.pickT rfl rfl) ?_
      refine WL.nilS ?_
      refine CW.condT rfl ?_
      refine CW.seq ?_
      refine CW.reg ?_
      refine WL.pure rfl rfl rfl (PV.assign rfl) ?_
      refine WL.nilS ?_
      refine CW.ret ?_
      refine RQ.then ?_
      refine RQ.block ?_
      refine RQ.then ?_
      refine RQ.then ?_
      refine RQ.block ?_
      refine RQ.then ?_
      refine RQ.r1 rfl ?_
      refine ⟨?_, hB⟩
      first | rfl | (exfalso; omega) | (exfalso; simp only [ne_eq, decide_eq_decide] at *; omega) | (exfalso; rw [hok] at *; contradiction)
    try simp only [decide_eq_true_eq, decide_eq_false_iff_not, Bool.not_eq_true', Bool.not_eq_false', Bool.not_eq_eq_eq_not, Bool.not_true, Bool.not_false, Int.not_lt, Int.not_le, Classical.not_not, beq_iff_eq, beq_eq_false_iff_ne] at hc79
    refine WL.pureG rfl rfl rfl rfl rfl (PV.move rfl) ?_
    refine WL.pureG rfl rfl rfl rfl rfl (PV.move rfl) ?_
    first
      | refine WL.atO (x := .tmp 136) (y := .tmp 137) (f := VI) (0) rfl rfl ho4 (by first | omega | (simp; omega) | (simp_all; omega)) (fun p35 hpp35 hcp35 => ?_)
      | refine WL.atOZ (x := .tmp 136) (y := .tmp 137) (f := VI) (0) rfl rfl ho4 (by first | omega | (simp; omega) | (simp_all; omega)) (fun p35 hpp35 hzp35 hcp35 => ?_)
    refine WL.pureG rfl rfl rfl rfl rfl ((by first | exact PV.indexAddr hpp35 rfl rfl T.sl22 | exact PV.indexAddr hpp35 rfl (by rw [← hzp35]; rfl) T.sl22)) ?_
    refine WL.pureG rfl rfl rfl rfl rfl ((by first | exact PV.load0 T.na2 rfl (by first | exact Cells.up (by assumption) hB | exact Bx.cells (by assumption) | assumption) (Ext.refl _) rfl | exact PV.load1 T.na2 rfl (by first | exact Cells.up (by assumption) hB | exact Bx.cells (by assumption) | assumption) (Ext.refl _) rfl)) ?_
    refine WL.pureG rfl rfl rfl rfl rfl (PV.eql rfl rfl) ?_
    refine WL.pureG rfl rfl rfl rfl rfl (PV.move rfl) ?_
    refine WL.split (t := 141) rfl (fun hc80 => ?_) (fun hc80 => ?_)
    rotate_left
    · skip
      try simp only [decide_eq_true_eq, decide_eq_false_iff_not, Bool.not_eq_true', Bool.not_eq_false', Bool.not_eq_eq_eq_not, Bool.not_true, Bool.not_false, Int.not_lt, Int.not_le, Classical.not_not, beq_iff_eq, beq_eq_false_iff_ne] at hc80
      refine WL.skip rfl rfl rfl rfl rfl ?_
      refine WL.skip rfl rfl rfl rfl rfl ?_
      refine WL.pureG rfl rfl rfl rfl rfl (PV.pickF rfl rfl) ?_
      refine WL.pureG rfl rfl rfl rfl rfl (PV.move rfl) ?_
      refine WL.skip rfl rfl rfl rfl rfl ?_
      refine WL.skip rfl rfl rfl rfl rfl ?_
      refine WL.pureG rfl rfl rfl rfl rfl (PV.pickF rfl rfl) ?_
      refine WL.pure rfl rfl rfl (PV.pickF rfl rfl) ?_
      refine WL.nilS ?_
      refine CW.condF rfl ?_
      refine CW.skipS ?_
      refine CW.reg ?_
      refine WL.pure rfl rfl rfl (PV.move rfl) ?_
      refine WL.pure rfl rfl rfl (PV.assign rfl) ?_
      refine WL.nil ?_
      refine NQ.block ?_
      refine NQ.then ?_
      refine CW.reg ?_
      refine WL.pure rfl rfl rfl (PV.add rfl rfl (by constructor <;> omega)) ?_
      refine WL.pure rfl rfl rfl (PV.move rfl) ?_
      refine WL.nil ?_
      refine NQ.next (ρ := [(12, _), (57, _)]) ⟨rfl, rfl, rfl, rfl, rfl, rfl, rfl, trivial⟩ ?_
      exact ⟨_, ⟨k + 1, _, rfl, rfl, hU0, (by first | omega | assumption | (simp_all; done) | (simp_all; omega)), (by omega)⟩, by omega⟩
    try simp only [decide_eq_true_eq, decide_eq_false_iff_not, Bool.not_eq_true', Bool.not_eq_false', Bool.not_eq_eq_eq_not, Bool.not_true, Bool.not_false, Int.not_lt, Int.not_le, Classical.not_not, beq_iff_eq, beq_eq_false_iff_ne] at hc80
    refine WL.pureG rfl rfl rfl rfl rfl (PV.move rfl) ?_
    refine WL.pureG rfl rfl rfl rfl rfl (PV.eql rfl rfl) ?_
    refine WL.pureG rfl rfl rfl rfl rfl (PV.pickT rfl rfl) ?_
    refine WL.pureG rfl rfl rfl rfl rfl (PV.move rfl) ?_
    refine WL.split (t := 145) rfl (fun hc81 => ?_) (fun hc81 => ?_)
    rotate_left
    · skip
      try simp only [decide_eq_true_eq, decide_eq_false_iff_not, Bool.not_eq_true', Bool.not_eq_false', Bool.not_eq_eq_eq_not, Bool.not_true, Bool.not_false, Int.not_lt, Int.not_le, Classical.not_not, beq_iff_eq, beq_eq_false_iff_ne] at hc81
      refine WL.skip rfl rfl rfl rfl rfl ?_
      refine WL.skip rfl rfl rfl rfl rfl ?_
      refine WL.pureG rfl rfl rfl rfl rfl (PV.pickF rfl rfl) ?_
      refine WL.pure rfl rfl rfl (PV.pickF rfl rfl) ?_
      refine WL.nilS ?_
      refine CW.condF rfl ?_
      refine CW.skipS ?_
      refine CW.reg ?_
      refine WL.pure rfl rfl rfl (PV.move rfl) ?_
      refine WL.pure rfl rfl rfl (PV.assign rfl) ?_
      refine WL.nil ?_
      refine NQ.block ?_
      refine NQ.then ?_
      refine CW.reg ?_
      refine WL.pure rfl rfl rfl (PV.add rfl rfl (by constructor <;> omega)) ?_
      refine WL.pure rfl rfl rfl (PV.move rfl) ?_
      refine WL.nil ?_
      refine NQ.next (ρ := [(12, _), (57, _)]) ⟨rfl, rfl, rfl, rfl, rfl, rfl, rfl, trivial⟩ ?_
      exact ⟨_, ⟨k + 1, _, rfl, rfl, hU0, (by first | omega | assumption | (simp_all; done) | (simp_all; omega)), (by omega)⟩, by omega⟩
    try simp only [decide_eq_true_eq, decide_eq_false_iff_not, Bool.not_eq_true', Bool.not_eq_false', Bool.not_eq_eq_eq_not, Bool.not_true, Bool.not_false, Int.not_lt, Int.not_le, Classical.not_not, beq_iff_eq, beq_eq_false_iff_ne] at hc81
    refine WL.pureG rfl rfl rfl rfl rfl (PV.move rfl) ?_
    refine WL.pureG rfl rfl rfl rfl rfl (PV.neq rfl rfl) ?_
    refine WL.pureG rfl rfl rfl rfl rfl (PV.pickT rfl rfl) ?_
    refine WL.pure rfl rfl rfl (PV.pickF rfl rfl) ?_
    refine WL.nilS ?_
    refine CW.cond rfl (fun hc82 => ?_) (fun hc82 => ?_)
    · skip
      try simp only [decide_eq_true_eq, decide_eq_false_iff_not, Bool.not_eq_true', Bool.not_eq_false', Bool.not_eq_eq_eq_not, Bool.not_true, Bool.not_false, Int.not_lt, Int.not_le, Classical.not_not, beq_iff_eq, beq_eq_false_iff_ne] at hc82
      refine CW.seq ?_
      refine CW.reg ?_
      refine WL.pure rfl rfl rfl (PV.assign rfl) ?_
      refine WL.nilS ?_
      refine CW.ret ?_
      refine RQ.then ?_
      refine RQ.block ?_
      refine RQ.then ?_
      refine RQ.then ?_
      refine RQ.block ?_
      refine RQ.then ?_
      refine RQ.r1 rfl ?_
      refine ⟨?_, hB⟩
      first | rfl | (exfalso; omega) | (exfalso; simp only [ne_eq, decide_eq_decide] at *; omega) | (exfalso; rw [hok] at *; contradiction)
    try simp only [decide_eq_true_eq, decide_eq_false_iff_not, Bool.not_eq_true', Bool.not_eq_false', Bool.not_eq_eq_eq_not, Bool.not_true, Bool.not_false, Int.not_lt, Int.not_le, Classical.not_not, beq_iff_eq, beq_eq_false_iff_ne] at hc82
    refine CW.skipS ?_
    refine CW.reg ?_
    refine WL.pure rfl rfl rfl (PV.move rfl) ?_
    refine WL.pure rfl rfl rfl (PV.assign rfl) ?_
    refine WL.nil ?_
    refine NQ.block ?_
    refine NQ.then ?_
    refine CW.reg ?_
    refine WL.pure rfl rfl rfl (PV.add rfl rfl (by constructor <;> omega)) ?_
    refine WL.pure rfl rfl rfl (PV.move rfl) ?_
    refine WL.nil ?_
    refine NQ.next (ρ := [(12, _), (57, _)]) ⟨rfl, rfl, rfl, rfl, rfl, rfl, rfl, trivial⟩ ?_
    exact ⟨_, ⟨k + 1, _, rfl, rfl, hU0, (by first | omega | assumption | (simp_all; done) | (simp_all; omega)), (by omega)⟩, by omega⟩
  try simp only [decide_eq_true_eq, decide_eq_false_iff_not, Bool.not_eq_true', Bool.not_eq_false', Bool.not_eq_eq_eq_not, Bool.not_true, Bool.not_false, Int.not_lt, Int.not_le, Classical.not_not, beq_iff_eq, beq_eq_false_iff_ne] at hc6
  refine CW.exit ?_
  refine XQ.then ?_
  refine XQ.then ?_
  refine XQ.here ?_
  refine NQ.then ?_
  refine CW.seq ?_
  refine CW.reg ?_
  refine WL.pure rfl rfl rfl (PV.assign rfl) ?_
  refine WL.nilS ?_
  refine CW.ret ?_
  refine RQ.r1 rfl ?_
  refine ⟨?_, hB⟩
  first | rfl | (exfalso; omega) | (exfalso; simp only [ne_eq, decide_eq_decide] at *; omega) | (exfalso; rw [hok] at *; contradiction)

end Go.Proofs.Ytliakkhlgflbcaa
