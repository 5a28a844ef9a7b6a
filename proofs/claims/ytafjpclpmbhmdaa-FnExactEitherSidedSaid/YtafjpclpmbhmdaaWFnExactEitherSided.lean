/- Walks of the functions that the law FnExactEitherSided reaches: each says what its function computes. No condition. -/
import Derived.Test.YtafjpclpmbhmdaaProg
import Derived.Test.YtafjpclpmbhmdaaLibM
import Derived.Test.YtafjpclpmbhmdaaPlA
import Derived.Test.YtafjpclpmbhmdaaPlG
import Derived.Test.YtafjpclpmbhmdaaPlS
import Derived.Test.YtafjpclpmbhmdaaLibG2
import Derived.Test.YtafjpclpmbhmdaaPlT
import Derived.Test.YtafjpclpmbhmdaaWFnExactEitherSidedc
namespace Go.Proofs.Ytafjpclpmbhmdaa
open Go Go.WX Go.Proofs
set_option linter.unusedSimpArgs false
set_option linter.unusedVariables false

theorem c_laws_markPairArcS {w : World} {va : Value} {og : Option Nat} {xs : List R4} {k : Int} (ho : Osn 4 gR w og va xs) (hk : 0 ≤ k ∧ k + 4 * xs.length ≤ 9223372036854775807) : Calls Try.prog 90 #[va, .int .i64 k] w (Ret1 (fun v w' => v = .int .i64 (k + 4 * xs.length) ∧ UpdL [og] w w' ∧ Osn 4 gR w' og va (marksR k xs.length))) := by
  refine callsOf (vs := [_, _]) Try.func90 rfl Try.ntmps90 rfl rfl ?_
  have hUB : UpdL [og] w w := UpdL.refl _ _
  have ho1 : Osn 4 gR w og va (xs) := by assumption
  have hkB_1 : OkB [og] w og := OkB.mem (by simp)
  have hgB_1 := OgR.refl w og
  refine CW.seq ?_
  refine CW.reg ?_
  refine WL.pure rfl rfl rfl (PV.assign rfl) ?_
  refine WL.nilS ?_
  refine CW.seq ?_
  refine CW.seq ?_
  refine CW.reg ?_
  refine WL.pure rfl rfl rfl (PV.assign rfl) ?_
  refine WL.nilS ?_
  refine CW.block ?_
  have hlt1 := ho1.ltO
  refine CW.loop (σk := [(0, _)]) (fun ρ wz m => ∃ (i : Nat), ρ = [(1, .int .i64 (k + 4 * (i : Nat))), (5, .int .i64 (i : Nat))] ∧ m = xs.length - i ∧ UpdL [og] w wz ∧ Osn 4 gR wz og va (marksR k i ++ xs.drop i) ∧ (i ≤ xs.length)) (ρ₀ := [(1, _), (5, _)]) (m₀ := _) ⟨rfl, rfl, rfl, trivial⟩ ⟨0, (by simp), rfl, (UpdL.refl _ _), osnE ho1 (by exact marksR_zero _ _), (by first | omega | rfl | (simp; done) | assumption | (simp_all; done))⟩ ?_
  rintro _ wl1 _ ⟨i, rfl, rfl, hU0, ho1, hi⟩
  have hUB := hUB.trans hU0 ⟨hkB_1, trivial⟩
  have hk0_1 : OkB [og] w og := OkB.mem (by simp)
  have hll : (marksR k i ++ xs.drop i).length = xs.length := by rw [List.length_append, marksR_len, List.length_drop]; omega
  refine CW.seq ?_
  refine CW.seq ?_
  refine CW.reg ?_
  refine WL.pure rfl rfl rfl (PV.move rfl) ?_
  refine WL.pure rfl rfl rfl (PV.move rfl) ?_
  refine WL.pure rfl rfl rfl ((PV.lenOsn rfl ho1 T.sl60)) ?_
  refine WL.pure rfl rfl rfl (PV.lss rfl rfl) ?_
  refine WL.nilS ?_
  refine CW.cond rfl (fun hc1 => ?_) (fun hc1 => ?_)
  · skip
    try simp only [decide_eq_true_eq, decide_eq_false_iff_not, Bool.not_eq_true', Bool.not_eq_false', Bool.not_eq_eq_eq_not, Bool.not_true, Bool.not_false, Int.not_lt, Int.not_le, Classical.not_not, beq_iff_eq, beq_eq_false_iff_ne] at hc1
    refine CW.skipS ?_
    refine CW.seq ?_
    refine CW.block ?_
    refine CW.seq ?_
    refine CW.reg ?_
    refine WL.pure rfl rfl rfl (PV.move rfl) ?_
    refine WL.pure rfl rfl rfl (PV.move rfl) ?_
    refine WL.pure rfl rfl rfl (PV.move rfl) ?_
    have hrdp1 := ho1.rdR
    first
      | refine WL.at (x := .tmp 12) (y := .tmp 13) (E := ER) ((0, 0, 0, 0)) rfl rfl hrdp1 (by first | omega | (simp; omega) | (simp_all; omega)) (fun p1 csp1 hpp1 hcp1 hq => ?_)
      | refine WL.atZ (x := .tmp 12) (y := .tmp 13) (E := ER) ((0, 0, 0, 0)) rfl rfl hrdp1 (by first | omega | (simp; omega) | (simp_all; omega)) (fun p1 csp1 hpp1 hzp1 hcp1 hq => ?_)
    cases hq
    refine WL.pure rfl rfl rfl ((by first | exact PV.indexAddr hpp1 rfl rfl T.sl60 | exact PV.indexAddr hpp1 rfl (by rw [← hzp1]; rfl) T.sl60)) ?_
    refine WL.pure rfl rfl rfl ((by first | exact PV.fieldAddr T.fl103_0 rfl (by first | assumption | exact Bx.cells (by assumption)) | exact PV.fieldAddrP T.fl103_0 rfl rfl)) ?_
    refine WL.op rfl (OpK.storeF (g := gR) (setR0 _ _) (0, 0, 0, 0) T.sz2 rfl rfl rfl rfl (gR_set0 _ _) hpp1 ho1 (fun w1 hXw1 ho1 => ?_))
    have hUB := hUB.step hXw1 hkB_1
    have hU0 := hU0.step hXw1 hk0_1
    refine WL.nilS ?_
    refine CW.seq ?_
    refine CW.reg ?_
    refine WL.pure rfl rfl rfl (PV.move rfl) ?_
    refine WL.pure rfl rfl rfl (PV.add rfl rfl (by constructor <;> omega)) ?_
    refine WL.pure rfl rfl rfl (PV.assign rfl) ?_
    refine WL.nilS ?_
    refine CW.seq ?_
    refine CW.reg ?_
    refine WL.pure rfl rfl rfl (PV.move rfl) ?_
    refine WL.pure rfl rfl rfl (PV.move rfl) ?_
    refine WL.pure rfl rfl rfl (PV.move rfl) ?_
    have hrdp2 := ho1.rdR
    first
      | refine WL.at (x := .tmp 19) (y := .tmp 20) (E := ER) ((0, 0, 0, 0)) rfl rfl hrdp2 (by rw [List.length_set]; omega) (fun p2 csp2 hpp2 hcp2 hq => ?_)
      | refine WL.atZ (x := .tmp 19) (y := .tmp 20) (E := ER) ((0, 0, 0, 0)) rfl rfl hrdp2 (by rw [List.length_set]; omega) (fun p2 csp2 hpp2 hzp2 hcp2 hq => ?_)
    cases hq
    refine WL.pure rfl rfl rfl ((by first | exact PV.indexAddr hpp2 rfl rfl T.sl60 | exact PV.indexAddr hpp2 rfl (by rw [← hzp2]; rfl) T.sl60)) ?_
    refine WL.pure rfl rfl rfl ((by first | exact PV.fieldAddr T.fl103_1 rfl (by first | assumption | exact Bx.cells (by assumption)) | exact PV.fieldAddrP T.fl103_1 rfl rfl)) ?_
    refine WL.op rfl (OpK.storeF (g := gR) (setR1 _ _) (0, 0, 0, 0) T.sz2 rfl rfl rfl rfl (gR_set1 _ _) hpp2 ho1 (fun w2 hXw2 ho1 => ?_))
    have hUB := hUB.step hXw2 hkB_1
    have hU0 := hU0.step hXw2 hk0_1
    refine WL.nilS ?_
    refine CW.seq ?_
    refine CW.reg ?_
    refine WL.pure rfl rfl rfl (PV.move rfl) ?_
    refine WL.pure rfl rfl rfl (PV.add rfl rfl (by constructor <;> omega)) ?_
    refine WL.pure rfl rfl rfl (PV.assign rfl) ?_
    refine WL.nilS ?_
    refine CW.seq ?_
    refine CW.reg ?_
    refine WL.pure rfl rfl rfl (PV.move rfl) ?_
    refine WL.pure rfl rfl rfl (PV.move rfl) ?_
    refine WL.pure rfl rfl rfl (PV.move rfl) ?_
    have hrdp3 := ho1.rdR
    first
      | refine WL.at (x := .tmp 26) (y := .tmp 27) (E := ER) ((0, 0, 0, 0)) rfl rfl hrdp3 (by rw [List.length_set, List.length_set]; omega) (fun p3 csp3 hpp3 hcp3 hq => ?_)
      | refine WL.atZ (x := .tmp 26) (y := .tmp 27) (E := ER) ((0, 0, 0, 0)) rfl rfl hrdp3 (by rw [List.length_set, List.length_set]; omega) (fun p3 csp3 hpp3 hzp3 hcp3 hq => ?_)
    cases hq
    refine WL.pure rfl rfl rfl ((by first | exact PV.indexAddr hpp3 rfl rfl T.sl60 | exact PV.indexAddr hpp3 rfl (by rw [← hzp3]; rfl) T.sl60)) ?_
    refine WL.pure rfl rfl rfl ((by first | exact PV.fieldAddr T.fl103_2 rfl (by first | assumption | exact Bx.cells (by assumption)) | exact PV.fieldAddrP T.fl103_2 rfl rfl)) ?_
    refine WL.op rfl (OpK.storeF (g := gR) (setR2 _ _) (0, 0, 0, 0) T.sz2 rfl rfl rfl rfl (gR_set2 _ _) hpp3 ho1 (fun w3 hXw3 ho1 => ?_))
    have hUB := hUB.step hXw3 hkB_1
    have hU0 := hU0.step hXw3 hk0_1
    refine WL.nilS ?_
    refine CW.seq ?_
    refine CW.reg ?_
    refine WL.pure rfl rfl rfl (PV.move rfl) ?_
    refine WL.pure rfl rfl rfl (PV.add rfl rfl (by constructor <;> omega)) ?_
    refine WL.pure rfl rfl rfl (PV.assign rfl) ?_
    refine WL.nilS ?_
    refine CW.seq ?_
    refine CW.reg ?_
    refine WL.pure rfl rfl rfl (PV.move rfl) ?_
    refine WL.pure rfl rfl rfl (PV.move rfl) ?_
    refine WL.pure rfl rfl rfl (PV.move rfl) ?_
    have hrdp4 := ho1.rdR
    first
      | refine WL.at (x := .tmp 33) (y := .tmp 34) (E := ER) ((0, 0, 0, 0)) rfl rfl hrdp4 (by rw [List.length_set, List.length_set, List.length_set]; omega) (fun p4 csp4 hpp4 hcp4 hq => ?_)
      | refine WL.atZ (x := .tmp 33) (y := .tmp 34) (E := ER) ((0, 0, 0, 0)) rfl rfl hrdp4 (by rw [List.length_set, List.length_set, List.length_set]; omega) (fun p4 csp4 hpp4 hzp4 hcp4 hq => ?_)
    cases hq
    refine WL.pure rfl rfl rfl ((by first | exact PV.indexAddr hpp4 rfl rfl T.sl60 | exact PV.indexAddr hpp4 rfl (by rw [← hzp4]; rfl) T.sl60)) ?_
    refine WL.pure rfl rfl rfl ((by first | exact PV.fieldAddr T.fl103_3 rfl (by first | assumption | exact Bx.cells (by assumption)) | exact PV.fieldAddrP T.fl103_3 rfl rfl)) ?_
    refine WL.op rfl (OpK.storeF (g := gR) (setR3 _ _) (0, 0, 0, 0) T.sz2 rfl rfl rfl rfl (gR_set3 _ _) hpp4 ho1 (fun w4 hXw4 ho1 => ?_))
    have hUB := hUB.step hXw4 hkB_1
    have hU0 := hU0.step hXw4 hk0_1
    refine WL.nilS ?_
    refine CW.reg ?_
    refine WL.pure rfl rfl rfl (PV.move rfl) ?_
    refine WL.pure rfl rfl rfl (PV.add rfl rfl (by constructor <;> omega)) ?_
    refine WL.pure rfl rfl rfl (PV.assign rfl) ?_
    refine WL.nil ?_
    refine NQ.block ?_
    refine NQ.then ?_
    refine CW.reg ?_
    refine WL.pure rfl rfl rfl (PV.move rfl) ?_
    refine WL.pure rfl rfl rfl (PV.add rfl rfl (by constructor <;> omega)) ?_
    refine WL.pure rfl rfl rfl (PV.assign rfl) ?_
    refine WL.nil ?_
    refine NQ.next (ρ := [(1, _), (5, _)]) ⟨rfl, rfl, rfl, trivial⟩ ?_
    exact ⟨_, ⟨i + 1, (by simp; omega), rfl, hU0, osnE ho1 (by rw [set4 (by omega)]; exact marksR_put (by omega)), (by first | omega | assumption | (simp_all; done) | (simp_all; omega))⟩, by omega⟩
  try simp only [decide_eq_true_eq, decide_eq_false_iff_not, Bool.not_eq_true', Bool.not_eq_false', Bool.not_eq_eq_eq_not, Bool.not_true, Bool.not_false, Int.not_lt, Int.not_le, Classical.not_not, beq_iff_eq, beq_eq_false_iff_ne] at hc1
  refine CW.exit ?_
  refine XQ.then ?_
  refine XQ.then ?_
  refine XQ.here ?_
  refine NQ.then ?_
  refine CW.seq ?_
  refine CW.reg ?_
  refine WL.pure rfl rfl rfl (PV.move rfl) ?_
  refine WL.pure rfl rfl rfl (PV.assign rfl) ?_
  refine WL.nilS ?_
  refine CW.ret ?_
  refine RQ.r1 rfl ?_
  refine ⟨?_, hUB, osnE ho1 ?_⟩
  · skip
    exact iE (by omega)
  · skip
    exact marksR_done (by omega) hi
theorem c_laws_markBoolS {w : World} {va : Value} {og : Option Nat} {xs : List Bool} {k : Int} (ho : Osl VB w og va xs) (hk : 0 ≤ k ∧ k + xs.length ≤ 9223372036854775807) : Calls Try.prog 91 #[va, .int .i64 k] w (Ret1 (fun v w' => v = .int .i64 (k + xs.length) ∧ UpdL [og] w w' ∧ Osl VB w' og va (marksB k xs.length))) := by
  refine callsOf (vs := [_, _]) Try.func91 rfl Try.ntmps91 rfl rfl ?_
  have hUB : UpdL [og] w w := UpdL.refl _ _
  have ho1 : Osl VB w og va (xs) := by assumption
  have hkB_1 : OkB [og] w og := OkB.mem (by simp)
  have hgB_1 := OgR.refl w og
  refine CW.seq ?_
  refine CW.reg ?_
  refine WL.pure rfl rfl rfl (PV.assign rfl) ?_
  refine WL.nilS ?_
  refine CW.seq ?_
  refine CW.seq ?_
  refine CW.reg ?_
  refine WL.pure rfl rfl rfl (PV.assign rfl) ?_
  refine WL.nilS ?_
  refine CW.block ?_
  have hlt1 := ho1.ltO
  refine CW.loop (σk := [(0, _)]) (fun ρ wz m => ∃ (i : Nat), ρ = [(1, .int .i64 (k + (i : Nat))), (5, .int .i64 (i : Nat))] ∧ m = xs.length - i ∧ UpdL [og] w wz ∧ Osl VB wz og va (marksB k i ++ xs.drop i) ∧ (i ≤ xs.length)) (ρ₀ := [(1, _), (5, _)]) (m₀ := _) ⟨rfl, rfl, rfl, trivial⟩ ⟨0, (by simp), rfl, (UpdL.refl _ _), osE ho1 (by exact marksB_zero _ _), (by first | omega | rfl | (simp; done) | assumption | (simp_all; done))⟩ ?_
  rintro _ wl1 _ ⟨i, rfl, rfl, hU0, ho1, hi⟩
  have hUB := hUB.trans hU0 ⟨hkB_1, trivial⟩
  have hk0_1 : OkB [og] w og := OkB.mem (by simp)
  have hll : (marksB k i ++ xs.drop i).length = xs.length := by rw [List.length_append, marksB_len, List.length_drop]; omega
  refine CW.seq ?_
  refine CW.seq ?_
  refine CW.reg ?_
  refine WL.pure rfl rfl rfl (PV.move rfl) ?_
  refine WL.pure rfl rfl rfl (PV.move rfl) ?_
  refine WL.pure rfl rfl rfl ((PV.lenOs rfl ho1 T.sl28)) ?_
  refine WL.pure rfl rfl rfl (PV.lss rfl rfl) ?_
  refine WL.nilS ?_
  refine CW.cond rfl (fun hc1 => ?_) (fun hc1 => ?_)
  · skip
    try simp only [decide_eq_true_eq, decide_eq_false_iff_not, Bool.not_eq_true', Bool.not_eq_false', Bool.not_eq_eq_eq_not, Bool.not_true, Bool.not_false, Int.not_lt, Int.not_le, Classical.not_not, beq_iff_eq, beq_eq_false_iff_ne] at hc1
    refine CW.skipS ?_
    refine CW.seq ?_
    refine CW.block ?_
    refine CW.seq ?_
    refine CW.reg ?_
    refine WL.pure rfl rfl rfl (PV.move rfl) ?_
    refine WL.pure rfl rfl rfl (PV.move rfl) ?_
    refine WL.pure rfl rfl rfl (PV.move rfl) ?_
    refine WL.pure rfl rfl rfl (PV.rem rfl rfl (by omega) rfl) ?_
    refine WL.pure rfl rfl rfl (PV.eql rfl rfl) ?_
    first
      | refine WL.atO (x := .tmp 12) (y := .tmp 13) (f := VB) (false) rfl rfl ho1 (by first | omega | (simp; omega) | (simp_all; omega)) (fun p1 hpp1 hcp1 => ?_)
      | refine WL.atOZ (x := .tmp 12) (y := .tmp 13) (f := VB) (false) rfl rfl ho1 (by first | omega | (simp; omega) | (simp_all; omega)) (fun p1 hpp1 hzp1 hcp1 => ?_)
    refine WL.pure rfl rfl rfl ((by first | exact PV.indexAddr hpp1 rfl rfl T.sl28 | exact PV.indexAddr hpp1 rfl (by rw [← hzp1]; rfl) T.sl28)) ?_
    refine WL.op rfl (OpK.storeS VB T.sz4 rfl rfl rfl hpp1 ho1 (fun w1 hXw1 ho1 => ?_))
    have hUB := hUB.step hXw1 hkB_1
    have hU0 := hU0.step hXw1 hk0_1
    refine WL.nilS ?_
    refine CW.reg ?_
    refine WL.pure rfl rfl rfl (PV.move rfl) ?_
    refine WL.pure rfl rfl rfl (PV.add rfl rfl (by constructor <;> omega)) ?_
    refine WL.pure rfl rfl rfl (PV.assign rfl) ?_
    refine WL.nil ?_
    refine NQ.block ?_
    refine NQ.then ?_
    refine CW.reg ?_
    refine WL.pure rfl rfl rfl (PV.move rfl) ?_
    refine WL.pure rfl rfl rfl (PV.add rfl rfl (by constructor <;> omega)) ?_
    refine WL.pure rfl rfl rfl (PV.assign rfl) ?_
    refine WL.nil ?_
    refine NQ.next (ρ := [(1, _), (5, _)]) ⟨rfl, rfl, rfl, trivial⟩ ?_
    exact ⟨_, ⟨i + 1, (by simp; omega), rfl, hU0, osE ho1 (by exact marksB_set (by omega)), (by first | omega | assumption | (simp_all; done) | (simp_all; omega))⟩, by omega⟩
  try simp only [decide_eq_true_eq, decide_eq_false_iff_not, Bool.not_eq_true', Bool.not_eq_false', Bool.not_eq_eq_eq_not, Bool.not_true, Bool.not_false, Int.not_lt, Int.not_le, Classical.not_not, beq_iff_eq, beq_eq_false_iff_ne] at hc1
  refine CW.exit ?_
  refine XQ.then ?_
  refine XQ.then ?_
  refine XQ.here ?_
  refine NQ.then ?_
  refine CW.seq ?_
  refine CW.reg ?_
  refine WL.pure rfl rfl rfl (PV.move rfl) ?_
  refine WL.pure rfl rfl rfl (PV.assign rfl) ?_
  refine WL.nilS ?_
  refine CW.ret ?_
  refine RQ.r1 rfl ?_
  refine ⟨?_, hUB, osE ho1 ?_⟩
  · skip
    exact iE (by omega)
  · skip
    exact marksB_done (by omega) hi
theorem c_laws_markSided {w : World} {a0 : Int} {a1 : Int} {va2 : Value} {xa2 : List R4} {va3 : Value} {xa3 : List Bool} {oga2 oga3 : Option Nat} {k : Int} (ho2 : Osn 4 gR w oga2 va2 xa2) (ho3 : Osl VB w oga3 va3 xa3) (hdd : Dj oga2 oga3) (hk : 0 ≤ k ∧ k + 4 * xa2.length + xa3.length ≤ 9223372036854775807) : Calls Try.prog 42 #[.agg #[.int .i64 a0, .int .i64 a1, va2, va3], .int .i64 k] w (Ret1 (fun v w' => v = .int .i64 (k + 4 * xa2.length + xa3.length) ∧ UpdL [oga2, oga3] w w' ∧ Osn 4 gR w' oga2 va2 (marksR k xa2.length) ∧ Osl VB w' oga3 va3 (marksB (k + 4 * xa2.length) xa3.length))) := by
  refine callsOf (vs := [_, _]) Try.func42 rfl Try.ntmps42 rfl rfl ?_
  have hUB : UpdL [oga2, oga3] w w := UpdL.refl _ _
  have ho1 : Osn 4 gR w oga2 va2 (xa2) := by assumption
  have hkB_1 : OkB [oga2, oga3] w oga2 := OkB.mem (by simp)
  have hgB_1 := OgR.refl w oga2
  have ho2 : Osl VB w oga3 va3 (xa3) := by assumption
  have hkB_2 : OkB [oga2, oga3] w oga3 := OkB.mem (by simp)
  have hgB_2 := OgR.refl w oga3
  have hd1_2 : Dj oga2 oga3 := by assumption
  refine CW.seq ?_
  refine CW.reg ?_
  refine WL.op rfl (OpK.box rfl rfl (by first | rfl | exact Rd.cells1 (by assumption) | exact Rd.cells1 (NL.rd (by assumption)) | exact Osl.cells1 (by assumption) | exact Osn.cells1 (by assumption)) (fun b3 w1 hXw1 hb3 hge3 => ?_))
  have hd1_3 := Dj.new ho1.ltO hge3
  have hd2_3 := Dj.new ho2.ltO hge3
  have hkB_3 := OkN.new hUB hge3
  have hgB_3 := OgR.new hUB.size hge3
  have ho1 := ho1.up hXw1
  have ho2 := ho2.up hXw1
  have hUB := hUB.ext hXw1
  refine WL.pure rfl rfl rfl (PV.assign rfl) ?_
  refine WL.nilS ?_
  refine CW.seq ?_
  refine CW.reg ?_
  refine WL.pure rfl rfl rfl ((by first | exact PV.fieldAddr T.fl62_2 rfl (by first | assumption | exact Bx.cells (by assumption)) | exact PV.fieldAddrP T.fl62_2 rfl rfl)) ?_
  refine WL.pure rfl rfl rfl ((by first | exact PV.load0 T.na60 rfl (by first | exact Cells.up (by assumption) hB | exact Bx.cells (by assumption) | assumption) (Ext.refl _) rfl | exact PV.load1 T.na60 rfl (by first | exact Cells.up (by assumption) hB | exact Bx.cells (by assumption) | assumption) (Ext.refl _) rfl)) ?_
  refine WL.pure rfl rfl rfl (PV.move rfl) ?_
  refine WL.op rfl (OpK.call rfl T.cf90 rfl (c_laws_markPairArcS (by first | assumption | exact Dj.symm (by assumption)) (by first | assumption | omega | (simp only [marks_len, marksB_len, marksR_len]; omega))) (fun rv1 w2 hR => ?_))
  obtain ⟨rfl, hUC4, ho1⟩ := hR
  have hUB := hUB.trans hUC4 ⟨hkB_1, trivial⟩
  have ho2 := ho2.loop hUC4 ⟨(Dj.symm hd1_2), trivial⟩
  have hb3 := hb3.loop hUC4 ⟨(Dj.symm hd1_3), trivial⟩
  refine WL.pure rfl rfl rfl (PV.assign rfl) ?_
  refine WL.nilS ?_
  refine CW.seq ?_
  refine CW.reg ?_
  refine WL.pure rfl rfl rfl ((by first | exact PV.fieldAddr T.fl62_3 rfl (by first | assumption | exact Bx.cells (by assumption)) | exact PV.fieldAddrP T.fl62_3 rfl rfl)) ?_
  refine WL.pure rfl rfl rfl ((by first | exact PV.load0 T.na28 rfl (by first | exact Cells.up (by assumption) hB | exact Bx.cells (by assumption) | assumption) (Ext.refl _) rfl | exact PV.load1 T.na28 rfl (by first | exact Cells.up (by assumption) hB | exact Bx.cells (by assumption) | assumption) (Ext.refl _) rfl)) ?_
  refine WL.pure rfl rfl rfl (PV.move rfl) ?_
  refine WL.op rfl (OpK.call rfl T.cf91 rfl (c_laws_markBoolS (by first | assumption | exact Dj.symm (by assumption)) (by first | assumption | omega | (simp only [marks_len, marksB_len, marksR_len]; omega))) (fun rv2 w3 hR => ?_))
  obtain ⟨rfl, hUC5, ho2⟩ := hR
  have hUB := hUB.trans hUC5 ⟨hkB_2, trivial⟩
  have ho1 := ho1.loop hUC5 ⟨hd1_2, trivial⟩
  have hb3 := hb3.loop hUC5 ⟨(Dj.symm hd2_3), trivial⟩
  refine WL.pure rfl rfl rfl (PV.assign rfl) ?_
  refine WL.nilS ?_
  refine CW.seq ?_
  refine CW.reg ?_
  refine WL.pure rfl rfl rfl (PV.move rfl) ?_
  refine WL.pure rfl rfl rfl (PV.assign rfl) ?_
  refine WL.nilS ?_
  refine CW.ret ?_
  refine RQ.r1 rfl ?_
  refine ⟨?_, hUB, osnE ho1 ?_, osE ho2 ?_⟩
  · skip
    rfl
  · skip
    rfl
  · skip
    rfl
theorem c_laws_heldPairArcS {w : World} {va : Value} {xs : List R4} {k : Int} (ha : Rd ER w va xs) (hk : 0 ≤ k ∧ k + 4 * xs.length ≤ 9223372036854775807) : Calls Try.prog 92 #[va, .int .i64 k] w (Ret1 (RQt (.int .i64 (if xs = marksR k xs.length then k + 4 * xs.length else -1)) w)) := by
  have hB : Ext w w := Ext.refl w
  have hla := ha.leI
  refine callsOf (vs := [_, _]) Try.func92 rfl Try.ntmps92 rfl rfl ?_
  refine CW.seq ?_
  refine CW.reg ?_
  refine WL.pure rfl rfl rfl (PV.assign rfl) ?_
  refine WL.nilS ?_
  refine CW.seq ?_
  refine CW.seq ?_
  refine CW.reg ?_
  refine WL.pure rfl rfl rfl (PV.assign rfl) ?_
  refine WL.nilS ?_
  refine CW.block ?_
  refine CW.loop (σk := [(0, _)]) (fun ρ wz m => ∃ (i : Nat), ρ = [(1, .int .i64 (k + 4 * (i : Nat))), (5, .int .i64 (i : Nat))] ∧ m = xs.length - i ∧ UpdL [] w wz ∧ (i ≤ xs.length) ∧ (xs.take i = marksR k i)) (ρ₀ := [(1, _), (5, _)]) (m₀ := _) ⟨rfl, rfl, rfl, trivial⟩ ⟨0, (by simp), rfl, (UpdL.refl _ _), (by first | omega | rfl | (simp; done) | assumption | (simp_all; done)), (by simp [marksR])⟩ ?_
  rintro _ wl1 _ ⟨i, rfl, rfl, hU0, hi, he⟩
  have hB := hB.loop hU0 trivial
  refine CW.seq ?_
  refine CW.seq ?_
  refine CW.reg ?_
  refine WL.pure rfl rfl rfl (PV.move rfl) ?_
  refine WL.pure rfl rfl rfl (PV.move rfl) ?_
  refine WL.pure rfl rfl rfl ((by first | exact PV.len rfl (by assumption) T.sl60 | exact PV.lenOs rfl (by assumption) T.sl60 | exact PV.len rfl (NL.rd (by assumption)) T.sl60)) ?_
  refine WL.pure rfl rfl rfl (PV.lss rfl rfl) ?_
  refine WL.nilS ?_
  refine CW.cond rfl (fun hc1 => ?_) (fun hc1 => ?_)
  · skip
    try simp only [decide_eq_true_eq, decide_eq_false_iff_not, Bool.not_eq_true', Bool.not_eq_false', Bool.not_eq_eq_eq_not, Bool.not_true, Bool.not_false, Int.not_lt, Int.not_le, Classical.not_not, beq_iff_eq, beq_eq_false_iff_ne] at hc1
    refine CW.skipS ?_
    refine CW.seq ?_
    refine CW.block ?_
    refine CW.seq ?_
    refine CW.seq ?_
    refine CW.reg ?_
    refine WL.pure rfl rfl rfl (PV.move rfl) ?_
    refine WL.pure rfl rfl rfl (PV.move rfl) ?_
    first
      | refine WL.at (x := .tmp 12) (y := .tmp 13) (E := ER) ((0, 0, 0, 0)) rfl rfl (by assumption) (by first | omega | (simp; omega) | (simp_all; omega)) (fun p1 csp1 hpp1 hcp1 hq => ?_)
      | refine WL.atZ (x := .tmp 12) (y := .tmp 13) (E := ER) ((0, 0, 0, 0)) rfl rfl (by assumption) (by first | omega | (simp; omega) | (simp_all; omega)) (fun p1 csp1 hpp1 hzp1 hcp1 hq => ?_)
    cases hq
    refine WL.pure rfl rfl rfl ((by first | exact PV.indexAddr hpp1 rfl rfl T.sl60 | exact PV.indexAddr hpp1 rfl (by rw [← hzp1]; rfl) T.sl60)) ?_
    refine WL.pure rfl rfl rfl ((by first | exact PV.fieldAddr T.fl103_0 rfl (by first | assumption | exact Bx.cells (by assumption)) | exact PV.fieldAddrP T.fl103_0 rfl rfl)) ?_
    refine WL.pure rfl rfl rfl ((by first | exact PV.load0 T.na2 rfl (by first | exact Cells.up (by assumption) hB | exact Bx.cells (by assumption) | assumption) (Ext.refl _) rfl | exact PV.load1 T.na2 rfl (by first | exact Cells.up (by assumption) hB | exact Bx.cells (by assumption) | assumption) (Ext.refl _) rfl)) ?_
    refine WL.pure rfl rfl rfl (PV.move rfl) ?_
    refine WL.pure rfl rfl rfl (PV.neq rfl rfl) ?_
    refine WL.nilS ?_
    refine CW.cond rfl (fun hc2 => ?_) (fun hc2 => ?_)
    · skip
      try simp only [decide_eq_true_eq, decide_eq_false_iff_not, Bool.not_eq_true', Bool.not_eq_false', Bool.not_eq_eq_eq_not, Bool.not_true, Bool.not_false, Int.not_lt, Int.not_le, Classical.not_not, beq_iff_eq, beq_eq_false_iff_ne] at hc2
      refine CW.seq ?_
      refine CW.reg ?_
      refine WL.pure rfl rfl rfl (PV.assign rfl) ?_
      refine WL.nilS ?_
      refine CW.ret ?_
      refine RQ.then ?_
      refine RQ.block ?_
      refine RQ.then ?_
      refine RQ.then ?_
      refine RQ.block ?_
      refine RQ.then ?_
      refine RQ.r1 rfl ?_
      refine ⟨?_, hB⟩
      first | (rw [if_neg (marksR_bad (i := i) (by omega) (fun h9 => by first | exact absurd (congrArg (fun r : R4 => r.1) h9) (by assumption) | exact absurd (congrArg (fun r : R4 => r.2.1) h9) (by assumption) | exact absurd (congrArg (fun r : R4 => r.2.2.1) h9) (by assumption) | exact absurd (congrArg (fun r : R4 => r.2.2.2) h9) (by assumption)))]) | (rw [if_pos (marksR_eq (i := i) (by omega) (by omega) he)]; exact iE (by omega))
    try simp only [decide_eq_true_eq, decide_eq_false_iff_not, Bool.not_eq_true', Bool.not_eq_false', Bool.not_eq_eq_eq_not, Bool.not_true, Bool.not_false, Int.not_lt, Int.not_le, Classical.not_not, beq_iff_eq, beq_eq_false_iff_ne] at hc2
    refine CW.skipS ?_
    refine CW.seq ?_
    refine CW.reg ?_
    refine WL.pure rfl rfl rfl (PV.move rfl) ?_
    refine WL.pure rfl rfl rfl (PV.add rfl rfl (by constructor <;> omega)) ?_
    refine WL.pure rfl rfl rfl (PV.assign rfl) ?_
    refine WL.nilS ?_
    refine CW.seq ?_
    refine CW.seq ?_
    refine CW.reg ?_
    refine WL.pure rfl rfl rfl (PV.move rfl) ?_
    refine WL.pure rfl rfl rfl (PV.move rfl) ?_
    first
      | refine WL.at (x := .tmp 21) (y := .tmp 22) (E := ER) ((0, 0, 0, 0)) rfl rfl (by assumption) (by first | omega | (simp; omega) | (simp_all; omega)) (fun p2 csp2 hpp2 hcp2 hq => ?_)
      | refine WL.atZ (x := .tmp 21) (y := .tmp 22) (E := ER) ((0, 0, 0, 0)) rfl rfl (by assumption) (by first | omega | (simp; omega) | (simp_all; omega)) (fun p2 csp2 hpp2 hzp2 hcp2 hq => ?_)
    cases hq
    refine WL.pure rfl rfl rfl ((by first | exact PV.indexAddr hpp2 rfl rfl T.sl60 | exact PV.indexAddr hpp2 rfl (by rw [← hzp2]; rfl) T.sl60)) ?_
    refine WL.pure rfl rfl rfl ((by first | exact PV.fieldAddr T.fl103_1 rfl (by first | assumption | exact Bx.cells (by assumption)) | exact PV.fieldAddrP T.fl103_1 rfl rfl)) ?_
    refine WL.pure rfl rfl rfl ((by first | exact PV.load0 T.na2 rfl (by first | exact Cells.up (by assumption) hB | exact Bx.cells (by assumption) | assumption) (Ext.refl _) rfl | exact PV.load1 T.na2 rfl (by first | exact Cells.up (by assumption) hB | exact Bx.cells (by assumption) | assumption) (Ext.refl _) rfl)) ?_
    refine WL.pure rfl rfl rfl (PV.move rfl) ?_
    refine WL.pure rfl rfl rfl (PV.neq rfl rfl) ?_
    refine WL.nilS ?_
    refine CW.cond rfl (fun hc3 => ?_) (fun hc3 => ?_)
    · skip
      try simp only [decide_eq_true_eq, decide_eq_false_iff_not, Bool.not_eq_true', Bool.not_eq_false', Bool.not_eq_eq_eq_not, Bool.not_true, Bool.not_false, Int.not_lt, Int.not_le, Classical.not_not, beq_iff_eq, beq_eq_false_iff_ne] at hc3
      refine CW.seq ?_
      refine CW.reg ?_
      refine WL.pure rfl rfl rfl (PV.assign rfl) ?_
      refine WL.nilS ?_
      refine CW.ret ?_
      refine RQ.then ?_
      refine RQ.block ?_
      refine RQ.then ?_
      refine RQ.then ?_
      refine RQ.block ?_
      refine RQ.then ?_
      refine RQ.r1 rfl ?_
      refine ⟨?_, hB⟩
      first | (rw [if_neg (marksR_bad (i := i) (by omega) (fun h9 => by first | exact absurd (congrArg (fun r : R4 => r.1) h9) (by assumption) | exact absurd (congrArg (fun r : R4 => r.2.1) h9) (by assumption) | exact absurd (congrArg (fun r : R4 => r.2.2.1) h9) (by assumption) | exact absurd (congrArg (fun r : R4 => r.2.2.2) h9) (by assumption)))]) | (rw [if_pos (marksR_eq (i := i) (by omega) (by omega) he)]; exact iE (by omega))
    try simp only [decide_eq_true_eq, decide_eq_false_iff_not, Bool.not_eq_true', Bool.not_eq_false', Bool.not_eq_eq_eq_not, Bool.not_true, Bool.not_false, Int.not_lt, Int.not_le, Classical.not_not, beq_iff_eq, beq_eq_false_iff_ne] at hc3
    refine CW.skipS ?_
    refine CW.seq ?_
    refine CW.reg ?_
    refine WL.pure rfl rfl rfl (PV.move rfl) ?_
    refine WL.pure rfl rfl rfl (PV.add rfl rfl (by constructor <;> omega)) ?_
    refine WL.pure rfl rfl rfl (PV.assign rfl) ?_
    refine WL.nilS ?_
    refine CW.seq ?_
    refine CW.seq ?_
    refine CW.reg ?_
    refine WL.pure rfl rfl rfl (PV.move rfl) ?_
    refine WL.pure rfl rfl rfl (PV.move rfl) ?_
    first
      | refine WL.at (x := .tmp 30) (y := .tmp 31) (E := ER) ((0, 0, 0, 0)) rfl rfl (by assumption) (by first | omega | (simp; omega) | (simp_all; omega)) (fun p3 csp3 hpp3 hcp3 hq => ?_)
      | refine WL.atZ (x := .tmp 30) (y := .tmp 31) (E := ER) ((0, 0, 0, 0)) rfl rfl (by assumption) (by first | omega | (simp; omega) | (simp_all; omega)) (fun p3 csp3 hpp3 hzp3 hcp3 hq => ?_)
    cases hq
    refine WL.pure rfl rfl rfl ((by first | exact PV.indexAddr hpp3 rfl rfl T.sl60 | exact PV.indexAddr hpp3 rfl (by rw [← hzp3]; rfl) T.sl60)) ?_
    refine WL.pure rfl rfl rfl ((by first | exact PV.fieldAddr T.fl103_2 rfl (by first | assumption | exact Bx.cells (by assumption)) | exact PV.fieldAddrP T.fl103_2 rfl rfl)) ?_
    refine WL.pure rfl rfl rfl ((by first | exact PV.load0 T.na2 rfl (by first | exact Cells.up (by assumption) hB | exact Bx.cells (by assumption) | assumption) (Ext.refl _) rfl | exact PV.load1 T.na2 rfl (by first | exact Cells.up (by assumption) hB | exact Bx.cells (by assumption) | assumption) (Ext.refl _) rfl)) ?_
    refine WL.pure rfl rfl rfl (PV.move rfl) ?_
    refine WL.pure rfl rfl rfl (PV.neq rfl rfl) ?_
    refine WL.nilS ?_
    refine CW.cond rfl (fun hc4 => ?_) (fun hc4 => ?_)
    · skip
      try simp only [decide_eq_true_eq, decide_eq_false_iff_not, Bool.not_eq_true', Bool.not_eq_false', Bool.not_eq_eq_eq_not, Bool.not_true, Bool.not_false, Int.not_lt, Int.not_le, Classical.not_not, beq_iff_eq, beq_eq_false_iff_ne] at hc4
      refine CW.seq ?_
      refine CW.reg ?_
      refine WL.pure rfl rfl rfl (PV.assign rfl) ?_
      refine WL.nilS ?_
      refine CW.ret ?_
      refine RQ.then ?_
      refine RQ.block ?_
      refine RQ.then ?_
      refine RQ.then ?_
      refine RQ.block ?_
      refine RQ.then ?_
      refine RQ.r1 rfl ?_
      refine ⟨?_, hB⟩
      first | (rw [if_neg (marksR_bad (i := i) (by omega) (fun h9 => by first | exact absurd (congrArg (fun r : R4 => r.1) h9) (by assumption) | exact absurd (congrArg (fun r : R4 => r.2.1) h9) (by assumption) | exact absurd (congrArg (fun r : R4 => r.2.2.1) h9) (by assumption) | exact absurd (congrArg (fun r : R4 => r.2.2.2) h9) (by assumption)))]) | (rw [if_pos (marksR_eq (i := i) (by omega) (by omega) he)]; exact iE (by omega))
    try simp only [decide_eq_true_eq, decide_eq_false_iff_not, Bool.not_eq_true', Bool.not_eq_false', Bool.not_eq_eq_eq_not, Bool.not_true, Bool.not_false, Int.not_lt, Int.not_le, Classical.not_not, beq_iff_eq, beq_eq_false_iff_ne] at hc4
    refine CW.skipS ?_
    refine CW.seq ?_
    refine CW.reg ?_
    refine WL.pure rfl rfl rfl (PV.move rfl) ?_
    refine WL.pure rfl rfl rfl (PV.add rfl rfl (by constructor <;> omega)) ?_
    refine WL.pure rfl rfl rfl (PV.assign rfl) ?_
    refine WL.nilS ?_
    refine CW.seq ?_
    refine CW.seq ?_
    refine CW.reg ?_
    refine WL.pure rfl rfl rfl (PV.move rfl) ?_
    refine WL.pure rfl rfl rfl (PV.move rfl) ?_
    first
      | refine WL.at (x := .tmp 39) (y := .tmp 40) (E := ER) ((0, 0, 0, 0)) rfl rfl (by assumption) (by first | omega | (simp; omega) | (simp_all; omega)) (fun p4 csp4 hpp4 hcp4 hq => ?_)
      | refine WL.atZ (x := .tmp 39) (y := .tmp 40) (E := ER) ((0, 0, 0, 0)) rfl rfl (by assumption) (by first | omega | (simp; omega) | (simp_all; omega)) (fun p4 csp4 hpp4 hzp4 hcp4 hq => ?_)
    cases hq
    refine WL.pure rfl rfl rfl ((by first | exact PV.indexAddr hpp4 rfl rfl T.sl60 | exact PV.indexAddr hpp4 rfl (by rw [← hzp4]; rfl) T.sl60)) ?_
    refine WL.pure rfl rfl rfl ((by first | exact PV.fieldAddr T.fl103_3 rfl (by first | assumption | exact Bx.cells (by assumption)) | exact PV.fieldAddrP T.fl103_3 rfl rfl)) ?_
    refine WL.pure rfl rfl rfl ((by first | exact PV.load0 T.na2 rfl (by first | exact Cells.up (by assumption) hB | exact Bx.cells (by assumption) | assumption) (Ext.refl _) rfl | exact PV.load1 T.na2 rfl (by first | exact Cells.up (by assumption) hB | exact Bx.cells (by assumption) | assumption) (Ext.refl _) rfl)) ?_
    refine WL.pure rfl rfl rfl (PV.move rfl) ?_
    refine WL.pure rfl rfl rfl (PV.neq rfl rfl) ?_
    refine WL.nilS ?_
    refine CW.cond rfl (fun hc5 => ?_) (fun hc5 => ?_)
    · skip
      try simp only [decide_eq_true_eq, decide_eq_false_iff_not, Bool.not_eq_true', Bool.not_eq_false', Bool.not_eq_eq_eq_not, Bool.not_true, Bool.not_false, Int.not_lt, Int.not_le, Classical.not_not, beq_iff_eq, beq_eq_false_iff_ne] at hc5
      refine CW.seq ?_
      refine CW.reg ?_
      refine WL.pure rfl rfl rfl (PV.assign rfl) ?_
      refine WL.nilS ?_
      refine CW.ret ?_
      refine RQ.then ?_
      refine RQ.block ?_
      refine RQ.then ?_
      refine RQ.then ?_
      refine RQ.block ?_
      refine RQ.then ?_
      refine RQ.r1 rfl ?_
      refine ⟨?_, hB⟩
      first | (rw [if_neg (marksR_bad (i := i) (by omega) (fun h9 => by first | exact absurd (congrArg (fun r : R4 => r.1) h9) (by assumption) | exact absurd (congrArg (fun r : R4 => r.2.1) h9) (by assumption) | exact absurd (congrArg (fun r : R4 => r.2.2.1) h9) (by assumption) | exact absurd (congrArg (fun r : R4 => r.2.2.2) h9) (by assumption)))]) | (rw [if_pos (marksR_eq (i := i) (by omega) (by omega) he)]; exact iE (by omega))
    try simp only [decide_eq_true_eq, decide_eq_false_iff_not, Bool.not_eq_true', Bool.not_eq_false', Bool.not_eq_eq_eq_not, Bool.not_true, Bool.not_false, Int.not_lt, Int.not_le, Classical.not_not, beq_iff_eq, beq_eq_false_iff_ne] at hc5
    refine CW.skipS ?_
    refine CW.reg ?_
    refine WL.pure rfl rfl rfl (PV.move rfl) ?_
    refine WL.pure rfl rfl rfl (PV.add rfl rfl (by constructor <;> omega)) ?_
    refine WL.pure rfl rfl rfl (PV.assign rfl) ?_
    refine WL.nil ?_
    refine NQ.block ?_
    refine NQ.then ?_
    refine CW.reg ?_
    refine WL.pure rfl rfl rfl (PV.move rfl) ?_
    refine WL.pure rfl rfl rfl (PV.add rfl rfl (by constructor <;> omega)) ?_
    refine WL.pure rfl rfl rfl (PV.assign rfl) ?_
    refine WL.nil ?_
    refine NQ.next (ρ := [(1, _), (5, _)]) ⟨rfl, rfl, rfl, trivial⟩ ?_
    exact ⟨_, ⟨i + 1, (by simp; omega), rfl, hU0, (by first | omega | assumption | (simp_all; done) | (simp_all; omega)), (by exact marksR_step (by omega) he (by assumption) (by assumption) (by assumption) (by assumption))⟩, by omega⟩
  try simp only [decide_eq_true_eq, decide_eq_false_iff_not, Bool.not_eq_true', Bool.not_eq_false', Bool.not_eq_eq_eq_not, Bool.not_true, Bool.not_false, Int.not_lt, Int.not_le, Classical.not_not, beq_iff_eq, beq_eq_false_iff_ne] at hc1
  refine CW.exit ?_
  refine XQ.then ?_
  refine XQ.then ?_
  refine XQ.here ?_
  refine NQ.then ?_
  refine CW.seq ?_
  refine CW.reg ?_
  refine WL.pure rfl rfl rfl (PV.move rfl) ?_
  refine WL.pure rfl rfl rfl (PV.assign rfl) ?_
  refine WL.nilS ?_
  refine CW.ret ?_
  refine RQ.r1 rfl ?_
  refine ⟨?_, hB⟩
  first | (rw [if_neg (marksR_bad (i := i) (by omega) (fun h9 => by first | exact absurd (congrArg (fun r : R4 => r.1) h9) (by assumption) | exact absurd (congrArg (fun r : R4 => r.2.1) h9) (by assumption) | exact absurd (congrArg (fun r : R4 => r.2.2.1) h9) (by assumption) | exact absurd (congrArg (fun r : R4 => r.2.2.2) h9) (by assumption)))]) | (rw [if_pos (marksR_eq (i := i) (by omega) (by omega) he)]; exact iE (by omega))
theorem c_laws_heldBoolS {w : World} {va : Value} {xs : List Bool} {k : Int} (ha : Rd EB w va xs) (hk : 0 ≤ k ∧ k + xs.length ≤ 9223372036854775807) : Calls Try.prog 93 #[va, .int .i64 k] w (Ret1 (RQt (.int .i64 (if xs = marksB k xs.length then k + xs.length else -1)) w)) := by
  have hB : Ext w w := Ext.refl w
  have hla := ha.leI
  refine callsOf (vs := [_, _]) Try.func93 rfl Try.ntmps93 rfl rfl ?_
  refine CW.seq ?_
  refine CW.reg ?_
  refine WL.pure rfl rfl rfl (PV.assign rfl) ?_
  refine WL.nilS ?_
  refine CW.seq ?_
  refine CW.seq ?_
  refine CW.reg ?_
  refine WL.pure rfl rfl rfl (PV.assign rfl) ?_
  refine WL.nilS ?_
  refine CW.block ?_
  refine CW.loop (σk := [(0, _)]) (fun ρ wz m => ∃ (i : Nat), ρ = [(1, .int .i64 (k + (i : Nat))), (5, .int .i64 (i : Nat))] ∧ m = xs.length - i ∧ UpdL [] w wz ∧ (i ≤ xs.length) ∧ (xs.take i = marksB k i)) (ρ₀ := [(1, _), (5, _)]) (m₀ := _) ⟨rfl, rfl, rfl, trivial⟩ ⟨0, (by simp), rfl, (UpdL.refl _ _), (by first | omega | rfl | (simp; done) | assumption | (simp_all; done)), (by simp [marksB])⟩ ?_
  rintro _ wl1 _ ⟨i, rfl, rfl, hU0, hi, he⟩
  have hB := hB.loop hU0 trivial
  refine CW.seq ?_
  refine CW.seq ?_
  refine CW.reg ?_
  refine WL.pure rfl rfl rfl (PV.move rfl) ?_
  refine WL.pure rfl rfl rfl (PV.move rfl) ?_
  refine WL.pure rfl rfl rfl ((by first | exact PV.len rfl (by assumption) T.sl28 | exact PV.lenOs rfl (by assumption) T.sl28 | exact PV.len rfl (NL.rd (by assumption)) T.sl28)) ?_
  refine WL.pure rfl rfl rfl (PV.lss rfl rfl) ?_
  refine WL.nilS ?_
  refine CW.cond rfl (fun hc1 => ?_) (fun hc1 => ?_)
  · skip
    try simp only [decide_eq_true_eq, decide_eq_false_iff_not, Bool.not_eq_true', Bool.not_eq_false', Bool.not_eq_eq_eq_not, Bool.not_true, Bool.not_false, Int.not_lt, Int.not_le, Classical.not_not, beq_iff_eq, beq_eq_false_iff_ne] at hc1
    refine CW.skipS ?_
    refine CW.seq ?_
    refine CW.block ?_
    refine CW.seq ?_
    refine CW.seq ?_
    refine CW.reg ?_
    refine WL.pure rfl rfl rfl (PV.move rfl) ?_
    refine WL.pure rfl rfl rfl (PV.move rfl) ?_
    first
      | refine WL.at (x := .tmp 12) (y := .tmp 13) (E := EB) (false) rfl rfl (by assumption) (by first | omega | (simp; omega) | (simp_all; omega)) (fun p1 csp1 hpp1 hcp1 hq => ?_)
      | refine WL.atZ (x := .tmp 12) (y := .tmp 13) (E := EB) (false) rfl rfl (by assumption) (by first | omega | (simp; omega) | (simp_all; omega)) (fun p1 csp1 hpp1 hzp1 hcp1 hq => ?_)
    cases hq
    refine WL.pure rfl rfl rfl ((by first | exact PV.indexAddr hpp1 rfl rfl T.sl28 | exact PV.indexAddr hpp1 rfl (by rw [← hzp1]; rfl) T.sl28)) ?_
    refine WL.pure rfl rfl rfl ((by first | exact PV.load0 T.na4 rfl (by first | exact Cells.up (by assumption) hB | exact Bx.cells (by assumption) | assumption) (Ext.refl _) rfl | exact PV.load1 T.na4 rfl (by first | exact Cells.up (by assumption) hB | exact Bx.cells (by assumption) | assumption) (Ext.refl _) rfl)) ?_
    refine WL.pure rfl rfl rfl (PV.move rfl) ?_
    refine WL.pure rfl rfl rfl (PV.rem rfl rfl (by omega) rfl) ?_
    refine WL.pure rfl rfl rfl (PV.eql rfl rfl) ?_
    refine WL.pure rfl rfl rfl (PV.neqB T.bl4 rfl rfl) ?_
    refine WL.nilS ?_
    refine CW.cond rfl (fun hc2 => ?_) (fun hc2 => ?_)
    · skip
      try simp only [decide_eq_true_eq, decide_eq_false_iff_not, Bool.not_eq_true', Bool.not_eq_false', Bool.not_eq_eq_eq_not, Bool.not_true, Bool.not_false, Int.not_lt, Int.not_le, Classical.not_not, beq_iff_eq, beq_eq_false_iff_ne] at hc2
      refine CW.seq ?_
      refine CW.reg ?_
      refine WL.pure rfl rfl rfl (PV.assign rfl) ?_
      refine WL.nilS ?_
      refine CW.ret ?_
      refine RQ.then ?_
      refine RQ.block ?_
      refine RQ.then ?_
      refine RQ.then ?_
      refine RQ.block ?_
      refine RQ.then ?_
      refine RQ.r1 rfl ?_
      refine ⟨?_, hB⟩
      first | (rw [if_neg (marksB_bad (i := i) (by omega) (by assumption))]) | (rw [if_pos (marksB_eq (i := i) (by omega) (by omega) he)]; exact iE (by omega))
    try simp only [decide_eq_true_eq, decide_eq_false_iff_not, Bool.not_eq_true', Bool.not_eq_false', Bool.not_eq_eq_eq_not, Bool.not_true, Bool.not_false, Int.not_lt, Int.not_le, Classical.not_not, beq_iff_eq, beq_eq_false_iff_ne] at hc2
    refine CW.skipS ?_
    refine CW.reg ?_
    refine WL.pure rfl rfl rfl (PV.move rfl) ?_
    refine WL.pure rfl rfl rfl (PV.add rfl rfl (by constructor <;> omega)) ?_
    refine WL.pure rfl rfl rfl (PV.assign rfl) ?_
    refine WL.nil ?_
    refine NQ.block ?_
    refine NQ.then ?_
    refine CW.reg ?_
    refine WL.pure rfl rfl rfl (PV.move rfl) ?_
    refine WL.pure rfl rfl rfl (PV.add rfl rfl (by constructor <;> omega)) ?_
    refine WL.pure rfl rfl rfl (PV.assign rfl) ?_
    refine WL.nil ?_
    refine NQ.next (ρ := [(1, _), (5, _)]) ⟨rfl, rfl, rfl, trivial⟩ ?_
    exact ⟨_, ⟨i + 1, (by simp; omega), rfl, hU0, (by first | omega | assumption | (simp_all; done) | (simp_all; omega)), (by exact marksB_step (by omega) he (by assumption))⟩, by omega⟩
  try simp only [decide_eq_true_eq, decide_eq_false_iff_not, Bool.not_eq_true', Bool.not_eq_false', Bool.not_eq_eq_eq_not, Bool.not_true, Bool.not_false, Int.not_lt, Int.not_le, Classical.not_not, beq_iff_eq, beq_eq_false_iff_ne] at hc1
  refine CW.exit ?_
  refine XQ.then ?_
  refine XQ.then ?_
  refine XQ.here ?_
  refine NQ.then ?_
  refine CW.seq ?_
  refine CW.reg ?_
  refine WL.pure rfl rfl rfl (PV.move rfl) ?_
  refine WL.pure rfl rfl rfl (PV.assign rfl) ?_
  refine WL.nilS ?_
  refine CW.ret ?_
  refine RQ.r1 rfl ?_
  refine ⟨?_, hB⟩
  first | (rw [if_neg (marksB_bad (i := i) (by omega) (by assumption))]) | (rw [if_pos (marksB_eq (i := i) (by omega) (by omega) he)]; exact iE (by omega))
theorem c_laws_heldSided {w : World} {a0 : Int} {a1 : Int} {va2 : Value} {xa2 : List R4} {va3 : Value} {xa3 : List Bool} {k : Int} (ha2 : Rd ER w va2 xa2) (ha3 : Rd EB w va3 xa3) (hk : 0 ≤ k ∧ k + 4 * xa2.length + xa3.length ≤ 9223372036854775807) : Calls Try.prog 43 #[.agg #[.int .i64 a0, .int .i64 a1, va2, va3], .int .i64 k] w (Ret1 (RQt (.int .i64 (if xa2 = marksR k xa2.length ∧ xa3 = marksB (k + 4 * xa2.length) xa3.length then k + 4 * xa2.length + xa3.length else -1)) w)) := by
  have hB : Ext w w := Ext.refl w
  have hla2 := ha2.leI; have hla3 := ha3.leI
  refine callsOf (vs := [_, _]) Try.func43 rfl Try.ntmps43 rfl rfl ?_
  refine CW.seq ?_
  refine CW.reg ?_
  refine WL.op rfl (OpK.box rfl rfl (by first | rfl | exact Rd.cells1 (by assumption) | exact Rd.cells1 (NL.rd (by assumption)) | exact Osl.cells1 (by assumption) | exact Osn.cells1 (by assumption)) (fun b1 w1 hXw1 hb1 hge1 => ?_))
  have hl1 := Lo.new hB hge1
  have hB := hB.trans hXw1
  refine WL.pure rfl rfl rfl (PV.assign rfl) ?_
  refine WL.nilS ?_
  refine CW.seq ?_
  refine CW.reg ?_
  refine WL.pure rfl rfl rfl ((by first | exact PV.fieldAddr T.fl62_2 rfl (by first | assumption | exact Bx.cells (by assumption)) | exact PV.fieldAddrP T.fl62_2 rfl rfl)) ?_
  refine WL.pure rfl rfl rfl ((by first | exact PV.load0 T.na60 rfl (by first | exact Cells.up (by assumption) hB | exact Bx.cells (by assumption) | assumption) (Ext.refl _) rfl | exact PV.load1 T.na60 rfl (by first | exact Cells.up (by assumption) hB | exact Bx.cells (by assumption) | assumption) (Ext.refl _) rfl)) ?_
  refine WL.pure rfl rfl rfl (PV.move rfl) ?_
  refine WL.op rfl (OpK.callR rfl T.cf92 rfl (c_laws_heldPairArcS (by first | assumption | exact Rd.up (by assumption) hB | exact Osl.rd (by assumption) | exact Osn.rdR (by assumption) | exact NL.rd (by assumption)) (by first | assumption | omega | (simp only [marks_len, marksB_len, marksR_len]; omega))) (fun w2 hXw2 => ?_))
  have hB := hB.trans hXw2
  have hb1 := hb1.up hXw2
  refine WL.pure rfl rfl rfl (PV.assign rfl) ?_
  refine WL.nilS ?_
  refine CW.seq ?_
  refine CW.seq ?_
  refine CW.reg ?_
  refine WL.pure rfl rfl rfl (PV.move rfl) ?_
  refine WL.pure rfl rfl rfl (PV.lss rfl rfl) ?_
  refine WL.nilS ?_
  refine CW.cond rfl (fun hc1 => ?_) (fun hc1 => ?_)
  · skip
    try simp only [decide_eq_true_eq, decide_eq_false_iff_not, Bool.not_eq_true', Bool.not_eq_false', Bool.not_eq_eq_eq_not, Bool.not_true, Bool.not_false, Int.not_lt, Int.not_le, Classical.not_not, beq_iff_eq, beq_eq_false_iff_ne] at hc1
    refine CW.seq ?_
    refine CW.reg ?_
    refine WL.pure rfl rfl rfl (PV.assign rfl) ?_
    refine WL.nilS ?_
    refine CW.ret ?_
    refine RQ.then ?_
    refine RQ.r1 rfl ?_
    refine ⟨?_, hB⟩
    first | rfl | (exact iE (by rw [if_neg (by intro h; have hn := held_no (by assumption) (by omega); first | exact hn h.1 | exact hn h.2)])) | (exact iE (by rw [if_pos ⟨by assumption, by assumption⟩]))
  try simp only [decide_eq_true_eq, decide_eq_false_iff_not, Bool.not_eq_true', Bool.not_eq_false', Bool.not_eq_eq_eq_not, Bool.not_true, Bool.not_false, Int.not_lt, Int.not_le, Classical.not_not, beq_iff_eq, beq_eq_false_iff_ne] at hc1
  obtain ⟨_, he1⟩ := held_ok (by assumption); rw [he1]; clear he1
  refine CW.skipS ?_
  refine CW.seq ?_
  refine CW.reg ?_
  refine WL.pure rfl rfl rfl ((by first | exact PV.fieldAddr T.fl62_3 rfl (by first | assumption | exact Bx.cells (by assumption)) | exact PV.fieldAddrP T.fl62_3 rfl rfl)) ?_
  refine WL.pure rfl rfl rfl ((by first | exact PV.load0 T.na28 rfl (by first | exact Cells.up (by assumption) hB | exact Bx.cells (by assumption) | assumption) (Ext.refl _) rfl | exact PV.load1 T.na28 rfl (by first | exact Cells.up (by assumption) hB | exact Bx.cells (by assumption) | assumption) (Ext.refl _) rfl)) ?_
  refine WL.pure rfl rfl rfl (PV.move rfl) ?_
  refine WL.op rfl (OpK.callR rfl T.cf93 rfl (c_laws_heldBoolS (by first | assumption | exact Rd.up (by assumption) hB | exact Osl.rd (by assumption) | exact Osn.rdR (by assumption) | exact NL.rd (by assumption)) (by first | assumption | omega | (simp only [marks_len, marksB_len, marksR_len]; omega))) (fun w3 hXw3 => ?_))
  have hB := hB.trans hXw3
  have hb1 := hb1.up hXw3
  refine WL.pure rfl rfl rfl (PV.assign rfl) ?_
  refine WL.nilS ?_
  refine CW.seq ?_
  refine CW.seq ?_
  refine CW.reg ?_
  refine WL.pure rfl rfl rfl (PV.move rfl) ?_
  refine WL.pure rfl rfl rfl (PV.lss rfl rfl) ?_
  refine WL.nilS ?_
  refine CW.cond rfl (fun hc2 => ?_) (fun hc2 => ?_)
  · skip
    try simp only [decide_eq_true_eq, decide_eq_false_iff_not, Bool.not_eq_true', Bool.not_eq_false', Bool.not_eq_eq_eq_not, Bool.not_true, Bool.not_false, Int.not_lt, Int.not_le, Classical.not_not, beq_iff_eq, beq_eq_false_iff_ne] at hc2
    refine CW.seq ?_
    refine CW.reg ?_
    refine WL.pure rfl rfl rfl (PV.assign rfl) ?_
    refine WL.nilS ?_
    refine CW.ret ?_
    refine RQ.then ?_
    refine RQ.r1 rfl ?_
    refine ⟨?_, hB⟩
    first | rfl | (exact iE (by rw [if_neg (by intro h; have hn := held_no (by assumption) (by omega); first | exact hn h.1 | exact hn h.2)])) | (exact iE (by rw [if_pos ⟨by assumption, by assumption⟩]))
  try simp only [decide_eq_true_eq, decide_eq_false_iff_not, Bool.not_eq_true', Bool.not_eq_false', Bool.not_eq_eq_eq_not, Bool.not_true, Bool.not_false, Int.not_lt, Int.not_le, Classical.not_not, beq_iff_eq, beq_eq_false_iff_ne] at hc2
  obtain ⟨_, he1⟩ := held_ok (by assumption); rw [he1]; clear he1
  refine CW.skipS ?_
  refine CW.seq ?_
  refine CW.reg ?_
  refine WL.pure rfl rfl rfl (PV.move rfl) ?_
  refine WL.pure rfl rfl rfl (PV.assign rfl) ?_
  refine WL.nilS ?_
  refine CW.ret ?_
  refine RQ.r1 rfl ?_
  refine ⟨?_, hB⟩
  first | rfl | (exact iE (by rw [if_neg (by intro h; have hn := held_no (by assumption) (by omega); first | exact hn h.1 | exact hn h.2)])) | (exact iE (by rw [if_pos ⟨by assumption, by assumption⟩]))
set_option maxHeartbeats 8000000 in
theorem c_laws_FnExactEitherSided {w : World} {a0 : Int} {a1 : Int} {va2 : Value} {xa2 : List R4} {va3 : Value} {xa3 : List Bool} {y0 : Int} {y1 : Int} {vy2 : Value} {xy2 : List R4} {vy3 : Value} {xy3 : List Bool}  (ha2 : Rd ER w va2 xa2) (ha3 : Rd EB w va3 xa3) (hy2 : Rd ER w vy2 xy2) (hy3 : Rd EB w vy3 xy3) : Calls Try.prog 10 #[.agg #[.int .i64 a0, .int .i64 a1, va2, va3], .agg #[.int .i64 y0, .int .i64 y1, vy2, vy3]] w (Ret1 (RQt (.bool true) w)) := by
  have hB : Ext w w := Ext.refl w
  have hla2 := ha2.leI; have hla3 := ha3.leI; have hly2 := hy2.leI; have hly3 := hy3.leI; have hcl := both_len (m := a0) (l := a1) (xs := xa2) (xe := xa3) (n := y0) (l' := y1) (ys := xy2) (ye := xy3); have hcl2 := hcl.1; have hcl3 := hcl.2
  refine callsOf (vs := [_, _]) Try.func10 rfl Try.ntmps10 rfl rfl ?_
  refine CW.seq ?_
  refine CW.reg ?_
  refine WL.op rfl (OpK.box rfl rfl (by first | rfl | exact Rd.cells1 (by assumption) | exact Rd.cells1 (NL.rd (by assumption)) | exact Osl.cells1 (by assumption) | exact Osn.cells1 (by assumption)) (fun b1 w1 hXw1 hb1 hge1 => ?_))
  have hl1 := Lo.new hB hge1
  have hB := hB.trans hXw1
  refine WL.op rfl (OpK.box rfl rfl (by first | rfl | exact Rd.cells1 (by assumption) | exact Rd.cells1 (NL.rd (by assumption)) | exact Osl.cells1 (by assumption) | exact Osn.cells1 (by assumption)) (fun b2 w2 hXw2 hb2 hge2 => ?_))
  have hl2 := Lo.new hB hge2
  have hd1_2 := Dj.new hb1.ltO hge2
  have hB := hB.trans hXw2
  have hb1 := hb1.up hXw2
  refine WL.pure rfl rfl rfl (PV.assign rfl) ?_
  refine WL.nilS ?_
  refine CW.seq ?_
  refine CW.reg ?_
  refine WL.pure rfl rfl rfl (PV.assign rfl) ?_
  refine WL.nilS ?_
  refine CW.seq ?_
  refine CW.reg ?_
  refine WL.pure rfl rfl rfl ((by first | exact PV.loadA T.ag58 rfl (by first | exact Cells.up (by assumption) hB | exact Bx.cells (by assumption) | assumption) (Ext.refl _) rfl | exact PV.loadP (ds := [_, _, _, _]) T.ag58 rfl (by first | exact Cells.up (by assumption) hB | exact Bx.cells (by assumption) | assumption) (Ext.refl _) rfl rfl)) ?_
  refine WL.pure rfl rfl rfl (PV.move rfl) ?_
  refine WL.op rfl (OpK.callR rfl T.cf37 rfl (c_laws_szSided (by first | assumption | exact Rd.up (by assumption) hB | exact Osl.rd (by assumption) | exact Osn.rdR (by assumption) | exact NL.rd (by assumption)) (by first | assumption | exact Rd.up (by assumption) hB | exact Osl.rd (by assumption) | exact Osn.rdR (by assumption) | exact NL.rd (by assumption)) (by first | assumption | omega | (simp only [marks_len, marksB_len, marksR_len]; omega))) (fun w3 hXw3 => ?_))
  have hB := hB.trans hXw3
  have hb1 := hb1.up hXw3
  have hb2 := hb2.up hXw3
  refine WL.pure rfl rfl rfl (PV.assign rfl) ?_
  refine WL.nilS ?_
  refine CW.seq ?_
  refine CW.seq ?_
  refine CW.reg ?_
  refine WL.pure rfl rfl rfl (PV.move rfl) ?_
  refine WL.pure rfl rfl rfl (PV.lss rfl rfl) ?_
  refine WL.nilS ?_
  refine CW.cond rfl (fun hc1 => ?_) (fun hc1 => ?_)
  · skip
    try simp only [decide_eq_true_eq, decide_eq_false_iff_not, Bool.not_eq_true', Bool.not_eq_false', Bool.not_eq_eq_eq_not, Bool.not_true, Bool.not_false, Int.not_lt, Int.not_le, Classical.not_not, beq_iff_eq, beq_eq_false_iff_ne] at hc1
    refine CW.seq ?_
    refine CW.reg ?_
    refine WL.pure rfl rfl rfl (PV.assign rfl) ?_
    refine WL.nilS ?_
    refine CW.ret ?_
    refine RQ.then ?_
    refine RQ.r1 rfl ?_
    refine ⟨?_, hB⟩
    first | rfl | (exfalso; revert hc1; simp; done) | (exfalso; revert hc1; simp; omega) | (exfalso; omega) | first | rfl | exact bT (by omega) | exact bF (by omega) | exact bD (by omega) | exact iE (by omega) | (simp_all; done) | (simp_all; omega) | (simp_all; intros; omega)
  try simp only [decide_eq_true_eq, decide_eq_false_iff_not, Bool.not_eq_true', Bool.not_eq_false', Bool.not_eq_eq_eq_not, Bool.not_true, Bool.not_false, Int.not_lt, Int.not_le, Classical.not_not, beq_iff_eq, beq_eq_false_iff_ne] at hc1
  refine CW.skipS ?_
  refine CW.seq ?_
  refine CW.reg ?_
  refine WL.pure rfl rfl rfl ((by first | exact PV.loadA T.ag58 rfl (by first | exact Cells.up (by assumption) hB | exact Bx.cells (by assumption) | assumption) (Ext.refl _) rfl | exact PV.loadP (ds := [_, _, _, _]) T.ag58 rfl (by first | exact Cells.up (by assumption) hB | exact Bx.cells (by assumption) | assumption) (Ext.refl _) rfl rfl)) ?_
  refine WL.pure rfl rfl rfl (PV.move rfl) ?_
  refine WL.op rfl (OpK.callR rfl T.cf37 rfl (c_laws_szSided (by first | assumption | exact Rd.up (by assumption) hB | exact Osl.rd (by assumption) | exact Osn.rdR (by assumption) | exact NL.rd (by assumption)) (by first | assumption | exact Rd.up (by assumption) hB | exact Osl.rd (by assumption) | exact Osn.rdR (by assumption) | exact NL.rd (by assumption)) (by first | assumption | omega | (simp only [marks_len, marksB_len, marksR_len]; omega))) (fun w4 hXw4 => ?_))
  have hB := hB.trans hXw4
  have hb1 := hb1.up hXw4
  have hb2 := hb2.up hXw4
  refine WL.pure rfl rfl rfl (PV.assign rfl) ?_
  refine WL.nilS ?_
  refine CW.seq ?_
  refine CW.seq ?_
  refine CW.reg ?_
  refine WL.pure rfl rfl rfl (PV.move rfl) ?_
  refine WL.pure rfl rfl rfl (PV.lss rfl rfl) ?_
  refine WL.nilS ?_
  refine CW.cond rfl (fun hc2 => ?_) (fun hc2 => ?_)
  · skip
    try simp only [decide_eq_true_eq, decide_eq_false_iff_not, Bool.not_eq_true', Bool.not_eq_false', Bool.not_eq_eq_eq_not, Bool.not_true, Bool.not_false, Int.not_lt, Int.not_le, Classical.not_not, beq_iff_eq, beq_eq_false_iff_ne] at hc2
    refine CW.seq ?_
    refine CW.reg ?_
    refine WL.pure rfl rfl rfl (PV.assign rfl) ?_
    refine WL.nilS ?_
    refine CW.ret ?_
    refine RQ.then ?_
    refine RQ.r1 rfl ?_
    refine ⟨?_, hB⟩
    first | rfl | (exfalso; revert hc2; simp; done) | (exfalso; revert hc2; simp; omega) | (exfalso; omega) | first | rfl | exact bT (by omega) | exact bF (by omega) | exact bD (by omega) | exact iE (by omega) | (simp_all; done) | (simp_all; omega) | (simp_all; intros; omega)
  try simp only [decide_eq_true_eq, decide_eq_false_iff_not, Bool.not_eq_true', Bool.not_eq_false', Bool.not_eq_eq_eq_not, Bool.not_true, Bool.not_false, Int.not_lt, Int.not_le, Classical.not_not, beq_iff_eq, beq_eq_false_iff_ne] at hc2
  refine CW.skipS ?_
  refine CW.cut (σk := [(2, _), (3, _)]) (fun ρ wz => ∃ (b3 : Addr) (v4 : Value) (og4 : Option Nat) (v5 : Value) (og5 : Option Nat), ρ = [(6, .pointer (some b3)), (7, .bool (bothB a0 a1 xa2 xa3 y0 y1 xy2 xy3))] ∧ Ext w4 wz ∧ Bx wz b3 [.int .i64 (onI (bothB a0 a1 xa2 xa3 y0 y1 xy2 xy3) (1 + a0 + y0)), .int .i64 (onI (bothB a0 a1 xa2 xa3 y0 y1 xy2 xy3) a1), v4, v5] ∧ Lo w (some b3.block) ∧ Osn 4 gR wz og4 v4 (onT (bothB a0 a1 xa2 xa3 y0 y1 xy2 xy3) (eA a0 xa2 xy2)) ∧ Lo w og4 ∧ Osl VB wz og5 v5 (onT (bothB a0 a1 xa2 xa3 y0 y1 xy2 xy3) (eE xa3 xy3)) ∧ Lo w og5 ∧ Dj (some b1.block) (some b3.block) ∧ Dj (some b1.block) og4 ∧ Dj (some b1.block) og5 ∧ Dj (some b2.block) (some b3.block) ∧ Dj (some b2.block) og4 ∧ Dj (some b2.block) og5 ∧ Dj (some b3.block) og4 ∧ Dj (some b3.block) og5 ∧ Dj og4 og5) ⟨rfl, rfl, trivial⟩ ?_ ?_
  · skip
    have hB0 := Ext.refl w4
    refine CW.draw T.mixed (by kernel_rfl) (fun _ _ _ _ _ h => h) (fun w8 w9 => Upd none w8 w9) 11 (.take 0 (.take 2 (.fork 1 8 (.fork 3 8 (.fork 4 8 (.take 5 (.take 6 (.take 7 (.must 8 (.must 9 (.take 10 .done)))))) (.must 4 (.take 5 (.take 6 (.take 7 (.must 9 (.take 10 .done))))))) (.must 3 (.must 4 (.take 5 (.take 6 (.take 7 (.must 9 (.take 10 .done)))))))) (.must 1 (.must 3 (.must 4 (.take 5 (.take 6 (.take 7 (.must 9 (.take 10 .done))))))))))) (by kernel_rfl) (fun w5 hXd => ?_)
    have hB := hB.trans hXd
    have hBc := (by first | exact hBc.trans hXd | exact hB0.trans hXd)
    have hb1 := hb1.up hXd
    have hb2 := hb2.up hXd
    have hBr := hB
    have hS : Upd none w5 w5 := Ext.toUpd (Ext.refl _)
    refine HP.take rfl rfl rfl rfl hS (fun wS hS1 => (by first | exact PV.loadA T.ag58 rfl (by first | exact Cells.up (by assumption) (hBr.trans hS1) | exact Bx.cells (Bx.updD (by assumption) hS1 (Dj.nlR _)) | exact Cells.upd (by assumption) hS1 (by simp)) (Ext.refl _) rfl | exact PV.loadP (ds := [_, _, _, _]) T.ag58 rfl (by first | exact Cells.up (by assumption) (hBr.trans hS1) | exact Bx.cells (Bx.updD (by assumption) hS1 (Dj.nlR _)) | exact Cells.upd (by assumption) hS1 (by simp)) (Ext.refl _) rfl rfl)) ?_
    refine HP.take rfl rfl rfl rfl hS (fun wS hS1 => (by first | exact PV.loadA T.ag58 rfl (by first | exact Cells.up (by assumption) (hBr.trans hS1) | exact Bx.cells (Bx.updD (by assumption) hS1 (Dj.nlR _)) | exact Cells.upd (by assumption) hS1 (by simp)) (Ext.refl _) rfl | exact PV.loadP (ds := [_, _, _, _]) T.ag58 rfl (by first | exact Cells.up (by assumption) (hBr.trans hS1) | exact Bx.cells (Bx.updD (by assumption) hS1 (Dj.nlR _)) | exact Cells.upd (by assumption) hS1 (by simp)) (Ext.refl _) rfl rfl)) ?_
    refine HP.fork rfl rfl rfl rfl ?_ ?_
    · skip
      refine (OpK.call rfl T.cf39 rfl (c_laws_toSided (by first | assumption | exact Rd.up (by assumption) hB | exact Osl.rd (by assumption) | exact Osn.rdR (by assumption) | exact NL.rd (by assumption)) (by first | assumption | exact Rd.up (by assumption) hB | exact Osl.rd (by assumption) | exact Osn.rdR (by assumption) | exact NL.rd (by assumption)) (by first | assumption | omega | (simp only [marks_len, marksB_len, marksR_len]; omega)) (by first | assumption | omega | (simp only [marks_len, marksB_len, marksR_len]; omega))) (fun rv1 w6 hR => ?_))
      obtain ⟨hXw6, v6, og6, v7, og7, rfl, ho6, hq6, ho7, hq7, hd6_7⟩ := hR
      have hl6 := Lo.up hq6 hB
      have hv6 := Lo.up hq6 hS
      have hd1_6 := Dj.lo hb1.ltO hq6
      have hd2_6 := Dj.lo hb2.ltO hq6
      have hl7 := Lo.up hq7 hB
      have hv7 := Lo.up hq7 hS
      have hd1_7 := Dj.lo hb1.ltO hq7
      have hd2_7 := Dj.lo hb2.ltO hq7
      refine ⟨Upd.trans hS hXw6, ?_⟩
      have hS := Upd.trans hS hXw6
      have hB := hB.trans hXw6
      have hBc := (by first | exact hBc.trans hXw6 | exact hB0.trans hXw6)
      have hb1 := hb1.up hXw6
      have hb2 := hb2.up hXw6
      refine HP.fork rfl rfl rfl rfl ?_ ?_
      · skip
        refine (OpK.call rfl T.cf39 rfl (c_laws_toSided (by first | assumption | exact Rd.up (by assumption) hB | exact Osl.rd (by assumption) | exact Osn.rdR (by assumption) | exact NL.rd (by assumption)) (by first | assumption | exact Rd.up (by assumption) hB | exact Osl.rd (by assumption) | exact Osn.rdR (by assumption) | exact NL.rd (by assumption)) (by first | assumption | omega | (simp only [marks_len, marksB_len, marksR_len]; omega)) (by first | assumption | omega | (simp only [marks_len, marksB_len, marksR_len]; omega))) (fun rv2 w7 hR => ?_))
        obtain ⟨hXw7, v8, og8, v9, og9, rfl, ho8, hq8, ho9, hq9, hd8_9⟩ := hR
        have hl8 := Lo.up hq8 hB
        have hv8 := Lo.up hq8 hS
        have hd1_8 := Dj.lo hb1.ltO hq8
        have hd2_8 := Dj.lo hb2.ltO hq8
        have hd6_8 := Dj.lo ho6.ltO hq8
        have hd7_8 := Dj.lo ho7.ltO hq8
        have hl9 := Lo.up hq9 hB
        have hv9 := Lo.up hq9 hS
        have hd1_9 := Dj.lo hb1.ltO hq9
        have hd2_9 := Dj.lo hb2.ltO hq9
        have hd6_9 := Dj.lo ho6.ltO hq9
        have hd7_9 := Dj.lo ho7.ltO hq9
        refine ⟨Upd.trans hS hXw7, ?_⟩
        have hS := Upd.trans hS hXw7
        have hB := hB.trans hXw7
        have hBc := (by first | exact hBc.trans hXw7 | exact hB0.trans hXw7)
        have hb1 := hb1.up hXw7
        have hb2 := hb2.up hXw7
        have ho6 := ho6.up hXw7
        have ho7 := ho7.up hXw7
        refine HP.fork rfl rfl rfl rfl ?_ ?_
        · skip
          refine (OpK.call rfl T.cf44 rfl (c_spec_EitherSided (by first | assumption | exact Rd.up (by assumption) hB | exact Osl.rd (by assumption) | exact Osn.rdR (by assumption) | exact NL.rd (by assumption)) (by first | assumption | exact Rd.up (by assumption) hB | exact Osl.rd (by assumption) | exact Osn.rdR (by assumption) | exact NL.rd (by assumption)) (by first | assumption | exact Rd.up (by assumption) hB | exact Osl.rd (by assumption) | exact Osn.rdR (by assumption) | exact NL.rd (by assumption)) (by first | assumption | exact Rd.up (by assumption) hB | exact Osl.rd (by assumption) | exact Osn.rdR (by assumption) | exact NL.rd (by assumption))) (fun rv3 w8 hR => ?_))
          obtain ⟨hXw8, v10, og10, v11, og11, rfl, ho10, hq10, ho11, hq11, hd10_11⟩ := hR
          have hl10 := Lo.up hq10 hB
          have hv10 := Lo.up hq10 hS
          have hd1_10 := Dj.lo hb1.ltO hq10
          have hd2_10 := Dj.lo hb2.ltO hq10
          have hd6_10 := Dj.lo ho6.ltO hq10
          have hd7_10 := Dj.lo ho7.ltO hq10
          have hd8_10 := Dj.lo ho8.ltO hq10
          have hd9_10 := Dj.lo ho9.ltO hq10
          have hl11 := Lo.up hq11 hB
          have hv11 := Lo.up hq11 hS
          have hd1_11 := Dj.lo hb1.ltO hq11
          have hd2_11 := Dj.lo hb2.ltO hq11
          have hd6_11 := Dj.lo ho6.ltO hq11
          have hd7_11 := Dj.lo ho7.ltO hq11
          have hd8_11 := Dj.lo ho8.ltO hq11
          have hd9_11 := Dj.lo ho9.ltO hq11
          refine ⟨Upd.trans hS hXw8, ?_⟩
          have hS := Upd.trans hS hXw8
          have hB := hB.trans hXw8
          have hBc := (by first | exact hBc.trans hXw8 | exact hB0.trans hXw8)
          have hb1 := hb1.up hXw8
          have hb2 := hb2.up hXw8
          have ho6 := ho6.up hXw8
          have ho7 := ho7.up hXw8
          have ho8 := ho8.up hXw8
          have ho9 := ho9.up hXw8
          refine HP.take rfl rfl rfl rfl hS (fun wS hS1 => PV.move rfl) ?_
          refine HP.take rfl rfl rfl rfl hS (fun wS hS1 => PV.extract rfl rfl) ?_
          refine HP.take rfl rfl rfl rfl hS (fun wS hS1 => PV.extract rfl rfl) ?_
          refine HP.must rfl rfl (OpK.alloc rfl T.zv62 rfl (fun b12 w9 hXw9 hb12 hge12 => ?_))
          have hl12 := Lo.new hB hge12
          have hv12 := Lo.new hS hge12
          have hd1_12 := Dj.new hb1.ltO hge12
          have hd2_12 := Dj.new hb2.ltO hge12
          have hd6_12 := Dj.new ho6.ltO hge12
          have hd7_12 := Dj.new ho7.ltO hge12
          have hd8_12 := Dj.new ho8.ltO hge12
          have hd9_12 := Dj.new ho9.ltO hge12
          have hd10_12 := Dj.new ho10.ltO hge12
          have hd11_12 := Dj.new ho11.ltO hge12
          refine ⟨Upd.trans hS hXw9, ?_⟩
          have hS := Upd.trans hS hXw9
          have hB := hB.trans hXw9
          have hBc := (by first | exact hBc.trans hXw9 | exact hB0.trans hXw9)
          have hb1 := hb1.up hXw9
          have hb2 := hb2.up hXw9
          have ho6 := ho6.up hXw9
          have ho7 := ho7.up hXw9
          have ho8 := ho8.up hXw9
          have ho9 := ho9.up hXw9
          have ho10 := ho10.up hXw9
          have ho11 := ho11.up hXw9
          refine HP.must rfl rfl (OpK.storeA T.sz62 rfl rfl rfl rfl (by simp [Value.oneCell'] <;> first | done | (repeat' apply And.intro) <;> first | rfl | exact Osl.oneCell (by assumption) | exact Osn.oneCell (by assumption) | exact Rd.oneCell (by assumption) | exact Rd.oneCell (NL.rd (by assumption)) | assumption) hb12 (fun w10 hXw10 hb12 => ?_))
          refine ⟨Ext.updL hS hXw10 hv12, ?_⟩
          have hS := Ext.updL hS hXw10 hv12
          have hB := hB.updL hXw10 hl12
          have hBc := hBc.updL hXw10 (Lo.up hv12 hXd)
          have hb1 := hb1.updD hXw10 hd1_12
          have hb2 := hb2.updD hXw10 hd2_12
          have ho6 := ho6.updD hXw10 hd6_12
          have ho7 := ho7.updD hXw10 hd7_12
          have ho8 := ho8.updD hXw10 hd8_12
          have ho9 := ho9.updD hXw10 hd9_12
          have ho10 := ho10.updD hXw10 hd10_12
          have ho11 := ho11.updD hXw10 hd11_12
          refine HP.take rfl rfl rfl rfl hS (fun wS hS1 => PV.assign rfl) ?_
          refine HP.done ?_
          exact NQ.cut (ρ := [(6, _), (7, _)]) ⟨rfl, rfl, rfl, rfl, trivial⟩ ⟨b12, v10, og10, v11, og11, rfl, hBc, hb12, hl12, ho10, hl10, ho11, hl11, hd1_12, hd1_10, hd1_11, hd2_12, hd2_10, hd2_11, (Dj.symm hd10_12), (Dj.symm hd11_12), hd10_11⟩
        · skip
          refine (OpK.alloc rfl T.zv62 rfl (fun b13 w11 hXw11 hb13 hge13 => ?_))
          have hl13 := Lo.new hB hge13
          have hv13 := Lo.new hS hge13
          have hd1_13 := Dj.new hb1.ltO hge13
          have hd2_13 := Dj.new hb2.ltO hge13
          have hd6_13 := Dj.new ho6.ltO hge13
          have hd7_13 := Dj.new ho7.ltO hge13
          have hd8_13 := Dj.new ho8.ltO hge13
          have hd9_13 := Dj.new ho9.ltO hge13
          refine ⟨Upd.trans hS hXw11, ?_⟩
          have hS := Upd.trans hS hXw11
          have hB := hB.trans hXw11
          have hBc := (by first | exact hBc.trans hXw11 | exact hB0.trans hXw11)
          have hb1 := hb1.up hXw11
          have hb2 := hb2.up hXw11
          have ho6 := ho6.up hXw11
          have ho7 := ho7.up hXw11
          have ho8 := ho8.up hXw11
          have ho9 := ho9.up hXw11
          refine HP.must rfl rfl (OpK.call rfl T.cf44 rfl (c_spec_EitherSided (by first | assumption | exact Rd.up (by assumption) hB | exact Osl.rd (by assumption) | exact Osn.rdR (by assumption) | exact NL.rd (by assumption)) (by first | assumption | exact Rd.up (by assumption) hB | exact Osl.rd (by assumption) | exact Osn.rdR (by assumption) | exact NL.rd (by assumption)) (by first | assumption | exact Rd.up (by assumption) hB | exact Osl.rd (by assumption) | exact Osn.rdR (by assumption) | exact NL.rd (by assumption)) (by first | assumption | exact Rd.up (by assumption) hB | exact Osl.rd (by assumption) | exact Osn.rdR (by assumption) | exact NL.rd (by assumption))) (fun rv4 w12 hR => ?_))
          obtain ⟨hXw12, v14, og14, v15, og15, rfl, ho14, hq14, ho15, hq15, hd14_15⟩ := hR
          have hl14 := Lo.up hq14 hB
          have hv14 := Lo.up hq14 hS
          have hd1_14 := Dj.lo hb1.ltO hq14
          have hd2_14 := Dj.lo hb2.ltO hq14
          have hd6_14 := Dj.lo ho6.ltO hq14
          have hd7_14 := Dj.lo ho7.ltO hq14
          have hd8_14 := Dj.lo ho8.ltO hq14
          have hd9_14 := Dj.lo ho9.ltO hq14
          have hd13_14 := Dj.lo hb13.ltO hq14
          have hl15 := Lo.up hq15 hB
          have hv15 := Lo.up hq15 hS
          have hd1_15 := Dj.lo hb1.ltO hq15
          have hd2_15 := Dj.lo hb2.ltO hq15
          have hd6_15 := Dj.lo ho6.ltO hq15
          have hd7_15 := Dj.lo ho7.ltO hq15
          have hd8_15 := Dj.lo ho8.ltO hq15
          have hd9_15 := Dj.lo ho9.ltO hq15
          have hd13_15 := Dj.lo hb13.ltO hq15
          refine ⟨Upd.trans hS hXw12, ?_⟩
          have hS := Upd.trans hS hXw12
          have hB := hB.trans hXw12
          have hBc := (by first | exact hBc.trans hXw12 | exact hB0.trans hXw12)
          have hb1 := hb1.up hXw12
          have hb2 := hb2.up hXw12
          have ho6 := ho6.up hXw12
          have ho7 := ho7.up hXw12
          have ho8 := ho8.up hXw12
          have ho9 := ho9.up hXw12
          have hb13 := hb13.up hXw12
          refine HP.take rfl rfl rfl rfl hS (fun wS hS1 => PV.move rfl) ?_
          refine HP.take rfl rfl rfl rfl hS (fun wS hS1 => PV.extract rfl rfl) ?_
          refine HP.take rfl rfl rfl rfl hS (fun wS hS1 => PV.extract rfl rfl) ?_
          refine HP.must rfl rfl (OpK.storeA T.sz62 rfl rfl rfl rfl (by simp [Value.oneCell'] <;> first | done | (repeat' apply And.intro) <;> first | rfl | exact Osl.oneCell (by assumption) | exact Osn.oneCell (by assumption) | exact Rd.oneCell (by assumption) | exact Rd.oneCell (NL.rd (by assumption)) | assumption) hb13 (fun w13 hXw13 hb13 => ?_))
          refine ⟨Ext.updL hS hXw13 hv13, ?_⟩
          have hS := Ext.updL hS hXw13 hv13
          have hB := hB.updL hXw13 hl13
          have hBc := hBc.updL hXw13 (Lo.up hv13 hXd)
          have hb1 := hb1.updD hXw13 hd1_13
          have hb2 := hb2.updD hXw13 hd2_13
          have ho6 := ho6.updD hXw13 hd6_13
          have ho7 := ho7.updD hXw13 hd7_13
          have ho8 := ho8.updD hXw13 hd8_13
          have ho9 := ho9.updD hXw13 hd9_13
          have ho14 := ho14.updD hXw13 (Dj.symm hd13_14)
          have ho15 := ho15.updD hXw13 (Dj.symm hd13_15)
          refine HP.take rfl rfl rfl rfl hS (fun wS hS1 => PV.assign rfl) ?_
          refine HP.done ?_
          exact NQ.cut (ρ := [(6, _), (7, _)]) ⟨rfl, rfl, rfl, rfl, trivial⟩ ⟨b13, v14, og14, v15, og15, rfl, hBc, hb13, hl13, ho14, hl14, ho15, hl15, hd1_13, hd1_14, hd1_15, hd2_13, hd2_14, hd2_15, hd13_14, hd13_15, hd14_15⟩
      · skip
        refine (OpK.alloc rfl T.zv62 rfl (fun b16 w14 hXw14 hb16 hge16 => ?_))
        have hl16 := Lo.new hB hge16
        have hv16 := Lo.new hS hge16
        have hd1_16 := Dj.new hb1.ltO hge16
        have hd2_16 := Dj.new hb2.ltO hge16
        have hd6_16 := Dj.new ho6.ltO hge16
        have hd7_16 := Dj.new ho7.ltO hge16
        refine ⟨Upd.trans hS hXw14, ?_⟩
        have hS := Upd.trans hS hXw14
        have hB := hB.trans hXw14
        have hBc := (by first | exact hBc.trans hXw14 | exact hB0.trans hXw14)
        have hb1 := hb1.up hXw14
        have hb2 := hb2.up hXw14
        have ho6 := ho6.up hXw14
        have ho7 := ho7.up hXw14
        refine HP.must rfl rfl (OpK.call rfl T.cf39 rfl (c_laws_toSided (by first | assumption | exact Rd.up (by assumption) hB | exact Osl.rd (by assumption) | exact Osn.rdR (by assumption) | exact NL.rd (by assumption)) (by first | assumption | exact Rd.up (by assumption) hB | exact Osl.rd (by assumption) | exact Osn.rdR (by assumption) | exact NL.rd (by assumption)) (by first | assumption | omega | (simp only [marks_len, marksB_len, marksR_len]; omega)) (by first | assumption | omega | (simp only [marks_len, marksB_len, marksR_len]; omega))) (fun rv5 w15 hR => ?_))
        obtain ⟨hXw15, v17, og17, v18, og18, rfl, ho17, hq17, ho18, hq18, hd17_18⟩ := hR
        have hl17 := Lo.up hq17 hB
        have hv17 := Lo.up hq17 hS
        have hd1_17 := Dj.lo hb1.ltO hq17
        have hd2_17 := Dj.lo hb2.ltO hq17
        have hd6_17 := Dj.lo ho6.ltO hq17
        have hd7_17 := Dj.lo ho7.ltO hq17
        have hd16_17 := Dj.lo hb16.ltO hq17
        have hl18 := Lo.up hq18 hB
        have hv18 := Lo.up hq18 hS
        have hd1_18 := Dj.lo hb1.ltO hq18
        have hd2_18 := Dj.lo hb2.ltO hq18
        have hd6_18 := Dj.lo ho6.ltO hq18
        have hd7_18 := Dj.lo ho7.ltO hq18
        have hd16_18 := Dj.lo hb16.ltO hq18
        refine ⟨Upd.trans hS hXw15, ?_⟩
        have hS := Upd.trans hS hXw15
        have hB := hB.trans hXw15
        have hBc := (by first | exact hBc.trans hXw15 | exact hB0.trans hXw15)
        have hb1 := hb1.up hXw15
        have hb2 := hb2.up hXw15
        have ho6 := ho6.up hXw15
        have ho7 := ho7.up hXw15
        have hb16 := hb16.up hXw15
        refine HP.must rfl rfl (OpK.call rfl T.cf44 rfl (c_spec_EitherSided (by first | assumption | exact Rd.up (by assumption) hB | exact Osl.rd (by assumption) | exact Osn.rdR (by assumption) | exact NL.rd (by assumption)) (by first | assumption | exact Rd.up (by assumption) hB | exact Osl.rd (by assumption) | exact Osn.rdR (by assumption) | exact NL.rd (by assumption)) (by first | assumption | exact Rd.up (by assumption) hB | exact Osl.rd (by assumption) | exact Osn.rdR (by assumption) | exact NL.rd (by assumption)) (by first | assumption | exact Rd.up (by assumption) hB | exact Osl.rd (by assumption) | exact Osn.rdR (by assumption) | exact NL.rd (by assumption))) (fun rv6 w16 hR => ?_))
        obtain ⟨hXw16, v19, og19, v20, og20, rfl, ho19, hq19, ho20, hq20, hd19_20⟩ := hR
        have hl19 := Lo.up hq19 hB
        have hv19 := Lo.up hq19 hS
        have hd1_19 := Dj.lo hb1.ltO hq19
        have hd2_19 := Dj.lo hb2.ltO hq19
        have hd6_19 := Dj.lo ho6.ltO hq19
        have hd7_19 := Dj.lo ho7.ltO hq19
        have hd16_19 := Dj.lo hb16.ltO hq19
        have hd17_19 := Dj.lo ho17.ltO hq19
        have hd18_19 := Dj.lo ho18.ltO hq19
        have hl20 := Lo.up hq20 hB
        have hv20 := Lo.up hq20 hS
        have hd1_20 := Dj.lo hb1.ltO hq20
        have hd2_20 := Dj.lo hb2.ltO hq20
        have hd6_20 := Dj.lo ho6.ltO hq20
        have hd7_20 := Dj.lo ho7.ltO hq20
        have hd16_20 := Dj.lo hb16.ltO hq20
        have hd17_20 := Dj.lo ho17.ltO hq20
        have hd18_20 := Dj.lo ho18.ltO hq20
        refine ⟨Upd.trans hS hXw16, ?_⟩
        have hS := Upd.trans hS hXw16
        have hB := hB.trans hXw16
        have hBc := (by first | exact hBc.trans hXw16 | exact hB0.trans hXw16)
        have hb1 := hb1.up hXw16
        have hb2 := hb2.up hXw16
        have ho6 := ho6.up hXw16
        have ho7 := ho7.up hXw16
        have hb16 := hb16.up hXw16
        have ho17 := ho17.up hXw16
        have ho18 := ho18.up hXw16
        refine HP.take rfl rfl rfl rfl hS (fun wS hS1 => PV.move rfl) ?_
        refine HP.take rfl rfl rfl rfl hS (fun wS hS1 => PV.extract rfl rfl) ?_
        refine HP.take rfl rfl rfl rfl hS (fun wS hS1 => PV.extract rfl rfl) ?_
        refine HP.must rfl rfl (OpK.storeA T.sz62 rfl rfl rfl rfl (by simp [Value.oneCell'] <;> first | done | (repeat' apply And.intro) <;> first | rfl | exact Osl.oneCell (by assumption) | exact Osn.oneCell (by assumption) | exact Rd.oneCell (by assumption) | exact Rd.oneCell (NL.rd (by assumption)) | assumption) hb16 (fun w17 hXw17 hb16 => ?_))
        refine ⟨Ext.updL hS hXw17 hv16, ?_⟩
        have hS := Ext.updL hS hXw17 hv16
        have hB := hB.updL hXw17 hl16
        have hBc := hBc.updL hXw17 (Lo.up hv16 hXd)
        have hb1 := hb1.updD hXw17 hd1_16
        have hb2 := hb2.updD hXw17 hd2_16
        have ho6 := ho6.updD hXw17 hd6_16
        have ho7 := ho7.updD hXw17 hd7_16
        have ho17 := ho17.updD hXw17 (Dj.symm hd16_17)
        have ho18 := ho18.updD hXw17 (Dj.symm hd16_18)
        have ho19 := ho19.updD hXw17 (Dj.symm hd16_19)
        have ho20 := ho20.updD hXw17 (Dj.symm hd16_20)
        refine HP.take rfl rfl rfl rfl hS (fun wS hS1 => PV.assign rfl) ?_
        refine HP.done ?_
        exact NQ.cut (ρ := [(6, _), (7, _)]) ⟨rfl, rfl, rfl, rfl, trivial⟩ ⟨b16, v19, og19, v20, og20, rfl, hBc, hb16, hl16, ho19, hl19, ho20, hl20, hd1_16, hd1_19, hd1_20, hd2_16, hd2_19, hd2_20, hd16_19, hd16_20, hd19_20⟩
    · skip
      refine (OpK.alloc rfl T.zv62 rfl (fun b21 w18 hXw18 hb21 hge21 => ?_))
      have hl21 := Lo.new hB hge21
      have hv21 := Lo.new hS hge21
      have hd1_21 := Dj.new hb1.ltO hge21
      have hd2_21 := Dj.new hb2.ltO hge21
      refine ⟨Upd.trans hS hXw18, ?_⟩
      have hS := Upd.trans hS hXw18
      have hB := hB.trans hXw18
      have hBc := (by first | exact hBc.trans hXw18 | exact hB0.trans hXw18)
      have hb1 := hb1.up hXw18
      have hb2 := hb2.up hXw18
      refine HP.must rfl rfl (OpK.call rfl T.cf39 rfl (c_laws_toSided (by first | assumption | exact Rd.up (by assumption) hB | exact Osl.rd (by assumption) | exact Osn.rdR (by assumption) | exact NL.rd (by assumption)) (by first | assumption | exact Rd.up (by assumption) hB | exact Osl.rd (by assumption) | exact Osn.rdR (by assumption) | exact NL.rd (by assumption)) (by first | assumption | omega | (simp only [marks_len, marksB_len, marksR_len]; omega)) (by first | assumption | omega | (simp only [marks_len, marksB_len, marksR_len]; omega))) (fun rv7 w19 hR => ?_))
      obtain ⟨hXw19, v22, og22, v23, og23, rfl, ho22, hq22, ho23, hq23, hd22_23⟩ := hR
      have hl22 := Lo.up hq22 hB
      have hv22 := Lo.up hq22 hS
      have hd1_22 := Dj.lo hb1.ltO hq22
      have hd2_22 := Dj.lo hb2.ltO hq22
      have hd21_22 := Dj.lo hb21.ltO hq22
      have hl23 := Lo.up hq23 hB
      have hv23 := Lo.up hq23 hS
      have hd1_23 := Dj.lo hb1.ltO hq23
      have hd2_23 := Dj.lo hb2.ltO hq23
      have hd21_23 := Dj.lo hb21.ltO hq23
      refine ⟨Upd.trans hS hXw19, ?_⟩
      have hS := Upd.trans hS hXw19
      have hB := hB.trans hXw19
      have hBc := (by first | exact hBc.trans hXw19 | exact hB0.trans hXw19)
      have hb1 := hb1.up hXw19
      have hb2 := hb2.up hXw19
      have hb21 := hb21.up hXw19
      refine HP.must rfl rfl (OpK.call rfl T.cf39 rfl (c_laws_toSided (by first | assumption | exact Rd.up (by assumption) hB | exact Osl.rd (by assumption) | exact Osn.rdR (by assumption) | exact NL.rd (by assumption)) (by first | assumption | exact Rd.up (by assumption) hB | exact Osl.rd (by assumption) | exact Osn.rdR (by assumption) | exact NL.rd (by assumption)) (by first | assumption | omega | (simp only [marks_len, marksB_len, marksR_len]; omega)) (by first | assumption | omega | (simp only [marks_len, marksB_len, marksR_len]; omega))) (fun rv8 w20 hR => ?_))
      obtain ⟨hXw20, v24, og24, v25, og25, rfl, ho24, hq24, ho25, hq25, hd24_25⟩ := hR
      have hl24 := Lo.up hq24 hB
      have hv24 := Lo.up hq24 hS
      have hd1_24 := Dj.lo hb1.ltO hq24
      have hd2_24 := Dj.lo hb2.ltO hq24
      have hd21_24 := Dj.lo hb21.ltO hq24
      have hd22_24 := Dj.lo ho22.ltO hq24
      have hd23_24 := Dj.lo ho23.ltO hq24
      have hl25 := Lo.up hq25 hB
      have hv25 := Lo.up hq25 hS
      have hd1_25 := Dj.lo hb1.ltO hq25
      have hd2_25 := Dj.lo hb2.ltO hq25
      have hd21_25 := Dj.lo hb21.ltO hq25
      have hd22_25 := Dj.lo ho22.ltO hq25
      have hd23_25 := Dj.lo ho23.ltO hq25
      refine ⟨Upd.trans hS hXw20, ?_⟩
      have hS := Upd.trans hS hXw20
      have hB := hB.trans hXw20
      have hBc := (by first | exact hBc.trans hXw20 | exact hB0.trans hXw20)
      have hb1 := hb1.up hXw20
      have hb2 := hb2.up hXw20
      have hb21 := hb21.up hXw20
      have ho22 := ho22.up hXw20
      have ho23 := ho23.up hXw20
      refine HP.must rfl rfl (OpK.call rfl T.cf44 rfl (c_spec_EitherSided (by first | assumption | exact Rd.up (by assumption) hB | exact Osl.rd (by assumption) | exact Osn.rdR (by assumption) | exact NL.rd (by assumption)) (by first | assumption | exact Rd.up (by assumption) hB | exact Osl.rd (by assumption) | exact Osn.rdR (by assumption) | exact NL.rd (by assumption)) (by first | assumption | exact Rd.up (by assumption) hB | exact Osl.rd (by assumption) | exact Osn.rdR (by assumption) | exact NL.rd (by assumption)) (by first | assumption | exact Rd.up (by assumption) hB | exact Osl.rd (by assumption) | exact Osn.rdR (by assumption) | exact NL.rd (by assumption))) (fun rv9 w21 hR => ?_))
      obtain ⟨hXw21, v26, og26, v27, og27, rfl, ho26, hq26, ho27, hq27, hd26_27⟩ := hR
      have hl26 := Lo.up hq26 hB
      have hv26 := Lo.up hq26 hS
      have hd1_26 := Dj.lo hb1.ltO hq26
      have hd2_26 := Dj.lo hb2.ltO hq26
      have hd21_26 := Dj.lo hb21.ltO hq26
      have hd22_26 := Dj.lo ho22.ltO hq26
      have hd23_26 := Dj.lo ho23.ltO hq26
      have hd24_26 := Dj.lo ho24.ltO hq26
      have hd25_26 := Dj.lo ho25.ltO hq26
      have hl27 := Lo.up hq27 hB
      have hv27 := Lo.up hq27 hS
      have hd1_27 := Dj.lo hb1.ltO hq27
      have hd2_27 := Dj.lo hb2.ltO hq27
      have hd21_27 := Dj.lo hb21.ltO hq27
      have hd22_27 := Dj.lo ho22.ltO hq27
      have hd23_27 := Dj.lo ho23.ltO hq27
      have hd24_27 := Dj.lo ho24.ltO hq27
      have hd25_27 := Dj.lo ho25.ltO hq27
      refine ⟨Upd.trans hS hXw21, ?_⟩
      have hS := Upd.trans hS hXw21
      have hB := hB.trans hXw21
      have hBc := (by first | exact hBc.trans hXw21 | exact hB0.trans hXw21)
      have hb1 := hb1.up hXw21
      have hb2 := hb2.up hXw21
      have hb21 := hb21.up hXw21
      have ho22 := ho22.up hXw21
      have ho23 := ho23.up hXw21
      have ho24 := ho24.up hXw21
      have ho25 := ho25.up hXw21
      refine HP.take rfl rfl rfl rfl hS (fun wS hS1 => PV.move rfl) ?_
      refine HP.take rfl rfl rfl rfl hS (fun wS hS1 => PV.extract rfl rfl) ?_
      refine HP.take rfl rfl rfl rfl hS (fun wS hS1 => PV.extract rfl rfl) ?_
      refine HP.must rfl rfl (OpK.storeA T.sz62 rfl rfl rfl rfl (by simp [Value.oneCell'] <;> first | done | (repeat' apply And.intro) <;> first | rfl | exact Osl.oneCell (by assumption) | exact Osn.oneCell (by assumption) | exact Rd.oneCell (by assumption) | exact Rd.oneCell (NL.rd (by assumption)) | assumption) hb21 (fun w22 hXw22 hb21 => ?_))
      refine ⟨Ext.updL hS hXw22 hv21, ?_⟩
      have hS := Ext.updL hS hXw22 hv21
      have hB := hB.updL hXw22 hl21
      have hBc := hBc.updL hXw22 (Lo.up hv21 hXd)
      have hb1 := hb1.updD hXw22 hd1_21
      have hb2 := hb2.updD hXw22 hd2_21
      have ho22 := ho22.updD hXw22 (Dj.symm hd21_22)
      have ho23 := ho23.updD hXw22 (Dj.symm hd21_23)
      have ho24 := ho24.updD hXw22 (Dj.symm hd21_24)
      have ho25 := ho25.updD hXw22 (Dj.symm hd21_25)
      have ho26 := ho26.updD hXw22 (Dj.symm hd21_26)
      have ho27 := ho27.updD hXw22 (Dj.symm hd21_27)
      refine HP.take rfl rfl rfl rfl hS (fun wS hS1 => PV.assign rfl) ?_
      refine HP.done ?_
      exact NQ.cut (ρ := [(6, _), (7, _)]) ⟨rfl, rfl, rfl, rfl, trivial⟩ ⟨b21, v26, og26, v27, og27, rfl, hBc, hb21, hl21, ho26, hl26, ho27, hl27, hd1_21, hd1_26, hd1_27, hd2_21, hd2_26, hd2_27, hd21_26, hd21_27, hd26_27⟩
  rintro _ wc1 ⟨b3, v4, og4, v5, og5, rfl, hXc, hb3, hl3, ho4, hl4, ho5, hl5, hd1_3, hd1_4, hd1_5, hd2_3, hd2_4, hd2_5, hd3_4, hd3_5, hd4_5⟩
  have hB := hB.trans hXc
  have hb1 := hb1.up hXc
  have hb2 := hb2.up hXc
  refine CW.seq ?_
  refine CW.reg ?_
  refine WL.pure rfl rfl rfl ((by first | exact PV.loadA T.ag58 rfl (by first | exact Cells.up (by assumption) hB | exact Bx.cells (by assumption) | assumption) (Ext.refl _) rfl | exact PV.loadP (ds := [_, _, _, _]) T.ag58 rfl (by first | exact Cells.up (by assumption) hB | exact Bx.cells (by assumption) | assumption) (Ext.refl _) rfl rfl)) ?_
  refine WL.op rfl (OpK.call rfl T.cf39 rfl (c_laws_toSided (by first | assumption | exact Rd.up (by assumption) hB | exact Osl.rd (by assumption) | exact Osn.rdR (by assumption) | exact NL.rd (by assumption)) (by first | assumption | exact Rd.up (by assumption) hB | exact Osl.rd (by assumption) | exact Osn.rdR (by assumption) | exact NL.rd (by assumption)) (by first | assumption | omega | (simp only [marks_len, marksB_len, marksR_len]; omega)) (by first | assumption | omega | (simp only [marks_len, marksB_len, marksR_len]; omega))) (fun rv10 w23 hR => ?_))
  obtain ⟨hXw23, v28, og28, v29, og29, rfl, ho28, hq28, ho29, hq29, hd28_29⟩ := hR
  have hl28 := Lo.up hq28 hB
  have hd1_28 := Dj.lo hb1.ltO hq28
  have hd2_28 := Dj.lo hb2.ltO hq28
  have hd3_28 := Dj.lo hb3.ltO hq28
  have hd4_28 := Dj.lo ho4.ltO hq28
  have hd5_28 := Dj.lo ho5.ltO hq28
  have hl29 := Lo.up hq29 hB
  have hd1_29 := Dj.lo hb1.ltO hq29
  have hd2_29 := Dj.lo hb2.ltO hq29
  have hd3_29 := Dj.lo hb3.ltO hq29
  have hd4_29 := Dj.lo ho4.ltO hq29
  have hd5_29 := Dj.lo ho5.ltO hq29
  have hB := hB.trans hXw23
  have hb1 := hb1.up hXw23
  have hb2 := hb2.up hXw23
  have hb3 := hb3.up hXw23
  have ho4 := ho4.up hXw23
  have ho5 := ho5.up hXw23
  refine WL.op rfl (OpK.alloc rfl T.zv62 rfl (fun b30 w24 hXw24 hb30 hge30 => ?_))
  have hl30 := Lo.new hB hge30
  have hd1_30 := Dj.new hb1.ltO hge30
  have hd2_30 := Dj.new hb2.ltO hge30
  have hd3_30 := Dj.new hb3.ltO hge30
  have hd4_30 := Dj.new ho4.ltO hge30
  have hd5_30 := Dj.new ho5.ltO hge30
  have hd28_30 := Dj.new ho28.ltO hge30
  have hd29_30 := Dj.new ho29.ltO hge30
  have hB := hB.trans hXw24
  have hb1 := hb1.up hXw24
  have hb2 := hb2.up hXw24
  have hb3 := hb3.up hXw24
  have ho4 := ho4.up hXw24
  have ho5 := ho5.up hXw24
  have ho28 := ho28.up hXw24
  have ho29 := ho29.up hXw24
  refine WL.op rfl (OpK.storeA T.sz62 rfl rfl rfl rfl (by simp [Value.oneCell'] <;> first | done | (repeat' apply And.intro) <;> first | rfl | exact Osl.oneCell (by assumption) | exact Osn.oneCell (by assumption) | exact Rd.oneCell (by assumption) | exact Rd.oneCell (NL.rd (by assumption)) | assumption) hb30 (fun w25 hXw25 hb30 => ?_))
  have hB := hB.updL hXw25 hl30
  have hb1 := hb1.updD hXw25 hd1_30
  have hb2 := hb2.updD hXw25 hd2_30
  have hb3 := hb3.updD hXw25 hd3_30
  have ho4 := ho4.updD hXw25 hd4_30
  have ho5 := ho5.updD hXw25 hd5_30
  have ho28 := ho28.updD hXw25 hd28_30
  have ho29 := ho29.updD hXw25 hd29_30
  refine WL.nilS ?_
  refine CW.seq ?_
  refine CW.reg ?_
  refine WL.pure rfl rfl rfl ((by first | exact PV.loadA T.ag58 rfl (by first | exact Cells.up (by assumption) hB | exact Bx.cells (by assumption) | assumption) (Ext.refl _) rfl | exact PV.loadP (ds := [_, _, _, _]) T.ag58 rfl (by first | exact Cells.up (by assumption) hB | exact Bx.cells (by assumption) | assumption) (Ext.refl _) rfl rfl)) ?_
  refine WL.op rfl (OpK.call rfl T.cf39 rfl (c_laws_toSided (by first | assumption | exact Rd.up (by assumption) hB | exact Osl.rd (by assumption) | exact Osn.rdR (by assumption) | exact NL.rd (by assumption)) (by first | assumption | exact Rd.up (by assumption) hB | exact Osl.rd (by assumption) | exact Osn.rdR (by assumption) | exact NL.rd (by assumption)) (by first | assumption | omega | (simp only [marks_len, marksB_len, marksR_len]; omega)) (by first | assumption | omega | (simp only [marks_len, marksB_len, marksR_len]; omega))) (fun rv11 w26 hR => ?_))
  obtain ⟨hXw26, v31, og31, v32, og32, rfl, ho31, hq31, ho32, hq32, hd31_32⟩ := hR
  have hl31 := Lo.up hq31 hB
  have hd1_31 := Dj.lo hb1.ltO hq31
  have hd2_31 := Dj.lo hb2.ltO hq31
  have hd3_31 := Dj.lo hb3.ltO hq31
  have hd4_31 := Dj.lo ho4.ltO hq31
  have hd5_31 := Dj.lo ho5.ltO hq31
  have hd28_31 := Dj.lo ho28.ltO hq31
  have hd29_31 := Dj.lo ho29.ltO hq31
  have hd30_31 := Dj.lo hb30.ltO hq31
  have hl32 := Lo.up hq32 hB
  have hd1_32 := Dj.lo hb1.ltO hq32
  have hd2_32 := Dj.lo hb2.ltO hq32
  have hd3_32 := Dj.lo hb3.ltO hq32
  have hd4_32 := Dj.lo ho4.ltO hq32
  have hd5_32 := Dj.lo ho5.ltO hq32
  have hd28_32 := Dj.lo ho28.ltO hq32
  have hd29_32 := Dj.lo ho29.ltO hq32
  have hd30_32 := Dj.lo hb30.ltO hq32
  have hB := hB.trans hXw26
  have hb1 := hb1.up hXw26
  have hb2 := hb2.up hXw26
  have hb3 := hb3.up hXw26
  have ho4 := ho4.up hXw26
  have ho5 := ho5.up hXw26
  have ho28 := ho28.up hXw26
  have ho29 := ho29.up hXw26
  have hb30 := hb30.up hXw26
  refine WL.op rfl (OpK.alloc rfl T.zv62 rfl (fun b33 w27 hXw27 hb33 hge33 => ?_))
  have hl33 := Lo.new hB hge33
  have hd1_33 := Dj.new hb1.ltO hge33
  have hd2_33 := Dj.new hb2.ltO hge33
  have hd3_33 := Dj.new hb3.ltO hge33
  have hd4_33 := Dj.new ho4.ltO hge33
  have hd5_33 := Dj.new ho5.ltO hge33
  have hd28_33 := Dj.new ho28.ltO hge33
  have hd29_33 := Dj.new ho29.ltO hge33
  have hd30_33 := Dj.new hb30.ltO hge33
  have hd31_33 := Dj.new ho31.ltO hge33
  have hd32_33 := Dj.new ho32.ltO hge33
  have hB := hB.trans hXw27
  have hb1 := hb1.up hXw27
  have hb2 := hb2.up hXw27
  have hb3 := hb3.up hXw27
  have ho4 := ho4.up hXw27
  have ho5 := ho5.up hXw27
  have ho28 := ho28.up hXw27
  have ho29 := ho29.up hXw27
  have hb30 := hb30.up hXw27
  have ho31 := ho31.up hXw27
  have ho32 := ho32.up hXw27
  refine WL.op rfl (OpK.storeA T.sz62 rfl rfl rfl rfl (by simp [Value.oneCell'] <;> first | done | (repeat' apply And.intro) <;> first | rfl | exact Osl.oneCell (by assumption) | exact Osn.oneCell (by assumption) | exact Rd.oneCell (by assumption) | exact Rd.oneCell (NL.rd (by assumption)) | assumption) hb33 (fun w28 hXw28 hb33 => ?_))
  have hB := hB.updL hXw28 hl33
  have hb1 := hb1.updD hXw28 hd1_33
  have hb2 := hb2.updD hXw28 hd2_33
  have hb3 := hb3.updD hXw28 hd3_33
  have ho4 := ho4.updD hXw28 hd4_33
  have ho5 := ho5.updD hXw28 hd5_33
  have ho28 := ho28.updD hXw28 hd28_33
  have ho29 := ho29.updD hXw28 hd29_33
  have hb30 := hb30.updD hXw28 hd30_33
  have ho31 := ho31.updD hXw28 hd31_33
  have ho32 := ho32.updD hXw28 hd32_33
  refine WL.nilS ?_
  refine CW.seq ?_
  refine CW.reg ?_
  refine WL.pure rfl rfl rfl ((by first | exact PV.loadA T.ag62 rfl (by first | exact Cells.up (by assumption) hB | exact Bx.cells (by assumption) | assumption) (Ext.refl _) rfl | exact PV.loadP (ds := [_, _, _, _]) T.ag62 rfl (by first | exact Cells.up (by assumption) hB | exact Bx.cells (by assumption) | assumption) (Ext.refl _) rfl rfl)) ?_
  refine WL.pure rfl rfl rfl ((by first | exact PV.loadA T.ag62 rfl (by first | exact Cells.up (by assumption) hB | exact Bx.cells (by assumption) | assumption) (Ext.refl _) rfl | exact PV.loadP (ds := [_, _, _, _]) T.ag62 rfl (by first | exact Cells.up (by assumption) hB | exact Bx.cells (by assumption) | assumption) (Ext.refl _) rfl rfl)) ?_
  refine WL.op rfl (OpK.call rfl T.cf45 rfl (c_impl_EitherSided (by first | assumption | exact Rd.up (by assumption) hB | exact Osl.rd (by assumption) | exact Osn.rdR (by assumption) | exact NL.rd (by assumption)) (by first | assumption | exact Rd.up (by assumption) hB | exact Osl.rd (by assumption) | exact Osn.rdR (by assumption) | exact NL.rd (by assumption)) (by first | assumption | exact Rd.up (by assumption) hB | exact Osl.rd (by assumption) | exact Osn.rdR (by assumption) | exact NL.rd (by assumption)) (by first | assumption | exact Rd.up (by assumption) hB | exact Osl.rd (by assumption) | exact Osn.rdR (by assumption) | exact NL.rd (by assumption))) (fun rv12 w29 hR => ?_))
  obtain ⟨hXw29, v34, og34, v35, og35, rfl, ho34, hq34, ho35, hq35, hd34_35⟩ := hR
  have hl34 := Lo.up hq34 hB
  have hd1_34 := Dj.lo hb1.ltO hq34
  have hd2_34 := Dj.lo hb2.ltO hq34
  have hd3_34 := Dj.lo hb3.ltO hq34
  have hd4_34 := Dj.lo ho4.ltO hq34
  have hd5_34 := Dj.lo ho5.ltO hq34
  have hd28_34 := Dj.lo ho28.ltO hq34
  have hd29_34 := Dj.lo ho29.ltO hq34
  have hd30_34 := Dj.lo hb30.ltO hq34
  have hd31_34 := Dj.lo ho31.ltO hq34
  have hd32_34 := Dj.lo ho32.ltO hq34
  have hd33_34 := Dj.lo hb33.ltO hq34
  have hl35 := Lo.up hq35 hB
  have hd1_35 := Dj.lo hb1.ltO hq35
  have hd2_35 := Dj.lo hb2.ltO hq35
  have hd3_35 := Dj.lo hb3.ltO hq35
  have hd4_35 := Dj.lo ho4.ltO hq35
  have hd5_35 := Dj.lo ho5.ltO hq35
  have hd28_35 := Dj.lo ho28.ltO hq35
  have hd29_35 := Dj.lo ho29.ltO hq35
  have hd30_35 := Dj.lo hb30.ltO hq35
  have hd31_35 := Dj.lo ho31.ltO hq35
  have hd32_35 := Dj.lo ho32.ltO hq35
  have hd33_35 := Dj.lo hb33.ltO hq35
  have hB := hB.trans hXw29
  have hb1 := hb1.up hXw29
  have hb2 := hb2.up hXw29
  have hb3 := hb3.up hXw29
  have ho4 := ho4.up hXw29
  have ho5 := ho5.up hXw29
  have ho28 := ho28.up hXw29
  have ho29 := ho29.up hXw29
  have hb30 := hb30.up hXw29
  have ho31 := ho31.up hXw29
  have ho32 := ho32.up hXw29
  have hb33 := hb33.up hXw29
  refine WL.pure rfl rfl rfl (PV.move rfl) ?_
  refine WL.pure rfl rfl rfl (PV.extract rfl rfl) ?_
  refine WL.pure rfl rfl rfl (PV.extract rfl rfl) ?_
  refine WL.op rfl (OpK.alloc rfl T.zv62 rfl (fun b36 w30 hXw30 hb36 hge36 => ?_))
  have hl36 := Lo.new hB hge36
  have hd1_36 := Dj.new hb1.ltO hge36
  have hd2_36 := Dj.new hb2.ltO hge36
  have hd3_36 := Dj.new hb3.ltO hge36
  have hd4_36 := Dj.new ho4.ltO hge36
  have hd5_36 := Dj.new ho5.ltO hge36
  have hd28_36 := Dj.new ho28.ltO hge36
  have hd29_36 := Dj.new ho29.ltO hge36
  have hd30_36 := Dj.new hb30.ltO hge36
  have hd31_36 := Dj.new ho31.ltO hge36
  have hd32_36 := Dj.new ho32.ltO hge36
  have hd33_36 := Dj.new hb33.ltO hge36
  have hd34_36 := Dj.new ho34.ltO hge36
  have hd35_36 := Dj.new ho35.ltO hge36
  have hB := hB.trans hXw30
  have hb1 := hb1.up hXw30
  have hb2 := hb2.up hXw30
  have hb3 := hb3.up hXw30
  have ho4 := ho4.up hXw30
  have ho5 := ho5.up hXw30
  have ho28 := ho28.up hXw30
  have ho29 := ho29.up hXw30
  have hb30 := hb30.up hXw30
  have ho31 := ho31.up hXw30
  have ho32 := ho32.up hXw30
  have hb33 := hb33.up hXw30
  have ho34 := ho34.up hXw30
  have ho35 := ho35.up hXw30
  refine WL.op rfl (OpK.storeA T.sz62 rfl rfl rfl rfl (by simp [Value.oneCell'] <;> first | done | (repeat' apply And.intro) <;> first | rfl | exact Osl.oneCell (by assumption) | exact Osn.oneCell (by assumption) | exact Rd.oneCell (by assumption) | exact Rd.oneCell (NL.rd (by assumption)) | assumption) hb36 (fun w31 hXw31 hb36 => ?_))
  have hB := hB.updL hXw31 hl36
  have hb1 := hb1.updD hXw31 hd1_36
  have hb2 := hb2.updD hXw31 hd2_36
  have hb3 := hb3.updD hXw31 hd3_36
  have ho4 := ho4.updD hXw31 hd4_36
  have ho5 := ho5.updD hXw31 hd5_36
  have ho28 := ho28.updD hXw31 hd28_36
  have ho29 := ho29.updD hXw31 hd29_36
  have hb30 := hb30.updD hXw31 hd30_36
  have ho31 := ho31.updD hXw31 hd31_36
  have ho32 := ho32.updD hXw31 hd32_36
  have hb33 := hb33.updD hXw31 hd33_36
  have ho34 := ho34.updD hXw31 hd34_36
  have ho35 := ho35.updD hXw31 hd35_36
  refine WL.pure rfl rfl rfl (PV.assign rfl) ?_
  refine WL.nilS ?_
  refine CW.seq ?_
  refine CW.seq ?_
  refine CW.reg ?_
  refine WL.pure rfl rfl rfl ((by first | exact PV.loadA T.ag62 rfl (by first | exact Cells.up (by assumption) hB | exact Bx.cells (by assumption) | assumption) (Ext.refl _) rfl | exact PV.loadP (ds := [_, _, _, _]) T.ag62 rfl (by first | exact Cells.up (by assumption) hB | exact Bx.cells (by assumption) | assumption) (Ext.refl _) rfl rfl)) ?_
  refine WL.pure rfl rfl rfl ((by first | exact PV.loadA T.ag62 rfl (by first | exact Cells.up (by assumption) hB | exact Bx.cells (by assumption) | assumption) (Ext.refl _) rfl | exact PV.loadP (ds := [_, _, _, _]) T.ag62 rfl (by first | exact Cells.up (by assumption) hB | exact Bx.cells (by assumption) | assumption) (Ext.refl _) rfl rfl)) ?_
  refine WL.op rfl (OpK.callR rfl T.cf41 rfl (c_laws_eqSided (by first | assumption | exact Rd.up (by assumption) hB | exact Osl.rd (by assumption) | exact Osn.rdR (by assumption) | exact NL.rd (by assumption)) (by first | assumption | exact Rd.up (by assumption) hB | exact Osl.rd (by assumption) | exact Osn.rdR (by assumption) | exact NL.rd (by assumption)) (by first | assumption | exact Rd.up (by assumption) hB | exact Osl.rd (by assumption) | exact Osn.rdR (by assumption) | exact NL.rd (by assumption)) (by first | assumption | exact Rd.up (by assumption) hB | exact Osl.rd (by assumption) | exact Osn.rdR (by assumption) | exact NL.rd (by assumption))) (fun w32 hXw32 => ?_))
  have hB := hB.trans hXw32
  have hb1 := hb1.up hXw32
  have hb2 := hb2.up hXw32
  have hb3 := hb3.up hXw32
  have ho4 := ho4.up hXw32
  have ho5 := ho5.up hXw32
  have ho28 := ho28.up hXw32
  have ho29 := ho29.up hXw32
  have hb30 := hb30.up hXw32
  have ho31 := ho31.up hXw32
  have ho32 := ho32.up hXw32
  have hb33 := hb33.up hXw32
  have ho34 := ho34.up hXw32
  have ho35 := ho35.up hXw32
  have hb36 := hb36.up hXw32
  refine WL.pure rfl rfl rfl (PV.not rfl) ?_
  refine WL.pure rfl rfl rfl (PV.move rfl) ?_
  refine WL.split (t := 49) rfl (fun hc3 => ?_) (fun hc3 => ?_)
  · skip
    try simp only [decide_eq_true_eq, decide_eq_false_iff_not, Bool.not_eq_true', Bool.not_eq_false', Bool.not_eq_eq_eq_not, Bool.not_true, Bool.not_false, Int.not_lt, Int.not_le, Classical.not_not, beq_iff_eq, beq_eq_false_iff_ne] at hc3
    refine WL.skip rfl rfl rfl rfl rfl ?_
    refine WL.skip rfl rfl rfl rfl rfl ?_
    refine WL.skip rfl rfl rfl rfl rfl ?_
    refine WL.pure rfl rfl rfl (PV.pickT rfl rfl) ?_
    refine WL.nilS ?_
    refine CW.condT rfl ?_
    refine CW.seq ?_
    refine CW.reg ?_
    refine WL.pure rfl rfl rfl (PV.assign rfl) ?_
    refine WL.nilS ?_
    refine CW.ret ?_
    refine RQ.then ?_
    refine RQ.r1 rfl ?_
    refine ⟨?_, hB⟩
    first | rfl | (exfalso; revert hc3; simp; done) | (exfalso; revert hc3; simp; omega) | (exfalso; omega) | first | rfl | exact bT (by omega) | exact bF (by omega) | exact bD (by omega) | exact iE (by omega) | (simp_all; done) | (simp_all; omega) | (simp_all; intros; omega)
  try simp only [decide_eq_true_eq, decide_eq_false_iff_not, Bool.not_eq_true', Bool.not_eq_false', Bool.not_eq_eq_eq_not, Bool.not_true, Bool.not_false, Int.not_lt, Int.not_le, Classical.not_not, beq_iff_eq, beq_eq_false_iff_ne] at hc3
  refine WL.pureG rfl rfl rfl rfl rfl (PV.move rfl) ?_
  refine WL.pureG rfl rfl rfl rfl rfl (PV.move rfl) ?_
  refine WL.pureG rfl rfl rfl rfl rfl (PV.neqB T.bl4 rfl rfl) ?_
  refine WL.pure rfl rfl rfl (PV.pickF rfl rfl) ?_
  refine WL.nilS ?_
  refine CW.cond rfl (fun hc4 => ?_) (fun hc4 => ?_)
  · skip
    try simp only [decide_eq_true_eq, decide_eq_false_iff_not, Bool.not_eq_true', Bool.not_eq_false', Bool.not_eq_eq_eq_not, Bool.not_true, Bool.not_false, Int.not_lt, Int.not_le, Classical.not_not, beq_iff_eq, beq_eq_false_iff_ne] at hc4
    refine CW.seq ?_
    refine CW.reg ?_
    refine WL.pure rfl rfl rfl (PV.assign rfl) ?_
    refine WL.nilS ?_
    refine CW.ret ?_
    refine RQ.then ?_
    refine RQ.r1 rfl ?_
    refine ⟨?_, hB⟩
    first | rfl | (exfalso; revert hc4; simp; done) | (exfalso; revert hc4; simp; omega) | (exfalso; omega) | first | rfl | exact bT (by omega) | exact bF (by omega) | exact bD (by omega) | exact iE (by omega) | (simp_all; done) | (simp_all; omega) | (simp_all; intros; omega)
  try simp only [decide_eq_true_eq, decide_eq_false_iff_not, Bool.not_eq_true', Bool.not_eq_false', Bool.not_eq_eq_eq_not, Bool.not_true, Bool.not_false, Int.not_lt, Int.not_le, Classical.not_not, beq_iff_eq, beq_eq_false_iff_ne] at hc4
  refine CW.skipS ?_
  refine CW.seq ?_
  refine CW.seq ?_
  refine CW.draw T.mixed (by kernel_rfl) (fun _ _ _ _ _ h => h) (fun w8 w9 => Upd none w8 w9) 5 (.take 0 (.take 1 (.must 2 (.must 3 (.take 4 .done))))) (by kernel_rfl) (fun w33 hXd => ?_)
  have hB := hB.trans hXd
  have hb1 := hb1.up hXd
  have hb2 := hb2.up hXd
  have hb3 := hb3.up hXd
  have ho4 := ho4.up hXd
  have ho5 := ho5.up hXd
  have ho28 := ho28.up hXd
  have ho29 := ho29.up hXd
  have hb30 := hb30.up hXd
  have ho31 := ho31.up hXd
  have ho32 := ho32.up hXd
  have hb33 := hb33.up hXd
  have ho34 := ho34.up hXd
  have ho35 := ho35.up hXd
  have hb36 := hb36.up hXd
  have hBr := hB
  have hS : Upd none w33 w33 := Ext.toUpd (Ext.refl _)
  refine HP.take rfl rfl rfl rfl hS (fun wS hS1 => (by first | exact PV.loadA T.ag62 rfl (by first | exact Cells.up (by assumption) (hBr.trans hS1) | exact Bx.cells (Bx.updD (by assumption) hS1 (Dj.nlR _)) | exact Cells.upd (by assumption) hS1 (by simp)) (Ext.refl _) rfl | exact PV.loadP (ds := [_, _, _, _]) T.ag62 rfl (by first | exact Cells.up (by assumption) (hBr.trans hS1) | exact Bx.cells (Bx.updD (by assumption) hS1 (Dj.nlR _)) | exact Cells.upd (by assumption) hS1 (by simp)) (Ext.refl _) rfl rfl)) ?_
  refine HP.take rfl rfl rfl rfl hS (fun wS hS1 => (by first | exact PV.loadA T.ag58 rfl (by first | exact Cells.up (by assumption) (hBr.trans hS1) | exact Bx.cells (Bx.updD (by assumption) hS1 (Dj.nlR _)) | exact Cells.upd (by assumption) hS1 (by simp)) (Ext.refl _) rfl | exact PV.loadP (ds := [_, _, _, _]) T.ag58 rfl (by first | exact Cells.up (by assumption) (hBr.trans hS1) | exact Bx.cells (Bx.updD (by assumption) hS1 (Dj.nlR _)) | exact Cells.upd (by assumption) hS1 (by simp)) (Ext.refl _) rfl rfl)) ?_
  refine HP.must rfl rfl (OpK.call rfl T.cf39 rfl (c_laws_toSided (by first | assumption | exact Rd.up (by assumption) hB | exact Osl.rd (by assumption) | exact Osn.rdR (by assumption) | exact NL.rd (by assumption)) (by first | assumption | exact Rd.up (by assumption) hB | exact Osl.rd (by assumption) | exact Osn.rdR (by assumption) | exact NL.rd (by assumption)) (by first | assumption | omega | (simp only [marks_len, marksB_len, marksR_len]; omega)) (by first | assumption | omega | (simp only [marks_len, marksB_len, marksR_len]; omega))) (fun rv13 w34 hR => ?_))
  obtain ⟨hXw34, v37, og37, v38, og38, rfl, ho37, hq37, ho38, hq38, hd37_38⟩ := hR
  have hl37 := Lo.up hq37 hB
  have hv37 := Lo.up hq37 hS
  have hd1_37 := Dj.lo hb1.ltO hq37
  have hd2_37 := Dj.lo hb2.ltO hq37
  have hd3_37 := Dj.lo hb3.ltO hq37
  have hd4_37 := Dj.lo ho4.ltO hq37
  have hd5_37 := Dj.lo ho5.ltO hq37
  have hd28_37 := Dj.lo ho28.ltO hq37
  have hd29_37 := Dj.lo ho29.ltO hq37
  have hd30_37 := Dj.lo hb30.ltO hq37
  have hd31_37 := Dj.lo ho31.ltO hq37
  have hd32_37 := Dj.lo ho32.ltO hq37
  have hd33_37 := Dj.lo hb33.ltO hq37
  have hd34_37 := Dj.lo ho34.ltO hq37
  have hd35_37 := Dj.lo ho35.ltO hq37
  have hd36_37 := Dj.lo hb36.ltO hq37
  have hl38 := Lo.up hq38 hB
  have hv38 := Lo.up hq38 hS
  have hd1_38 := Dj.lo hb1.ltO hq38
  have hd2_38 := Dj.lo hb2.ltO hq38
  have hd3_38 := Dj.lo hb3.ltO hq38
  have hd4_38 := Dj.lo ho4.ltO hq38
  have hd5_38 := Dj.lo ho5.ltO hq38
  have hd28_38 := Dj.lo ho28.ltO hq38
  have hd29_38 := Dj.lo ho29.ltO hq38
  have hd30_38 := Dj.lo hb30.ltO hq38
  have hd31_38 := Dj.lo ho31.ltO hq38
  have hd32_38 := Dj.lo ho32.ltO hq38
  have hd33_38 := Dj.lo hb33.ltO hq38
  have hd34_38 := Dj.lo ho34.ltO hq38
  have hd35_38 := Dj.lo ho35.ltO hq38
  have hd36_38 := Dj.lo hb36.ltO hq38
  refine ⟨Upd.trans hS hXw34, ?_⟩
  have hS := Upd.trans hS hXw34
  have hB := hB.trans hXw34
  have hb1 := hb1.up hXw34
  have hb2 := hb2.up hXw34
  have hb3 := hb3.up hXw34
  have ho4 := ho4.up hXw34
  have ho5 := ho5.up hXw34
  have ho28 := ho28.up hXw34
  have ho29 := ho29.up hXw34
  have hb30 := hb30.up hXw34
  have ho31 := ho31.up hXw34
  have ho32 := ho32.up hXw34
  have hb33 := hb33.up hXw34
  have ho34 := ho34.up hXw34
  have ho35 := ho35.up hXw34
  have hb36 := hb36.up hXw34
  refine HP.must rfl rfl (OpK.callR rfl T.cf41 rfl (c_laws_eqSided (by first | assumption | exact Rd.up (by assumption) hB | exact Osl.rd (by assumption) | exact Osn.rdR (by assumption) | exact NL.rd (by assumption)) (by first | assumption | exact Rd.up (by assumption) hB | exact Osl.rd (by assumption) | exact Osn.rdR (by assumption) | exact NL.rd (by assumption)) (by first | assumption | exact Rd.up (by assumption) hB | exact Osl.rd (by assumption) | exact Osn.rdR (by assumption) | exact NL.rd (by assumption)) (by first | assumption | exact Rd.up (by assumption) hB | exact Osl.rd (by assumption) | exact Osn.rdR (by assumption) | exact NL.rd (by assumption))) (fun w35 hXw35 => ?_))
  refine ⟨Upd.trans hS hXw35, ?_⟩
  have hS := Upd.trans hS hXw35
  have hB := hB.trans hXw35
  have hb1 := hb1.up hXw35
  have hb2 := hb2.up hXw35
  have hb3 := hb3.up hXw35
  have ho4 := ho4.up hXw35
  have ho5 := ho5.up hXw35
  have ho28 := ho28.up hXw35
  have ho29 := ho29.up hXw35
  have hb30 := hb30.up hXw35
  have ho31 := ho31.up hXw35
  have ho32 := ho32.up hXw35
  have hb33 := hb33.up hXw35
  have ho34 := ho34.up hXw35
  have ho35 := ho35.up hXw35
  have hb36 := hb36.up hXw35
  have ho37 := ho37.up hXw35
  have ho38 := ho38.up hXw35
  refine HP.take rfl rfl rfl rfl hS (fun wS hS1 => PV.not rfl) ?_
  refine HP.doneS ?_
  refine CW.cond rfl (fun hc5 => ?_) (fun hc5 => ?_)
  · skip
    try simp only [decide_eq_true_eq, decide_eq_false_iff_not, Bool.not_eq_true', Bool.not_eq_false', Bool.not_eq_eq_eq_not, Bool.not_true, Bool.not_false, Int.not_lt, Int.not_le, Classical.not_not, beq_iff_eq, beq_eq_false_iff_ne] at hc5
    refine CW.seq ?_
    refine CW.reg ?_
    refine WL.pure rfl rfl rfl (PV.assign rfl) ?_
    refine WL.nilS ?_
    refine CW.ret ?_
    refine RQ.then ?_
    refine RQ.r1 rfl ?_
    refine ⟨?_, hB⟩
    first | rfl | (exfalso; revert hc5; simp; done) | (exfalso; revert hc5; simp; omega) | (exfalso; omega) | first | rfl | exact bT (by omega) | exact bF (by omega) | exact bD (by omega) | exact iE (by omega) | (simp_all; done) | (simp_all; omega) | (simp_all; intros; omega)
  try simp only [decide_eq_true_eq, decide_eq_false_iff_not, Bool.not_eq_true', Bool.not_eq_false', Bool.not_eq_eq_eq_not, Bool.not_true, Bool.not_false, Int.not_lt, Int.not_le, Classical.not_not, beq_iff_eq, beq_eq_false_iff_ne] at hc5
  refine CW.skipS ?_
  refine CW.seq ?_
  refine CW.seq ?_
  refine CW.draw T.mixed (by kernel_rfl) (fun _ _ _ _ _ h => h) (fun w8 w9 => Upd none w8 w9) 5 (.take 0 (.take 1 (.must 2 (.must 3 (.take 4 .done))))) (by kernel_rfl) (fun w36 hXd => ?_)
  have hB := hB.trans hXd
  have hb1 := hb1.up hXd
  have hb2 := hb2.up hXd
  have hb3 := hb3.up hXd
  have ho4 := ho4.up hXd
  have ho5 := ho5.up hXd
  have ho28 := ho28.up hXd
  have ho29 := ho29.up hXd
  have hb30 := hb30.up hXd
  have ho31 := ho31.up hXd
  have ho32 := ho32.up hXd
  have hb33 := hb33.up hXd
  have ho34 := ho34.up hXd
  have ho35 := ho35.up hXd
  have hb36 := hb36.up hXd
  have ho37 := ho37.up hXd
  have ho38 := ho38.up hXd
  have hBr := hB
  have hS : Upd none w36 w36 := Ext.toUpd (Ext.refl _)
  refine HP.take rfl rfl rfl rfl hS (fun wS hS1 => (by first | exact PV.loadA T.ag62 rfl (by first | exact Cells.up (by assumption) (hBr.trans hS1) | exact Bx.cells (Bx.updD (by assumption) hS1 (Dj.nlR _)) | exact Cells.upd (by assumption) hS1 (by simp)) (Ext.refl _) rfl | exact PV.loadP (ds := [_, _, _, _]) T.ag62 rfl (by first | exact Cells.up (by assumption) (hBr.trans hS1) | exact Bx.cells (Bx.updD (by assumption) hS1 (Dj.nlR _)) | exact Cells.upd (by assumption) hS1 (by simp)) (Ext.refl _) rfl rfl)) ?_
  refine HP.take rfl rfl rfl rfl hS (fun wS hS1 => (by first | exact PV.loadA T.ag58 rfl (by first | exact Cells.up (by assumption) (hBr.trans hS1) | exact Bx.cells (Bx.updD (by assumption) hS1 (Dj.nlR _)) | exact Cells.upd (by assumption) hS1 (by simp)) (Ext.refl _) rfl | exact PV.loadP (ds := [_, _, _, _]) T.ag58 rfl (by first | exact Cells.up (by assumption) (hBr.trans hS1) | exact Bx.cells (Bx.updD (by assumption) hS1 (Dj.nlR _)) | exact Cells.upd (by assumption) hS1 (by simp)) (Ext.refl _) rfl rfl)) ?_
  refine HP.must rfl rfl (OpK.call rfl T.cf39 rfl (c_laws_toSided (by first | assumption | exact Rd.up (by assumption) hB | exact Osl.rd (by assumption) | exact Osn.rdR (by assumption) | exact NL.rd (by assumption)) (by first | assumption | exact Rd.up (by assumption) hB | exact Osl.rd (by assumption) | exact Osn.rdR (by assumption) | exact NL.rd (by assumption)) (by first | assumption | omega | (simp only [marks_len, marksB_len, marksR_len]; omega)) (by first | assumption | omega | (simp only [marks_len, marksB_len, marksR_len]; omega))) (fun rv14 w37 hR => ?_))
  obtain ⟨hXw37, v39, og39, v40, og40, rfl, ho39, hq39, ho40, hq40, hd39_40⟩ := hR
  have hl39 := Lo.up hq39 hB
  have hv39 := Lo.up hq39 hS
  have hd1_39 := Dj.lo hb1.ltO hq39
  have hd2_39 := Dj.lo hb2.ltO hq39
  have hd3_39 := Dj.lo hb3.ltO hq39
  have hd4_39 := Dj.lo ho4.ltO hq39
  have hd5_39 := Dj.lo ho5.ltO hq39
  have hd28_39 := Dj.lo ho28.ltO hq39
  have hd29_39 := Dj.lo ho29.ltO hq39
  have hd30_39 := Dj.lo hb30.ltO hq39
  have hd31_39 := Dj.lo ho31.ltO hq39
  have hd32_39 := Dj.lo ho32.ltO hq39
  have hd33_39 := Dj.lo hb33.ltO hq39
  have hd34_39 := Dj.lo ho34.ltO hq39
  have hd35_39 := Dj.lo ho35.ltO hq39
  have hd36_39 := Dj.lo hb36.ltO hq39
  have hd37_39 := Dj.lo ho37.ltO hq39
  have hd38_39 := Dj.lo ho38.ltO hq39
  have hl40 := Lo.up hq40 hB
  have hv40 := Lo.up hq40 hS
  have hd1_40 := Dj.lo hb1.ltO hq40
  have hd2_40 := Dj.lo hb2.ltO hq40
  have hd3_40 := Dj.lo hb3.ltO hq40
  have hd4_40 := Dj.lo ho4.ltO hq40
  have hd5_40 := Dj.lo ho5.ltO hq40
  have hd28_40 := Dj.lo ho28.ltO hq40
  have hd29_40 := Dj.lo ho29.ltO hq40
  have hd30_40 := Dj.lo hb30.ltO hq40
  have hd31_40 := Dj.lo ho31.ltO hq40
  have hd32_40 := Dj.lo ho32.ltO hq40
  have hd33_40 := Dj.lo hb33.ltO hq40
  have hd34_40 := Dj.lo ho34.ltO hq40
  have hd35_40 := Dj.lo ho35.ltO hq40
  have hd36_40 := Dj.lo hb36.ltO hq40
  have hd37_40 := Dj.lo ho37.ltO hq40
  have hd38_40 := Dj.lo ho38.ltO hq40
  refine ⟨Upd.trans hS hXw37, ?_⟩
  have hS := Upd.trans hS hXw37
  have hB := hB.trans hXw37
  have hb1 := hb1.up hXw37
  have hb2 := hb2.up hXw37
  have hb3 := hb3.up hXw37
  have ho4 := ho4.up hXw37
  have ho5 := ho5.up hXw37
  have ho28 := ho28.up hXw37
  have ho29 := ho29.up hXw37
  have hb30 := hb30.up hXw37
  have ho31 := ho31.up hXw37
  have ho32 := ho32.up hXw37
  have hb33 := hb33.up hXw37
  have ho34 := ho34.up hXw37
  have ho35 := ho35.up hXw37
  have hb36 := hb36.up hXw37
  have ho37 := ho37.up hXw37
  have ho38 := ho38.up hXw37
  refine HP.must rfl rfl (OpK.callR rfl T.cf41 rfl (c_laws_eqSided (by first | assumption | exact Rd.up (by assumption) hB | exact Osl.rd (by assumption) | exact Osn.rdR (by assumption) | exact NL.rd (by assumption)) (by first | assumption | exact Rd.up (by assumption) hB | exact Osl.rd (by assumption) | exact Osn.rdR (by assumption) | exact NL.rd (by assumption)) (by first | assumption | exact Rd.up (by assumption) hB | exact Osl.rd (by assumption) | exact Osn.rdR (by assumption) | exact NL.rd (by assumption)) (by first | assumption | exact Rd.up (by assumption) hB | exact Osl.rd (by assumption) | exact Osn.rdR (by assumption) | exact NL.rd (by assumption))) (fun w38 hXw38 => ?_))
  refine ⟨Upd.trans hS hXw38, ?_⟩
  have hS := Upd.trans hS hXw38
  have hB := hB.trans hXw38
  have hb1 := hb1.up hXw38
  have hb2 := hb2.up hXw38
  have hb3 := hb3.up hXw38
  have ho4 := ho4.up hXw38
  have ho5 := ho5.up hXw38
  have ho28 := ho28.up hXw38
  have ho29 := ho29.up hXw38
  have hb30 := hb30.up hXw38
  have ho31 := ho31.up hXw38
  have ho32 := ho32.up hXw38
  have hb33 := hb33.up hXw38
  have ho34 := ho34.up hXw38
  have ho35 := ho35.up hXw38
  have hb36 := hb36.up hXw38
  have ho37 := ho37.up hXw38
  have ho38 := ho38.up hXw38
  have ho39 := ho39.up hXw38
  have ho40 := ho40.up hXw38
  refine HP.take rfl rfl rfl rfl hS (fun wS hS1 => PV.not rfl) ?_
  refine HP.doneS ?_
  refine CW.cond rfl (fun hc6 => ?_) (fun hc6 => ?_)
  · skip
    try simp only [decide_eq_true_eq, decide_eq_false_iff_not, Bool.not_eq_true', Bool.not_eq_false', Bool.not_eq_eq_eq_not, Bool.not_true, Bool.not_false, Int.not_lt, Int.not_le, Classical.not_not, beq_iff_eq, beq_eq_false_iff_ne] at hc6
    refine CW.seq ?_
    refine CW.reg ?_
    refine WL.pure rfl rfl rfl (PV.assign rfl) ?_
    refine WL.nilS ?_
    refine CW.ret ?_
    refine RQ.then ?_
    refine RQ.r1 rfl ?_
    refine ⟨?_, hB⟩
    first | rfl | (exfalso; revert hc6; simp; done) | (exfalso; revert hc6; simp; omega) | (exfalso; omega) | first | rfl | exact bT (by omega) | exact bF (by omega) | exact bD (by omega) | exact iE (by omega) | (simp_all; done) | (simp_all; omega) | (simp_all; intros; omega)
  try simp only [decide_eq_true_eq, decide_eq_false_iff_not, Bool.not_eq_true', Bool.not_eq_false', Bool.not_eq_eq_eq_not, Bool.not_true, Bool.not_false, Int.not_lt, Int.not_le, Classical.not_not, beq_iff_eq, beq_eq_false_iff_ne] at hc6
  refine CW.skipS ?_
  refine CW.seq ?_
  refine CW.reg ?_
  refine WL.pure rfl rfl rfl (PV.assign rfl) ?_
  refine WL.nilS ?_
  refine CW.seq ?_
  refine CW.reg ?_
  refine WL.pure rfl rfl rfl ((by first | exact PV.loadA T.ag62 rfl (by first | exact Cells.up (by assumption) hB | exact Bx.cells (by assumption) | assumption) (Ext.refl _) rfl | exact PV.loadP (ds := [_, _, _, _]) T.ag62 rfl (by first | exact Cells.up (by assumption) hB | exact Bx.cells (by assumption) | assumption) (Ext.refl _) rfl rfl)) ?_
  refine WL.pure rfl rfl rfl (PV.move rfl) ?_
  refine WL.op rfl (OpK.call rfl T.cf42 rfl (c_laws_markSided (by first | assumption | exact Dj.symm (by assumption)) (by first | assumption | exact Dj.symm (by assumption)) (by first | assumption | exact Dj.symm (by assumption)) (by first | assumption | omega | (simp only [marks_len, marksB_len, marksR_len]; omega))) (fun rv15 w39 hR => ?_))
  obtain ⟨rfl, hUC41, ho28, ho29⟩ := hR
  have hb1 := hb1.loop hUC41 ⟨hd1_28, hd1_29, trivial⟩
  have hb2 := hb2.loop hUC41 ⟨hd2_28, hd2_29, trivial⟩
  have hb3 := hb3.loop hUC41 ⟨hd3_28, hd3_29, trivial⟩
  have ho4 := ho4.loop hUC41 ⟨hd4_28, hd4_29, trivial⟩
  have ho5 := ho5.loop hUC41 ⟨hd5_28, hd5_29, trivial⟩
  have hb30 := hb30.loop hUC41 ⟨(Dj.symm hd28_30), (Dj.symm hd29_30), trivial⟩
  have ho31 := ho31.loop hUC41 ⟨(Dj.symm hd28_31), (Dj.symm hd29_31), trivial⟩
  have ho32 := ho32.loop hUC41 ⟨(Dj.symm hd28_32), (Dj.symm hd29_32), trivial⟩
  have hb33 := hb33.loop hUC41 ⟨(Dj.symm hd28_33), (Dj.symm hd29_33), trivial⟩
  have ho34 := ho34.loop hUC41 ⟨(Dj.symm hd28_34), (Dj.symm hd29_34), trivial⟩
  have ho35 := ho35.loop hUC41 ⟨(Dj.symm hd28_35), (Dj.symm hd29_35), trivial⟩
  have hb36 := hb36.loop hUC41 ⟨(Dj.symm hd28_36), (Dj.symm hd29_36), trivial⟩
  have ho37 := ho37.loop hUC41 ⟨(Dj.symm hd28_37), (Dj.symm hd29_37), trivial⟩
  have ho38 := ho38.loop hUC41 ⟨(Dj.symm hd28_38), (Dj.symm hd29_38), trivial⟩
  have ho39 := ho39.loop hUC41 ⟨(Dj.symm hd28_39), (Dj.symm hd29_39), trivial⟩
  have ho40 := ho40.loop hUC41 ⟨(Dj.symm hd28_40), (Dj.symm hd29_40), trivial⟩
  have hB := hB.loop hUC41 ⟨hl28, hl29, trivial⟩
  refine WL.pure rfl rfl rfl (PV.assign rfl) ?_
  refine WL.nilS ?_
  refine CW.seq ?_
  refine CW.reg ?_
  refine WL.pure rfl rfl rfl ((by first | exact PV.loadA T.ag62 rfl (by first | exact Cells.up (by assumption) hB | exact Bx.cells (by assumption) | assumption) (Ext.refl _) rfl | exact PV.loadP (ds := [_, _, _, _]) T.ag62 rfl (by first | exact Cells.up (by assumption) hB | exact Bx.cells (by assumption) | assumption) (Ext.refl _) rfl rfl)) ?_
  refine WL.pure rfl rfl rfl (PV.move rfl) ?_
  refine WL.op rfl (OpK.call rfl T.cf42 rfl (c_laws_markSided (by first | assumption | exact Dj.symm (by assumption)) (by first | assumption | exact Dj.symm (by assumption)) (by first | assumption | exact Dj.symm (by assumption)) (by first | assumption | omega | (simp only [marks_len, marksB_len, marksR_len]; omega))) (fun rv16 w40 hR => ?_))
  obtain ⟨rfl, hUC42, ho31, ho32⟩ := hR
  have hb1 := hb1.loop hUC42 ⟨hd1_31, hd1_32, trivial⟩
  have hb2 := hb2.loop hUC42 ⟨hd2_31, hd2_32, trivial⟩
  have hb3 := hb3.loop hUC42 ⟨hd3_31, hd3_32, trivial⟩
  have ho4 := ho4.loop hUC42 ⟨hd4_31, hd4_32, trivial⟩
  have ho5 := ho5.loop hUC42 ⟨hd5_31, hd5_32, trivial⟩
  have ho28 := ho28.loop hUC42 ⟨hd28_31, hd28_32, trivial⟩
  have ho29 := ho29.loop hUC42 ⟨hd29_31, hd29_32, trivial⟩
  have hb30 := hb30.loop hUC42 ⟨hd30_31, hd30_32, trivial⟩
  have hb33 := hb33.loop hUC42 ⟨(Dj.symm hd31_33), (Dj.symm hd32_33), trivial⟩
  have ho34 := ho34.loop hUC42 ⟨(Dj.symm hd31_34), (Dj.symm hd32_34), trivial⟩
  have ho35 := ho35.loop hUC42 ⟨(Dj.symm hd31_35), (Dj.symm hd32_35), trivial⟩
  have hb36 := hb36.loop hUC42 ⟨(Dj.symm hd31_36), (Dj.symm hd32_36), trivial⟩
  have ho37 := ho37.loop hUC42 ⟨(Dj.symm hd31_37), (Dj.symm hd32_37), trivial⟩
  have ho38 := ho38.loop hUC42 ⟨(Dj.symm hd31_38), (Dj.symm hd32_38), trivial⟩
  have ho39 := ho39.loop hUC42 ⟨(Dj.symm hd31_39), (Dj.symm hd32_39), trivial⟩
  have ho40 := ho40.loop hUC42 ⟨(Dj.symm hd31_40), (Dj.symm hd32_40), trivial⟩
  have hB := hB.loop hUC42 ⟨hl31, hl32, trivial⟩
  refine WL.pure rfl rfl rfl (PV.assign rfl) ?_
  refine WL.nilS ?_
  refine CW.seq ?_
  refine CW.seq ?_
  refine CW.reg ?_
  refine WL.pure rfl rfl rfl (PV.move rfl) ?_
  refine WL.pure rfl rfl rfl (PV.lss rfl rfl) ?_
  refine WL.pure rfl rfl rfl (PV.move rfl) ?_
  refine WL.split (t := 72) rfl (fun hc7 => ?_) (fun hc7 => ?_)
  · skip
    try simp only [decide_eq_true_eq, decide_eq_false_iff_not, Bool.not_eq_true', Bool.not_eq_false', Bool.not_eq_eq_eq_not, Bool.not_true, Bool.not_false, Int.not_lt, Int.not_le, Classical.not_not, beq_iff_eq, beq_eq_false_iff_ne] at hc7
    refine WL.skip rfl rfl rfl rfl rfl ?_
    refine WL.skip rfl rfl rfl rfl rfl ?_
    refine WL.skip rfl rfl rfl rfl rfl ?_
    refine WL.skip rfl rfl rfl rfl rfl ?_
    refine WL.pure rfl rfl rfl (PV.pickT rfl rfl) ?_
    refine WL.pure rfl rfl rfl (PV.move rfl) ?_
    refine WL.skip rfl rfl rfl rfl rfl ?_
    refine WL.skip rfl rfl rfl rfl rfl ?_
    refine WL.skip rfl rfl rfl rfl rfl ?_
    refine WL.pure rfl rfl rfl (PV.pickT rfl rfl) ?_
    refine WL.nilS ?_
    refine CW.condT rfl ?_
    refine CW.seq ?_
    refine CW.reg ?_
    refine WL.pure rfl rfl rfl (PV.assign rfl) ?_
    refine WL.nilS ?_
    refine CW.ret ?_
    refine RQ.then ?_
    refine RQ.r1 rfl ?_
    refine ⟨?_, hB⟩
    first | rfl | (exfalso; revert hc7; simp; done) | (exfalso; revert hc7; simp; omega) | (exfalso; omega) | first | rfl | exact bT (by omega) | exact bF (by omega) | exact bD (by omega) | exact iE (by omega) | (simp_all; done) | (simp_all; omega) | (simp_all; intros; omega)
  try simp only [decide_eq_true_eq, decide_eq_false_iff_not, Bool.not_eq_true', Bool.not_eq_false', Bool.not_eq_eq_eq_not, Bool.not_true, Bool.not_false, Int.not_lt, Int.not_le, Classical.not_not, beq_iff_eq, beq_eq_false_iff_ne] at hc7
  refine WL.pureG rfl rfl rfl rfl rfl ((by first | exact PV.loadA T.ag62 rfl (by first | exact Cells.up (by assumption) hB | exact Bx.cells (by assumption) | assumption) (Ext.refl _) rfl | exact PV.loadP (ds := [_, _, _, _]) T.ag62 rfl (by first | exact Cells.up (by assumption) hB | exact Bx.cells (by assumption) | assumption) (Ext.refl _) rfl rfl)) ?_
  refine WL.pureG rfl rfl rfl rfl rfl ((by first | exact PV.loadA T.ag62 rfl (by first | exact Cells.up (by assumption) hB | exact Bx.cells (by assumption) | assumption) (Ext.refl _) rfl | exact PV.loadP (ds := [_, _, _, _]) T.ag62 rfl (by first | exact Cells.up (by assumption) hB | exact Bx.cells (by assumption) | assumption) (Ext.refl _) rfl rfl)) ?_
  refine WL.opG rfl rfl rfl (OpK.callR rfl T.cf41 rfl (c_laws_eqSided (by first | assumption | exact Rd.up (by assumption) hB | exact Osl.rd (by assumption) | exact Osn.rdR (by assumption) | exact NL.rd (by assumption)) (by first | assumption | exact Rd.up (by assumption) hB | exact Osl.rd (by assumption) | exact Osn.rdR (by assumption) | exact NL.rd (by assumption)) (by first | assumption | exact Rd.up (by assumption) hB | exact Osl.rd (by assumption) | exact Osn.rdR (by assumption) | exact NL.rd (by assumption)) (by first | assumption | exact Rd.up (by assumption) hB | exact Osl.rd (by assumption) | exact Osn.rdR (by assumption) | exact NL.rd (by assumption))) (fun w41 hXw41 => ?_))
  have hB := hB.trans hXw41
  have hb1 := hb1.up hXw41
  have hb2 := hb2.up hXw41
  have hb3 := hb3.up hXw41
  have ho4 := ho4.up hXw41
  have ho5 := ho5.up hXw41
  have ho28 := ho28.up hXw41
  have ho29 := ho29.up hXw41
  have hb30 := hb30.up hXw41
  have ho31 := ho31.up hXw41
  have ho32 := ho32.up hXw41
  have hb33 := hb33.up hXw41
  have ho34 := ho34.up hXw41
  have ho35 := ho35.up hXw41
  have hb36 := hb36.up hXw41
  have ho37 := ho37.up hXw41
  have ho38 := ho38.up hXw41
  have ho39 := ho39.up hXw41
  have ho40 := ho40.up hXw41
  refine WL.pureG rfl rfl rfl rfl rfl (PV.not rfl) ?_
  refine WL.pure rfl rfl rfl (PV.pickF rfl rfl) ?_
  refine WL.pure rfl rfl rfl (PV.move rfl) ?_
  refine WL.split (t := 78) rfl (fun hc8 => ?_) (fun hc8 => ?_)
  · skip
    try simp only [decide_eq_true_eq, decide_eq_false_iff_not, Bool.not_eq_true', Bool.not_eq_false', Bool.not_eq_eq_eq_not, Bool.not_true, Bool.not_false, Int.not_lt, Int.not_le, Classical.not_not, beq_iff_eq, beq_eq_false_iff_ne] at hc8
    refine WL.skip rfl rfl rfl rfl rfl ?_
    refine WL.skip rfl rfl rfl rfl rfl ?_
    refine WL.skip rfl rfl rfl rfl rfl ?_
    refine WL.pure rfl rfl rfl (PV.pickT rfl rfl) ?_
    refine WL.nilS ?_
    refine CW.condT rfl ?_
    refine CW.seq ?_
    refine CW.reg ?_
    refine WL.pure rfl rfl rfl (PV.assign rfl) ?_
    refine WL.nilS ?_
    refine CW.ret ?_
    refine RQ.then ?_
    refine RQ.r1 rfl ?_
    refine ⟨?_, hB⟩
    first | rfl | (exfalso; revert hc8; simp; done) | (exfalso; revert hc8; simp; omega) | (exfalso; omega) | first | rfl | exact bT (by omega) | exact bF (by omega) | exact bD (by omega) | exact iE (by omega) | (simp_all; done) | (simp_all; omega) | (simp_all; intros; omega)
  try simp only [decide_eq_true_eq, decide_eq_false_iff_not, Bool.not_eq_true', Bool.not_eq_false', Bool.not_eq_eq_eq_not, Bool.not_true, Bool.not_false, Int.not_lt, Int.not_le, Classical.not_not, beq_iff_eq, beq_eq_false_iff_ne] at hc8
  refine WL.pureG rfl rfl rfl rfl rfl (PV.move rfl) ?_
  refine WL.pureG rfl rfl rfl rfl rfl (PV.move rfl) ?_
  refine WL.pureG rfl rfl rfl rfl rfl (PV.neqB T.bl4 rfl rfl) ?_
  refine WL.pure rfl rfl rfl (PV.pickF rfl rfl) ?_
  refine WL.nilS ?_
  refine CW.cond rfl (fun hc9 => ?_) (fun hc9 => ?_)
  · skip
    try simp only [decide_eq_true_eq, decide_eq_false_iff_not, Bool.not_eq_true', Bool.not_eq_false', Bool.not_eq_eq_eq_not, Bool.not_true, Bool.not_false, Int.not_lt, Int.not_le, Classical.not_not, beq_iff_eq, beq_eq_false_iff_ne] at hc9
    refine CW.seq ?_
    refine CW.reg ?_
    refine WL.pure rfl rfl rfl (PV.assign rfl) ?_
    refine WL.nilS ?_
    refine CW.ret ?_
    refine RQ.then ?_
    refine RQ.r1 rfl ?_
    refine ⟨?_, hB⟩
    first | rfl | (exfalso; revert hc9; simp; done) | (exfalso; revert hc9; simp; omega) | (exfalso; omega) | first | rfl | exact bT (by omega) | exact bF (by omega) | exact bD (by omega) | exact iE (by omega) | (simp_all; done) | (simp_all; omega) | (simp_all; intros; omega)
  try simp only [decide_eq_true_eq, decide_eq_false_iff_not, Bool.not_eq_true', Bool.not_eq_false', Bool.not_eq_eq_eq_not, Bool.not_true, Bool.not_false, Int.not_lt, Int.not_le, Classical.not_not, beq_iff_eq, beq_eq_false_iff_ne] at hc9
  refine CW.skipS ?_
  refine CW.seq ?_
  refine CW.reg ?_
  refine WL.pure rfl rfl rfl (PV.assign rfl) ?_
  refine WL.nilS ?_
  refine CW.seq ?_
  refine CW.reg ?_
  refine WL.pure rfl rfl rfl ((by first | exact PV.loadA T.ag62 rfl (by first | exact Cells.up (by assumption) hB | exact Bx.cells (by assumption) | assumption) (Ext.refl _) rfl | exact PV.loadP (ds := [_, _, _, _]) T.ag62 rfl (by first | exact Cells.up (by assumption) hB | exact Bx.cells (by assumption) | assumption) (Ext.refl _) rfl rfl)) ?_
  refine WL.pure rfl rfl rfl (PV.move rfl) ?_
  refine WL.op rfl (OpK.call rfl T.cf42 rfl (c_laws_markSided (by first | assumption | exact Dj.symm (by assumption)) (by first | assumption | exact Dj.symm (by assumption)) (by first | assumption | exact Dj.symm (by assumption)) (by first | assumption | omega | (simp only [marks_len, marksB_len, marksR_len]; omega))) (fun rv17 w42 hR => ?_))
  obtain ⟨rfl, hUC43, ho34, ho35⟩ := hR
  have hb1 := hb1.loop hUC43 ⟨hd1_34, hd1_35, trivial⟩
  have hb2 := hb2.loop hUC43 ⟨hd2_34, hd2_35, trivial⟩
  have hb3 := hb3.loop hUC43 ⟨hd3_34, hd3_35, trivial⟩
  have ho4 := ho4.loop hUC43 ⟨hd4_34, hd4_35, trivial⟩
  have ho5 := ho5.loop hUC43 ⟨hd5_34, hd5_35, trivial⟩
  have ho28 := ho28.loop hUC43 ⟨hd28_34, hd28_35, trivial⟩
  have ho29 := ho29.loop hUC43 ⟨hd29_34, hd29_35, trivial⟩
  have hb30 := hb30.loop hUC43 ⟨hd30_34, hd30_35, trivial⟩
  have ho31 := ho31.loop hUC43 ⟨hd31_34, hd31_35, trivial⟩
  have ho32 := ho32.loop hUC43 ⟨hd32_34, hd32_35, trivial⟩
  have hb33 := hb33.loop hUC43 ⟨hd33_34, hd33_35, trivial⟩
  have hb36 := hb36.loop hUC43 ⟨(Dj.symm hd34_36), (Dj.symm hd35_36), trivial⟩
  have ho37 := ho37.loop hUC43 ⟨(Dj.symm hd34_37), (Dj.symm hd35_37), trivial⟩
  have ho38 := ho38.loop hUC43 ⟨(Dj.symm hd34_38), (Dj.symm hd35_38), trivial⟩
  have ho39 := ho39.loop hUC43 ⟨(Dj.symm hd34_39), (Dj.symm hd35_39), trivial⟩
  have ho40 := ho40.loop hUC43 ⟨(Dj.symm hd34_40), (Dj.symm hd35_40), trivial⟩
  have hB := hB.loop hUC43 ⟨hl34, hl35, trivial⟩
  refine WL.pure rfl rfl rfl (PV.assign rfl) ?_
  refine WL.nilS ?_
  refine CW.seq ?_
  refine CW.reg ?_
  refine WL.pure rfl rfl rfl (PV.assign rfl) ?_
  refine WL.nilS ?_
  refine CW.seq ?_
  refine CW.reg ?_
  refine WL.pure rfl rfl rfl ((by first | exact PV.loadA T.ag62 rfl (by first | exact Cells.up (by assumption) hB | exact Bx.cells (by assumption) | assumption) (Ext.refl _) rfl | exact PV.loadP (ds := [_, _, _, _]) T.ag62 rfl (by first | exact Cells.up (by assumption) hB | exact Bx.cells (by assumption) | assumption) (Ext.refl _) rfl rfl)) ?_
  refine WL.pure rfl rfl rfl (PV.move rfl) ?_
  refine WL.op rfl (OpK.callR rfl T.cf43 rfl (c_laws_heldSided (by first | assumption | exact Rd.up (by assumption) hB | exact Osl.rd (by assumption) | exact Osn.rdR (by assumption) | exact NL.rd (by assumption)) (by first | assumption | exact Rd.up (by assumption) hB | exact Osl.rd (by assumption) | exact Osn.rdR (by assumption) | exact NL.rd (by assumption)) (by first | assumption | omega | (simp only [marks_len, marksB_len, marksR_len]; omega))) (fun w43 hXw43 => ?_))
  have hB := hB.trans hXw43
  have hb1 := hb1.up hXw43
  have hb2 := hb2.up hXw43
  have hb3 := hb3.up hXw43
  have ho4 := ho4.up hXw43
  have ho5 := ho5.up hXw43
  have ho28 := ho28.up hXw43
  have ho29 := ho29.up hXw43
  have hb30 := hb30.up hXw43
  have ho31 := ho31.up hXw43
  have ho32 := ho32.up hXw43
  have hb33 := hb33.up hXw43
  have ho34 := ho34.up hXw43
  have ho35 := ho35.up hXw43
  have hb36 := hb36.up hXw43
  have ho37 := ho37.up hXw43
  have ho38 := ho38.up hXw43
  have ho39 := ho39.up hXw43
  have ho40 := ho40.up hXw43
  refine WL.pure rfl rfl rfl (PV.assign rfl) ?_
  refine WL.nilS ?_
  refine CW.seq ?_
  refine CW.seq ?_
  refine CW.reg ?_
  refine WL.pure rfl rfl rfl (PV.move rfl) ?_
  refine WL.pure rfl rfl rfl (PV.lss rfl rfl) ?_
  refine WL.nilS ?_
  refine CW.cond rfl (fun hc10 => ?_) (fun hc10 => ?_)
  · skip
    try simp only [decide_eq_true_eq, decide_eq_false_iff_not, Bool.not_eq_true', Bool.not_eq_false', Bool.not_eq_eq_eq_not, Bool.not_true, Bool.not_false, Int.not_lt, Int.not_le, Classical.not_not, beq_iff_eq, beq_eq_false_iff_ne] at hc10
    refine CW.seq ?_
    refine CW.reg ?_
    refine WL.pure rfl rfl rfl (PV.assign rfl) ?_
    refine WL.nilS ?_
    refine CW.ret ?_
    refine RQ.then ?_
    refine RQ.r1 rfl ?_
    refine ⟨?_, hB⟩
    first | rfl | (exfalso; revert hc10; simp; done) | (exfalso; revert hc10; simp; omega) | (exfalso; omega) | first | rfl | exact bT (by omega) | exact bF (by omega) | exact bD (by omega) | exact iE (by omega) | (simp_all; done) | (simp_all; omega) | (simp_all; intros; omega)
  try simp only [decide_eq_true_eq, decide_eq_false_iff_not, Bool.not_eq_true', Bool.not_eq_false', Bool.not_eq_eq_eq_not, Bool.not_true, Bool.not_false, Int.not_lt, Int.not_le, Classical.not_not, beq_iff_eq, beq_eq_false_iff_ne] at hc10
  refine CW.skipS ?_
  refine CW.seq ?_
  refine CW.seq ?_
  refine CW.reg ?_
  refine WL.pure rfl rfl rfl (PV.move rfl) ?_
  refine WL.pure rfl rfl rfl (PV.move rfl) ?_
  refine WL.pure rfl rfl rfl (PV.neq rfl rfl) ?_
  refine WL.nilS ?_
  refine CW.cond rfl (fun hc11 => ?_) (fun hc11 => ?_)
  · skip
    try simp only [decide_eq_true_eq, decide_eq_false_iff_not, Bool.not_eq_true', Bool.not_eq_false', Bool.not_eq_eq_eq_not, Bool.not_true, Bool.not_false, Int.not_lt, Int.not_le, Classical.not_not, beq_iff_eq, beq_eq_false_iff_ne] at hc11
    refine CW.seq ?_
    refine CW.reg ?_
    refine WL.pure rfl rfl rfl (PV.assign rfl) ?_
    refine WL.nilS ?_
    refine CW.ret ?_
    refine RQ.then ?_
    refine RQ.r1 rfl ?_
    refine ⟨?_, hB⟩
    first | rfl | (exfalso; revert hc11; simp; done) | (exfalso; revert hc11; simp; omega) | (exfalso; omega) | first | rfl | exact bT (by omega) | exact bF (by omega) | exact bD (by omega) | exact iE (by omega) | (simp_all; done) | (simp_all; omega) | (simp_all; intros; omega)
  try simp only [decide_eq_true_eq, decide_eq_false_iff_not, Bool.not_eq_true', Bool.not_eq_false', Bool.not_eq_eq_eq_not, Bool.not_true, Bool.not_false, Int.not_lt, Int.not_le, Classical.not_not, beq_iff_eq, beq_eq_false_iff_ne] at hc11
  refine CW.skipS ?_
  refine CW.cut (σk := [(6, _), (7, _), (10, _), (13, _)]) (fun ρ wz => ∃ (b44 : Addr) (v45 : Value) (og45 : Option Nat) (v46 : Value) (og46 : Option Nat), ρ = [(15, .pointer (some b44)), (16, .bool (bothB a0 a1 xa2 xa3 y0 y1 xy2 xy3))] ∧ Ext w43 wz ∧ Bx wz b44 [.int .i64 (onI (bothB a0 a1 xa2 xa3 y0 y1 xy2 xy3) (1 + a0 + y0)), .int .i64 (onI (bothB a0 a1 xa2 xa3 y0 y1 xy2 xy3) a1), v45, v46] ∧ Lo w (some b44.block) ∧ Osn 4 gR wz og45 v45 (onT (bothB a0 a1 xa2 xa3 y0 y1 xy2 xy3) (eA a0 xa2 xy2)) ∧ Lo w og45 ∧ Osl VB wz og46 v46 (onT (bothB a0 a1 xa2 xa3 y0 y1 xy2 xy3) (eE xa3 xy3)) ∧ Lo w og46 ∧ Dj (some b1.block) (some b44.block) ∧ Dj (some b1.block) og45 ∧ Dj (some b1.block) og46 ∧ Dj (some b2.block) (some b44.block) ∧ Dj (some b2.block) og45 ∧ Dj (some b2.block) og46 ∧ Dj (some b3.block) (some b44.block) ∧ Dj (some b3.block) og45 ∧ Dj (some b3.block) og46 ∧ Dj og4 (some b44.block) ∧ Dj og4 og45 ∧ Dj og4 og46 ∧ Dj og5 (some b44.block) ∧ Dj og5 og45 ∧ Dj og5 og46 ∧ Dj og28 (some b44.block) ∧ Dj og28 og45 ∧ Dj og28 og46 ∧ Dj og29 (some b44.block) ∧ Dj og29 og45 ∧ Dj og29 og46 ∧ Dj (some b30.block) (some b44.block) ∧ Dj (some b30.block) og45 ∧ Dj (some b30.block) og46 ∧ Dj og31 (some b44.block) ∧ Dj og31 og45 ∧ Dj og31 og46 ∧ Dj og32 (some b44.block) ∧ Dj og32 og45 ∧ Dj og32 og46 ∧ Dj (some b33.block) (some b44.block) ∧ Dj (some b33.block) og45 ∧ Dj (some b33.block) og46 ∧ Dj og34 (some b44.block) ∧ Dj og34 og45 ∧ Dj og34 og46 ∧ Dj og35 (some b44.block) ∧ Dj og35 og45 ∧ Dj og35 og46 ∧ Dj (some b36.block) (some b44.block) ∧ Dj (some b36.block) og45 ∧ Dj (some b36.block) og46 ∧ Dj og37 (some b44.block) ∧ Dj og37 og45 ∧ Dj og37 og46 ∧ Dj og38 (some b44.block) ∧ Dj og38 og45 ∧ Dj og38 og46 ∧ Dj og39 (some b44.block) ∧ Dj og39 og45 ∧ Dj og39 og46 ∧ Dj og40 (some b44.block) ∧ Dj og40 og45 ∧ Dj og40 og46 ∧ Dj (some b44.block) og45 ∧ Dj (some b44.block) og46 ∧ Dj og45 og46) ⟨rfl, rfl, rfl, rfl, trivial⟩ ?_ ?_
  · skip
    have hB0 := Ext.refl w43
    refine CW.draw T.mixed (by kernel_rfl) (fun _ _ _ _ _ h => h) (fun w8 w9 => Upd none w8 w9) 11 (.take 0 (.take 2 (.fork 1 8 (.fork 3 8 (.fork 4 8 (.take 5 (.take 6 (.take 7 (.must 8 (.must 9 (.take 10 .done)))))) (.must 4 (.take 5 (.take 6 (.take 7 (.must 9 (.take 10 .done))))))) (.must 3 (.must 4 (.take 5 (.take 6 (.take 7 (.must 9 (.take 10 .done)))))))) (.must 1 (.must 3 (.must 4 (.take 5 (.take 6 (.take 7 (.must 9 (.take 10 .done))))))))))) (by kernel_rfl) (fun w44 hXd => ?_)
    have hB := hB.trans hXd
    have hBc := (by first | exact hBc.trans hXd | exact hB0.trans hXd)
    have hb1 := hb1.up hXd
    have hb2 := hb2.up hXd
    have hb3 := hb3.up hXd
    have ho4 := ho4.up hXd
    have ho5 := ho5.up hXd
    have ho28 := ho28.up hXd
    have ho29 := ho29.up hXd
    have hb30 := hb30.up hXd
    have ho31 := ho31.up hXd
    have ho32 := ho32.up hXd
    have hb33 := hb33.up hXd
    have ho34 := ho34.up hXd
    have ho35 := ho35.up hXd
    have hb36 := hb36.up hXd
    have ho37 := ho37.up hXd
    have ho38 := ho38.up hXd
    have ho39 := ho39.up hXd
    have ho40 := ho40.up hXd
    have hBr := hB
    have hS : Upd none w44 w44 := Ext.toUpd (Ext.refl _)
    refine HP.take rfl rfl rfl rfl hS (fun wS hS1 => (by first | exact PV.loadA T.ag58 rfl (by first | exact Cells.up (by assumption) (hBr.trans hS1) | exact Bx.cells (Bx.updD (by assumption) hS1 (Dj.nlR _)) | exact Cells.upd (by assumption) hS1 (by simp)) (Ext.refl _) rfl | exact PV.loadP (ds := [_, _, _, _]) T.ag58 rfl (by first | exact Cells.up (by assumption) (hBr.trans hS1) | exact Bx.cells (Bx.updD (by assumption) hS1 (Dj.nlR _)) | exact Cells.upd (by assumption) hS1 (by simp)) (Ext.refl _) rfl rfl)) ?_
    refine HP.take rfl rfl rfl rfl hS (fun wS hS1 => (by first | exact PV.loadA T.ag58 rfl (by first | exact Cells.up (by assumption) (hBr.trans hS1) | exact Bx.cells (Bx.updD (by assumption) hS1 (Dj.nlR _)) | exact Cells.upd (by assumption) hS1 (by simp)) (Ext.refl _) rfl | exact PV.loadP (ds := [_, _, _, _]) T.ag58 rfl (by first | exact Cells.up (by assumption) (hBr.trans hS1) | exact Bx.cells (Bx.updD (by assumption) hS1 (Dj.nlR _)) | exact Cells.upd (by assumption) hS1 (by simp)) (Ext.refl _) rfl rfl)) ?_
    refine HP.fork rfl rfl rfl rfl ?_ ?_
    · skip
      refine (OpK.call rfl T.cf39 rfl (c_laws_toSided (by first | assumption | exact Rd.up (by assumption) hB | exact Osl.rd (by assumption) | exact Osn.rdR (by assumption) | exact NL.rd (by assumption)) (by first | assumption | exact Rd.up (by assumption) hB | exact Osl.rd (by assumption) | exact Osn.rdR (by assumption) | exact NL.rd (by assumption)) (by first | assumption | omega | (simp only [marks_len, marksB_len, marksR_len]; omega)) (by first | assumption | omega | (simp only [marks_len, marksB_len, marksR_len]; omega))) (fun rv18 w45 hR => ?_))
      obtain ⟨hXw45, v47, og47, v48, og48, rfl, ho47, hq47, ho48, hq48, hd47_48⟩ := hR
      have hl47 := Lo.up hq47 hB
      have hv47 := Lo.up hq47 hS
      have hd1_47 := Dj.lo hb1.ltO hq47
      have hd2_47 := Dj.lo hb2.ltO hq47
      have hd3_47 := Dj.lo hb3.ltO hq47
      have hd4_47 := Dj.lo ho4.ltO hq47
      have hd5_47 := Dj.lo ho5.ltO hq47
      have hd28_47 := Dj.lo ho28.ltO hq47
      have hd29_47 := Dj.lo ho29.ltO hq47
      have hd30_47 := Dj.lo hb30.ltO hq47
      have hd31_47 := Dj.lo ho31.ltO hq47
      have hd32_47 := Dj.lo ho32.ltO hq47
      have hd33_47 := Dj.lo hb33.ltO hq47
      have hd34_47 := Dj.lo ho34.ltO hq47
      have hd35_47 := Dj.lo ho35.ltO hq47
      have hd36_47 := Dj.lo hb36.ltO hq47
      have hd37_47 := Dj.lo ho37.ltO hq47
      have hd38_47 := Dj.lo ho38.ltO hq47
      have hd39_47 := Dj.lo ho39.ltO hq47
      have hd40_47 := Dj.lo ho40.ltO hq47
      have hl48 := Lo.up hq48 hB
      have hv48 := Lo.up hq48 hS
      have hd1_48 := Dj.lo hb1.ltO hq48
      have hd2_48 := Dj.lo hb2.ltO hq48
      have hd3_48 := Dj.lo hb3.ltO hq48
      have hd4_48 := Dj.lo ho4.ltO hq48
      have hd5_48 := Dj.lo ho5.ltO hq48
      have hd28_48 := Dj.lo ho28.ltO hq48
      have hd29_48 := Dj.lo ho29.ltO hq48
      have hd30_48 := Dj.lo hb30.ltO hq48
      have hd31_48 := Dj.lo ho31.ltO hq48
      have hd32_48 := Dj.lo ho32.ltO hq48
      have hd33_48 := Dj.lo hb33.ltO hq48
      have hd34_48 := Dj.lo ho34.ltO hq48
      have hd35_48 := Dj.lo ho35.ltO hq48
      have hd36_48 := Dj.lo hb36.ltO hq48
      have hd37_48 := Dj.lo ho37.ltO hq48
      have hd38_48 := Dj.lo ho38.ltO hq48
      have hd39_48 := Dj.lo ho39.ltO hq48
      have hd40_48 := Dj.lo ho40.ltO hq48
      refine ⟨Upd.trans hS hXw45, ?_⟩
      have hS := Upd.trans hS hXw45
      have hB := hB.trans hXw45
      have hBc := (by first | exact hBc.trans hXw45 | exact hB0.trans hXw45)
      have hb1 := hb1.up hXw45
      have hb2 := hb2.up hXw45
      have hb3 := hb3.up hXw45
      have ho4 := ho4.up hXw45
      have ho5 := ho5.up hXw45
      have ho28 := ho28.up hXw45
      have ho29 := ho29.up hXw45
      have hb30 := hb30.up hXw45
      have ho31 := ho31.up hXw45
      have ho32 := ho32.up hXw45
      have hb33 := hb33.up hXw45
      have ho34 := ho34.up hXw45
      have ho35 := ho35.up hXw45
      have hb36 := hb36.up hXw45
      have ho37 := ho37.up hXw45
      have ho38 := ho38.up hXw45
      have ho39 := ho39.up hXw45
      have ho40 := ho40.up hXw45
      refine HP.fork rfl rfl rfl rfl ?_ ?_
      · skip
        refine (OpK.call rfl T.cf39 rfl (c_laws_toSided (by first | assumption | exact Rd.up (by assumption) hB | exact Osl.rd (by assumption) | exact Osn.rdR (by assumption) | exact NL.rd (by assumption)) (by first | assumption | exact Rd.up (by assumption) hB | exact Osl.rd (by assumption) | exact Osn.rdR (by assumption) | exact NL.rd (by assumption)) (by first | assumption | omega | (simp only [marks_len, marksB_len, marksR_len]; omega)) (by first | assumption | omega | (simp only [marks_len, marksB_len, marksR_len]; omega))) (fun rv19 w46 hR => ?_))
        obtain ⟨hXw46, v49, og49, v50, og50, rfl, ho49, hq49, ho50, hq50, hd49_50⟩ := hR
        have hl49 := Lo.up hq49 hB
        have hv49 := Lo.up hq49 hS
        have hd1_49 := Dj.lo hb1.ltO hq49
        have hd2_49 := Dj.lo hb2.ltO hq49
        have hd3_49 := Dj.lo hb3.ltO hq49
        have hd4_49 := Dj.lo ho4.ltO hq49
        have hd5_49 := Dj.lo ho5.ltO hq49
        have hd28_49 := Dj.lo ho28.ltO hq49
        have hd29_49 := Dj.lo ho29.ltO hq49
        have hd30_49 := Dj.lo hb30.ltO hq49
        have hd31_49 := Dj.lo ho31.ltO hq49
        have hd32_49 := Dj.lo ho32.ltO hq49
        have hd33_49 := Dj.lo hb33.ltO hq49
        have hd34_49 := Dj.lo ho34.ltO hq49
        have hd35_49 := Dj.lo ho35.ltO hq49
        have hd36_49 := Dj.lo hb36.ltO hq49
        have hd37_49 := Dj.lo ho37.ltO hq49
        have hd38_49 := Dj.lo ho38.ltO hq49
        have hd39_49 := Dj.lo ho39.ltO hq49
        have hd40_49 := Dj.lo ho40.ltO hq49
        have hd47_49 := Dj.lo ho47.ltO hq49
        have hd48_49 := Dj.lo ho48.ltO hq49
        have hl50 := Lo.up hq50 hB
        have hv50 := Lo.up hq50 hS
        have hd1_50 := Dj.lo hb1.ltO hq50
        have hd2_50 := Dj.lo hb2.ltO hq50
        have hd3_50 := Dj.lo hb3.ltO hq50
        have hd4_50 := Dj.lo ho4.ltO hq50
        have hd5_50 := Dj.lo ho5.ltO hq50
        have hd28_50 := Dj.lo ho28.ltO hq50
        have hd29_50 := Dj.lo ho29.ltO hq50
        have hd30_50 := Dj.lo hb30.ltO hq50
        have hd31_50 := Dj.lo ho31.ltO hq50
        have hd32_50 := Dj.lo ho32.ltO hq50
        have hd33_50 := Dj.lo hb33.ltO hq50
        have hd34_50 := Dj.lo ho34.ltO hq50
        have hd35_50 := Dj.lo ho35.ltO hq50
        have hd36_50 := Dj.lo hb36.ltO hq50
        have hd37_50 := Dj.lo ho37.ltO hq50
        have hd38_50 := Dj.lo ho38.ltO hq50
        have hd39_50 := Dj.lo ho39.ltO hq50
        have hd40_50 := Dj.lo ho40.ltO hq50
        have hd47_50 := Dj.lo ho47.ltO hq50
        have hd48_50 := Dj.lo ho48.ltO hq50
        refine ⟨Upd.trans hS hXw46, ?_⟩
        have hS := Upd.trans hS hXw46
        have hB := hB.trans hXw46
        have hBc := (by first | exact hBc.trans hXw46 | exact hB0.trans hXw46)
        have hb1 := hb1.up hXw46
        have hb2 := hb2.up hXw46
        have hb3 := hb3.up hXw46
        have ho4 := ho4.up hXw46
        have ho5 := ho5.up hXw46
        have ho28 := ho28.up hXw46
        have ho29 := ho29.up hXw46
        have hb30 := hb30.up hXw46
        have ho31 := ho31.up hXw46
        have ho32 := ho32.up hXw46
        have hb33 := hb33.up hXw46
        have ho34 := ho34.up hXw46
        have ho35 := ho35.up hXw46
        have hb36 := hb36.up hXw46
        have ho37 := ho37.up hXw46
        have ho38 := ho38.up hXw46
        have ho39 := ho39.up hXw46
        have ho40 := ho40.up hXw46
        have ho47 := ho47.up hXw46
        have ho48 := ho48.up hXw46
        refine HP.fork rfl rfl rfl rfl ?_ ?_
        · skip
          refine (OpK.call rfl T.cf45 rfl (c_impl_EitherSided (by first | assumption | exact Rd.up (by assumption) hB | exact Osl.rd (by assumption) | exact Osn.rdR (by assumption) | exact NL.rd (by assumption)) (by first | assumption | exact Rd.up (by assumption) hB | exact Osl.rd (by assumption) | exact Osn.rdR (by assumption) | exact NL.rd (by assumption)) (by first | assumption | exact Rd.up (by assumption) hB | exact Osl.rd (by assumption) | exact Osn.rdR (by assumption) | exact NL.rd (by assumption)) (by first | assumption | exact Rd.up (by assumption) hB | exact Osl.rd (by assumption) | exact Osn.rdR (by assumption) | exact NL.rd (by assumption))) (fun rv20 w47 hR => ?_))
          obtain ⟨hXw47, v51, og51, v52, og52, rfl, ho51, hq51, ho52, hq52, hd51_52⟩ := hR
          have hl51 := Lo.up hq51 hB
          have hv51 := Lo.up hq51 hS
          have hd1_51 := Dj.lo hb1.ltO hq51
          have hd2_51 := Dj.lo hb2.ltO hq51
          have hd3_51 := Dj.lo hb3.ltO hq51
          have hd4_51 := Dj.lo ho4.ltO hq51
          have hd5_51 := Dj.lo ho5.ltO hq51
          have hd28_51 := Dj.lo ho28.ltO hq51
          have hd29_51 := Dj.lo ho29.ltO hq51
          have hd30_51 := Dj.lo hb30.ltO hq51
          have hd31_51 := Dj.lo ho31.ltO hq51
          have hd32_51 := Dj.lo ho32.ltO hq51
          have hd33_51 := Dj.lo hb33.ltO hq51
          have hd34_51 := Dj.lo ho34.ltO hq51
          have hd35_51 := Dj.lo ho35.ltO hq51
          have hd36_51 := Dj.lo hb36.ltO hq51
          have hd37_51 := Dj.lo ho37.ltO hq51
          have hd38_51 := Dj.lo ho38.ltO hq51
          have hd39_51 := Dj.lo ho39.ltO hq51
          have hd40_51 := Dj.lo ho40.ltO hq51
          have hd47_51 := Dj.lo ho47.ltO hq51
          have hd48_51 := Dj.lo ho48.ltO hq51
          have hd49_51 := Dj.lo ho49.ltO hq51
          have hd50_51 := Dj.lo ho50.ltO hq51
          have hl52 := Lo.up hq52 hB
          have hv52 := Lo.up hq52 hS
          have hd1_52 := Dj.lo hb1.ltO hq52
          have hd2_52 := Dj.lo hb2.ltO hq52
          have hd3_52 := Dj.lo hb3.ltO hq52
          have hd4_52 := Dj.lo ho4.ltO hq52
          have hd5_52 := Dj.lo ho5.ltO hq52
          have hd28_52 := Dj.lo ho28.ltO hq52
          have hd29_52 := Dj.lo ho29.ltO hq52
          have hd30_52 := Dj.lo hb30.ltO hq52
          have hd31_52 := Dj.lo ho31.ltO hq52
          have hd32_52 := Dj.lo ho32.ltO hq52
          have hd33_52 := Dj.lo hb33.ltO hq52
          have hd34_52 := Dj.lo ho34.ltO hq52
          have hd35_52 := Dj.lo ho35.ltO hq52
          have hd36_52 := Dj.lo hb36.ltO hq52
          have hd37_52 := Dj.lo ho37.ltO hq52
          have hd38_52 := Dj.lo ho38.ltO hq52
          have hd39_52 := Dj.lo ho39.ltO hq52
          have hd40_52 := Dj.lo ho40.ltO hq52
          have hd47_52 := Dj.lo ho47.ltO hq52
          have hd48_52 := Dj.lo ho48.ltO hq52
          have hd49_52 := Dj.lo ho49.ltO hq52
          have hd50_52 := Dj.lo ho50.ltO hq52
          refine ⟨Upd.trans hS hXw47, ?_⟩
          have hS := Upd.trans hS hXw47
          have hB := hB.trans hXw47
          have hBc := (by first | exact hBc.trans hXw47 | exact hB0.trans hXw47)
          have hb1 := hb1.up hXw47
          have hb2 := hb2.up hXw47
          have hb3 := hb3.up hXw47
          have ho4 := ho4.up hXw47
          have ho5 := ho5.up hXw47
          have ho28 := ho28.up hXw47
          have ho29 := ho29.up hXw47
          have hb30 := hb30.up hXw47
          have ho31 := ho31.up hXw47
          have ho32 := ho32.up hXw47
          have hb33 := hb33.up hXw47
          have ho34 := ho34.up hXw47
          have ho35 := ho35.up hXw47
          have hb36 := hb36.up hXw47
          have ho37 := ho37.up hXw47
          have ho38 := ho38.up hXw47
          have ho39 := ho39.up hXw47
          have ho40 := ho40.up hXw47
          have ho47 := ho47.up hXw47
          have ho48 := ho48.up hXw47
          have ho49 := ho49.up hXw47
          have ho50 := ho50.up hXw47
          refine HP.take rfl rfl rfl rfl hS (fun wS hS1 => PV.move rfl) ?_
          refine HP.take rfl rfl rfl rfl hS (fun wS hS1 => PV.extract rfl rfl) ?_
          refine HP.take rfl rfl rfl rfl hS (fun wS hS1 => PV.extract rfl rfl) ?_
          refine HP.must rfl rfl (OpK.alloc rfl T.zv62 rfl (fun b53 w48 hXw48 hb53 hge53 => ?_))
          have hl53 := Lo.new hB hge53
          have hv53 := Lo.new hS hge53
          have hd1_53 := Dj.new hb1.ltO hge53
          have hd2_53 := Dj.new hb2.ltO hge53
          have hd3_53 := Dj.new hb3.ltO hge53
          have hd4_53 := Dj.new ho4.ltO hge53
          have hd5_53 := Dj.new ho5.ltO hge53
          have hd28_53 := Dj.new ho28.ltO hge53
          have hd29_53 := Dj.new ho29.ltO hge53
          have hd30_53 := Dj.new hb30.ltO hge53
          have hd31_53 := Dj.new ho31.ltO hge53
          have hd32_53 := Dj.new ho32.ltO hge53
          have hd33_53 := Dj.new hb33.ltO hge53
          have hd34_53 := Dj.new ho34.ltO hge53
          have hd35_53 := Dj.new ho35.ltO hge53
          have hd36_53 := Dj.new hb36.ltO hge53
          have hd37_53 := Dj.new ho37.ltO hge53
          have hd38_53 := Dj.new ho38.ltO hge53
          have hd39_53 := Dj.new ho39.ltO hge53
          have hd40_53 := Dj.new ho40.ltO hge53
          have hd47_53 := Dj.new ho47.ltO hge53
          have hd48_53 := Dj.new ho48.ltO hge53
          have hd49_53 := Dj.new ho49.ltO hge53
          have hd50_53 := Dj.new ho50.ltO hge53
          have hd51_53 := Dj.new ho51.ltO hge53
          have hd52_53 := Dj.new ho52.ltO hge53
          refine ⟨Upd.trans hS hXw48, ?_⟩
          have hS := Upd.trans hS hXw48
          have hB := hB.trans hXw48
          have hBc := (by first | exact hBc.trans hXw48 | exact hB0.trans hXw48)
          have hb1 := hb1.up hXw48
          have hb2 := hb2.up hXw48
          have hb3 := hb3.up hXw48
          have ho4 := ho4.up hXw48
          have ho5 := ho5.up hXw48
          have ho28 := ho28.up hXw48
          have ho29 := ho29.up hXw48
          have hb30 := hb30.up hXw48
          have ho31 := ho31.up hXw48
          have ho32 := ho32.up hXw48
          have hb33 := hb33.up hXw48
          have ho34 := ho34.up hXw48
          have ho35 := ho35.up hXw48
          have hb36 := hb36.up hXw48
          have ho37 := ho37.up hXw48
          have ho38 := ho38.up hXw48
          have ho39 := ho39.up hXw48
          have ho40 := ho40.up hXw48
          have ho47 := ho47.up hXw48
          have ho48 := ho48.up hXw48
          have ho49 := ho49.up hXw48
          have ho50 := ho50.up hXw48
          have ho51 := ho51.up hXw48
          have ho52 := ho52.up hXw48
          refine HP.must rfl rfl (OpK.storeA T.sz62 rfl rfl rfl rfl (by simp [Value.oneCell'] <;> first | done | (repeat' apply And.intro) <;> first | rfl | exact Osl.oneCell (by assumption) | exact Osn.oneCell (by assumption) | exact Rd.oneCell (by assumption) | exact Rd.oneCell (NL.rd (by assumption)) | assumption) hb53 (fun w49 hXw49 hb53 => ?_))
          refine ⟨Ext.updL hS hXw49 hv53, ?_⟩
          have hS := Ext.updL hS hXw49 hv53
          have hB := hB.updL hXw49 hl53
          have hBc := hBc.updL hXw49 (Lo.up hv53 hXd)
          have hb1 := hb1.updD hXw49 hd1_53
          have hb2 := hb2.updD hXw49 hd2_53
          have hb3 := hb3.updD hXw49 hd3_53
          have ho4 := ho4.updD hXw49 hd4_53
          have ho5 := ho5.updD hXw49 hd5_53
          have ho28 := ho28.updD hXw49 hd28_53
          have ho29 := ho29.updD hXw49 hd29_53
          have hb30 := hb30.updD hXw49 hd30_53
          have ho31 := ho31.updD hXw49 hd31_53
          have ho32 := ho32.updD hXw49 hd32_53
          have hb33 := hb33.updD hXw49 hd33_53
          have ho34 := ho34.updD hXw49 hd34_53
          have ho35 := ho35.updD hXw49 hd35_53
          have hb36 := hb36.updD hXw49 hd36_53
          have ho37 := ho37.updD hXw49 hd37_53
          have ho38 := ho38.updD hXw49 hd38_53
          have ho39 := ho39.updD hXw49 hd39_53
          have ho40 := ho40.updD hXw49 hd40_53
          have ho47 := ho47.updD hXw49 hd47_53
          have ho48 := ho48.updD hXw49 hd48_53
          have ho49 := ho49.updD hXw49 hd49_53
          have ho50 := ho50.updD hXw49 hd50_53
          have ho51 := ho51.updD hXw49 hd51_53
          have ho52 := ho52.updD hXw49 hd52_53
          refine HP.take rfl rfl rfl rfl hS (fun wS hS1 => PV.assign rfl) ?_
          refine HP.done ?_
          exact NQ.cut (ρ := [(15, _), (16, _)]) ⟨rfl, rfl, rfl, rfl, rfl, rfl, trivial⟩ ⟨b53, v51, og51, v52, og52, rfl, hBc, hb53, hl53, ho51, hl51, ho52, hl52, hd1_53, hd1_51, hd1_52, hd2_53, hd2_51, hd2_52, hd3_53, hd3_51, hd3_52, hd4_53, hd4_51, hd4_52, hd5_53, hd5_51, hd5_52, hd28_53, hd28_51, hd28_52, hd29_53, hd29_51, hd29_52, hd30_53, hd30_51, hd30_52, hd31_53, hd31_51, hd31_52, hd32_53, hd32_51, hd32_52, hd33_53, hd33_51, hd33_52, hd34_53, hd34_51, hd34_52, hd35_53, hd35_51, hd35_52, hd36_53, hd36_51, hd36_52, hd37_53, hd37_51, hd37_52, hd38_53, hd38_51, hd38_52, hd39_53, hd39_51, hd39_52, hd40_53, hd40_51, hd40_52, (Dj.symm hd51_53), (Dj.symm hd52_53), hd51_52⟩
        · skip
          refine (OpK.alloc rfl T.zv62 rfl (fun b54 w50 hXw50 hb54 hge54 => ?_))
          have hl54 := Lo.new hB hge54
          have hv54 := Lo.new hS hge54
          have hd1_54 := Dj.new hb1.ltO hge54
          have hd2_54 := Dj.new hb2.ltO hge54
          have hd3_54 := Dj.new hb3.ltO hge54
          have hd4_54 := Dj.new ho4.ltO hge54
          have hd5_54 := Dj.new ho5.ltO hge54
          have hd28_54 := Dj.new ho28.ltO hge54
          have hd29_54 := Dj.new ho29.ltO hge54
          have hd30_54 := Dj.new hb30.ltO hge54
          have hd31_54 := Dj.new ho31.ltO hge54
          have hd32_54 := Dj.new ho32.ltO hge54
          have hd33_54 := Dj.new hb33.ltO hge54
          have hd34_54 := Dj.new ho34.ltO hge54
          have hd35_54 := Dj.new ho35.ltO hge54
          have hd36_54 := Dj.new hb36.ltO hge54
          have hd37_54 := Dj.new ho37.ltO hge54
          have hd38_54 := Dj.new ho38.ltO hge54
          have hd39_54 := Dj.new ho39.ltO hge54
          have hd40_54 := Dj.new ho40.ltO hge54
          have hd47_54 := Dj.new ho47.ltO hge54
          have hd48_54 := Dj.new ho48.ltO hge54
          have hd49_54 := Dj.new ho49.ltO hge54
          have hd50_54 := Dj.new ho50.ltO hge54
          refine ⟨Upd.trans hS hXw50, ?_⟩
          have hS := Upd.trans hS hXw50
          have hB := hB.trans hXw50
          have hBc := (by first | exact hBc.trans hXw50 | exact hB0.trans hXw50)
          have hb1 := hb1.up hXw50
          have hb2 := hb2.up hXw50
          have hb3 := hb3.up hXw50
          have ho4 := ho4.up hXw50
          have ho5 := ho5.up hXw50
          have ho28 := ho28.up hXw50
          have ho29 := ho29.up hXw50
          have hb30 := hb30.up hXw50
          have ho31 := ho31.up hXw50
          have ho32 := ho32.up hXw50
          have hb33 := hb33.up hXw50
          have ho34 := ho34.up hXw50
          have ho35 := ho35.up hXw50
          have hb36 := hb36.up hXw50
          have ho37 := ho37.up hXw50
          have ho38 := ho38.up hXw50
          have ho39 := ho39.up hXw50
          have ho40 := ho40.up hXw50
          have ho47 := ho47.up hXw50
          have ho48 := ho48.up hXw50
          have ho49 := ho49.up hXw50
          have ho50 := ho50.up hXw50
          refine HP.must rfl rfl (OpK.call rfl T.cf45 rfl (c_impl_EitherSided (by first | assumption | exact Rd.up (by assumption) hB | exact Osl.rd (by assumption) | exact Osn.rdR (by assumption) | exact NL.rd (by assumption)) (by first | assumption | exact Rd.up (by assumption) hB | exact Osl.rd (by assumption) | exact Osn.rdR (by assumption) | exact NL.rd (by assumption)) (by first | assumption | exact Rd.up (by assumption) hB | exact Osl.rd (by assumption) | exact Osn.rdR (by assumption) | exact NL.rd (by assumption)) (by first | assumption | exact Rd.up (by assumption) hB | exact Osl.rd (by assumption) | exact Osn.rdR (by assumption) | exact NL.rd (by assumption))) (fun rv21 w51 hR => ?_))
          obtain ⟨hXw51, v55, og55, v56, og56, rfl, ho55, hq55, ho56, hq56, hd55_56⟩ := hR
          have hl55 := Lo.up hq55 hB
          have hv55 := Lo.up hq55 hS
          have hd1_55 := Dj.lo hb1.ltO hq55
          have hd2_55 := Dj.lo hb2.ltO hq55
          have hd3_55 := Dj.lo hb3.ltO hq55
          have hd4_55 := Dj.lo ho4.ltO hq55
          have hd5_55 := Dj.lo ho5.ltO hq55
          have hd28_55 := Dj.lo ho28.ltO hq55
          have hd29_55 := Dj.lo ho29.ltO hq55
          have hd30_55 := Dj.lo hb30.ltO hq55
          have hd31_55 := Dj.lo ho31.ltO hq55
          have hd32_55 := Dj.lo ho32.ltO hq55
          have hd33_55 := Dj.lo hb33.ltO hq55
          have hd34_55 := Dj.lo ho34.ltO hq55
          have hd35_55 := Dj.lo ho35.ltO hq55
          have hd36_55 := Dj.lo hb36.ltO hq55
          have hd37_55 := Dj.lo ho37.ltO hq55
          have hd38_55 := Dj.lo ho38.ltO hq55
          have hd39_55 := Dj.lo ho39.ltO hq55
          have hd40_55 := Dj.lo ho40.ltO hq55
          have hd47_55 := Dj.lo ho47.ltO hq55
          have hd48_55 := Dj.lo ho48.ltO hq55
          have hd49_55 := Dj.lo ho49.ltO hq55
          have hd50_55 := Dj.lo ho50.ltO hq55
          have hd54_55 := Dj.lo hb54.ltO hq55
          have hl56 := Lo.up hq56 hB
          have hv56 := Lo.up hq56 hS
          have hd1_56 := Dj.lo hb1.ltO hq56
          have hd2_56 := Dj.lo hb2.ltO hq56
          have hd3_56 := Dj.lo hb3.ltO hq56
          have hd4_56 := Dj.lo ho4.ltO hq56
          have hd5_56 := Dj.lo ho5.ltO hq56
          have hd28_56 := Dj.lo ho28.ltO hq56
          have hd29_56 := Dj.lo ho29.ltO hq56
          have hd30_56 := Dj.lo hb30.ltO hq56
          have hd31_56 := Dj.lo ho31.ltO hq56
          have hd32_56 := Dj.lo ho32.ltO hq56
          have hd33_56 := Dj.lo hb33.ltO hq56
          have hd34_56 := Dj.lo ho34.ltO hq56
          have hd35_56 := Dj.lo ho35.ltO hq56
          have hd36_56 := Dj.lo hb36.ltO hq56
          have hd37_56 := Dj.lo ho37.ltO hq56
          have hd38_56 := Dj.lo ho38.ltO hq56
          have hd39_56 := Dj.lo ho39.ltO hq56
          have hd40_56 := Dj.lo ho40.ltO hq56
          have hd47_56 := Dj.lo ho47.ltO hq56
          have hd48_56 := Dj.lo ho48.ltO hq56
          have hd49_56 := Dj.lo ho49.ltO hq56
          have hd50_56 := Dj.lo ho50.ltO hq56
          have hd54_56 := Dj.lo hb54.ltO hq56
          refine ⟨Upd.trans hS hXw51, ?_⟩
          have hS := Upd.trans hS hXw51
          have hB := hB.trans hXw51
          have hBc := (by first | exact hBc.trans hXw51 | exact hB0.trans hXw51)
          have hb1 := hb1.up hXw51
          have hb2 := hb2.up hXw51
          have hb3 := hb3.up hXw51
          have ho4 := ho4.up hXw51
          have ho5 := ho5.up hXw51
          have ho28 := ho28.up hXw51
          have ho29 := ho29.up hXw51
          have hb30 := hb30.up hXw51
          have ho31 := ho31.up hXw51
          have ho32 := ho32.up hXw51
          have hb33 := hb33.up hXw51
          have ho34 := ho34.up hXw51
          have ho35 := ho35.up hXw51
          have hb36 := hb36.up hXw51
          have ho37 := ho37.up hXw51
          have ho38 := ho38.up hXw51
          have ho39 := ho39.up hXw51
          have ho40 := ho40.up hXw51
          have ho47 := ho47.up hXw51
          have ho48 := ho48.up hXw51
          have ho49 := ho49.up hXw51
          have ho50 := ho50.up hXw51
          have hb54 := hb54.up hXw51
          refine HP.take rfl rfl rfl rfl hS (fun wS hS1 => PV.move rfl) ?_
          refine HP.take rfl rfl rfl rfl hS (fun wS hS1 => PV.extract rfl rfl) ?_
          refine HP.take rfl rfl rfl rfl hS (fun wS hS1 => PV.extract rfl rfl) ?_
          refine HP.must rfl rfl (OpK.storeA T.sz62 rfl rfl rfl rfl (by simp [Value.oneCell'] <;> first | done | (repeat' apply And.intro) <;> first | rfl | exact Osl.oneCell (by assumption) | exact Osn.oneCell (by assumption) | exact Rd.oneCell (by assumption) | exact Rd.oneCell (NL.rd (by assumption)) | assumption) hb54 (fun w52 hXw52 hb54 => ?_))
          refine ⟨Ext.updL hS hXw52 hv54, ?_⟩
          have hS := Ext.updL hS hXw52 hv54
          have hB := hB.updL hXw52 hl54
          have hBc := hBc.updL hXw52 (Lo.up hv54 hXd)
          have hb1 := hb1.updD hXw52 hd1_54
          have hb2 := hb2.updD hXw52 hd2_54
          have hb3 := hb3.updD hXw52 hd3_54
          have ho4 := ho4.updD hXw52 hd4_54
          have ho5 := ho5.updD hXw52 hd5_54
          have ho28 := ho28.updD hXw52 hd28_54
          have ho29 := ho29.updD hXw52 hd29_54
          have hb30 := hb30.updD hXw52 hd30_54
          have ho31 := ho31.updD hXw52 hd31_54
          have ho32 := ho32.updD hXw52 hd32_54
          have hb33 := hb33.updD hXw52 hd33_54
          have ho34 := ho34.updD hXw52 hd34_54
          have ho35 := ho35.updD hXw52 hd35_54
          have hb36 := hb36.updD hXw52 hd36_54
          have ho37 := ho37.updD hXw52 hd37_54
          have ho38 := ho38.updD hXw52 hd38_54
          have ho39 := ho39.updD hXw52 hd39_54
          have ho40 := ho40.updD hXw52 hd40_54
          have ho47 := ho47.updD hXw52 hd47_54
          have ho48 := ho48.updD hXw52 hd48_54
          have ho49 := ho49.updD hXw52 hd49_54
          have ho50 := ho50.updD hXw52 hd50_54
          have ho55 := ho55.updD hXw52 (Dj.symm hd54_55)
          have ho56 := ho56.updD hXw52 (Dj.symm hd54_56)
          refine HP.take rfl rfl rfl rfl hS (fun wS hS1 => PV.assign rfl) ?_
          refine HP.done ?_
          exact NQ.cut (ρ := [(15, _), (16, _)]) ⟨rfl, rfl, rfl, rfl, rfl, rfl, trivial⟩ ⟨b54, v55, og55, v56, og56, rfl, hBc, hb54, hl54, ho55, hl55, ho56, hl56, hd1_54, hd1_55, hd1_56, hd2_54, hd2_55, hd2_56, hd3_54, hd3_55, hd3_56, hd4_54, hd4_55, hd4_56, hd5_54, hd5_55, hd5_56, hd28_54, hd28_55, hd28_56, hd29_54, hd29_55, hd29_56, hd30_54, hd30_55, hd30_56, hd31_54, hd31_55, hd31_56, hd32_54, hd32_55, hd32_56, hd33_54, hd33_55, hd33_56, hd34_54, hd34_55, hd34_56, hd35_54, hd35_55, hd35_56, hd36_54, hd36_55, hd36_56, hd37_54, hd37_55, hd37_56, hd38_54, hd38_55, hd38_56, hd39_54, hd39_55, hd39_56, hd40_54, hd40_55, hd40_56, hd54_55, hd54_56, hd55_56⟩
      · skip
        refine (OpK.alloc rfl T.zv62 rfl (fun b57 w53 hXw53 hb57 hge57 => ?_))
        have hl57 := Lo.new hB hge57
        have hv57 := Lo.new hS hge57
        have hd1_57 := Dj.new hb1.ltO hge57
        have hd2_57 := Dj.new hb2.ltO hge57
        have hd3_57 := Dj.new hb3.ltO hge57
        have hd4_57 := Dj.new ho4.ltO hge57
        have hd5_57 := Dj.new ho5.ltO hge57
        have hd28_57 := Dj.new ho28.ltO hge57
        have hd29_57 := Dj.new ho29.ltO hge57
        have hd30_57 := Dj.new hb30.ltO hge57
        have hd31_57 := Dj.new ho31.ltO hge57
        have hd32_57 := Dj.new ho32.ltO hge57
        have hd33_57 := Dj.new hb33.ltO hge57
        have hd34_57 := Dj.new ho34.ltO hge57
        have hd35_57 := Dj.new ho35.ltO hge57
        have hd36_57 := Dj.new hb36.ltO hge57
        have hd37_57 := Dj.new ho37.ltO hge57
        have hd38_57 := Dj.new ho38.ltO hge57
        have hd39_57 := Dj.new ho39.ltO hge57
        have hd40_57 := Dj.new ho40.ltO hge57
        have hd47_57 := Dj.new ho47.ltO hge57
        have hd48_57 := Dj.new ho48.ltO hge57
        refine ⟨Upd.trans hS hXw53, ?_⟩
        have hS := Upd.trans hS hXw53
        have hB := hB.trans hXw53
        have hBc := (by first | exact hBc.trans hXw53 | exact hB0.trans hXw53)
        have hb1 := hb1.up hXw53
        have hb2 := hb2.up hXw53
        have hb3 := hb3.up hXw53
        have ho4 := ho4.up hXw53
        have ho5 := ho5.up hXw53
        have ho28 := ho28.up hXw53
        have ho29 := ho29.up hXw53
        have hb30 := hb30.up hXw53
        have ho31 := ho31.up hXw53
        have ho32 := ho32.up hXw53
        have hb33 := hb33.up hXw53
        have ho34 := ho34.up hXw53
        have ho35 := ho35.up hXw53
        have hb36 := hb36.up hXw53
        have ho37 := ho37.up hXw53
        have ho38 := ho38.up hXw53
        have ho39 := ho39.up hXw53
        have ho40 := ho40.up hXw53
        have ho47 := ho47.up hXw53
        have ho48 := ho48.up hXw53
        refine HP.must rfl rfl (OpK.call rfl T.cf39 rfl (c_laws_toSided (by first | assumption | exact Rd.up (by assumption) hB | exact Osl.rd (by assumption) | exact Osn.rdR (by assumption) | exact NL.rd (by assumption)) (by first | assumption | exact Rd.up (by assumption) hB | exact Osl.rd (by assumption) | exact Osn.rdR (by assumption) | exact NL.rd (by assumption)) (by first | assumption | omega | (simp only [marks_len, marksB_len, marksR_len]; omega)) (by first | assumption | omega | (simp only [marks_len, marksB_len, marksR_len]; omega))) (fun rv22 w54 hR => ?_))
        obtain ⟨hXw54, v58, og58, v59, og59, rfl, ho58, hq58, ho59, hq59, hd58_59⟩ := hR
        have hl58 := Lo.up hq58 hB
        have hv58 := Lo.up hq58 hS
        have hd1_58 := Dj.lo hb1.ltO hq58
        have hd2_58 := Dj.lo hb2.ltO hq58
        have hd3_58 := Dj.lo hb3.ltO hq58
        have hd4_58 := Dj.lo ho4.ltO hq58
        have hd5_58 := Dj.lo ho5.ltO hq58
        have hd28_58 := Dj.lo ho28.ltO hq58
        have hd29_58 := Dj.lo ho29.ltO hq58
        have hd30_58 := Dj.lo hb30.ltO hq58
        have hd31_58 := Dj.lo ho31.ltO hq58
        have hd32_58 := Dj.lo ho32.ltO hq58
        have hd33_58 := Dj.lo hb33.ltO hq58
        have hd34_58 := Dj.lo ho34.ltO hq58
        have hd35_58 := Dj.lo ho35.ltO hq58
        have hd36_58 := Dj.lo hb36.ltO hq58
        have hd37_58 := Dj.lo ho37.ltO hq58
        have hd38_58 := Dj.lo ho38.ltO hq58
        have hd39_58 := Dj.lo ho39.ltO hq58
        have hd40_58 := Dj.lo ho40.ltO hq58
        have hd47_58 := Dj.lo ho47.ltO hq58
        have hd48_58 := Dj.lo ho48.ltO hq58
        have hd57_58 := Dj.lo hb57.ltO hq58
        have hl59 := Lo.up hq59 hB
        have hv59 := Lo.up hq59 hS
        have hd1_59 := Dj.lo hb1.ltO hq59
        have hd2_59 := Dj.lo hb2.ltO hq59
        have hd3_59 := Dj.lo hb3.ltO hq59
        have hd4_59 := Dj.lo ho4.ltO hq59
        have hd5_59 := Dj.lo ho5.ltO hq59
        have hd28_59 := Dj.lo ho28.ltO hq59
        have hd29_59 := Dj.lo ho29.ltO hq59
        have hd30_59 := Dj.lo hb30.ltO hq59
        have hd31_59 := Dj.lo ho31.ltO hq59
        have hd32_59 := Dj.lo ho32.ltO hq59
        have hd33_59 := Dj.lo hb33.ltO hq59
        have hd34_59 := Dj.lo ho34.ltO hq59
        have hd35_59 := Dj.lo ho35.ltO hq59
        have hd36_59 := Dj.lo hb36.ltO hq59
        have hd37_59 := Dj.lo ho37.ltO hq59
        have hd38_59 := Dj.lo ho38.ltO hq59
        have hd39_59 := Dj.lo ho39.ltO hq59
        have hd40_59 := Dj.lo ho40.ltO hq59
        have hd47_59 := Dj.lo ho47.ltO hq59
        have hd48_59 := Dj.lo ho48.ltO hq59
        have hd57_59 := Dj.lo hb57.ltO hq59
        refine ⟨Upd.trans hS hXw54, ?_⟩
        have hS := Upd.trans hS hXw54
        have hB := hB.trans hXw54
        have hBc := (by first | exact hBc.trans hXw54 | exact hB0.trans hXw54)
        have hb1 := hb1.up hXw54
        have hb2 := hb2.up hXw54
        have hb3 := hb3.up hXw54
        have ho4 := ho4.up hXw54
        have ho5 := ho5.up hXw54
        have ho28 := ho28.up hXw54
        have ho29 := ho29.up hXw54
        have hb30 := hb30.up hXw54
        have ho31 := ho31.up hXw54
        have ho32 := ho32.up hXw54
        have hb33 := hb33.up hXw54
        have ho34 := ho34.up hXw54
        have ho35 := ho35.up hXw54
        have hb36 := hb36.up hXw54
        have ho37 := ho37.up hXw54
        have ho38 := ho38.up hXw54
        have ho39 := ho39.up hXw54
        have ho40 := ho40.up hXw54
        have ho47 := ho47.up hXw54
        have ho48 := ho48.up hXw54
        have hb57 := hb57.up hXw54
        refine HP.must rfl rfl (OpK.call rfl T.cf45 rfl (c_impl_EitherSided (by first | assumption | exact Rd.up (by assumption) hB | exact Osl.rd (by assumption) | exact Osn.rdR (by assumption) | exact NL.rd (by assumption)) (by first | assumption | exact Rd.up (by assumption) hB | exact Osl.rd (by assumption) | exact Osn.rdR (by assumption) | exact NL.rd (by assumption)) (by first | assumption | exact Rd.up (by assumption) hB | exact Osl.rd (by assumption) | exact Osn.rdR (by assumption) | exact NL.rd (by assumption)) (by first | assumption | exact Rd.up (by assumption) hB | exact Osl.rd (by assumption) | exact Osn.rdR (by assumption) | exact NL.rd (by assumption))) (fun rv23 w55 hR => ?_))
        obtain ⟨hXw55, v60, og60, v61, og61, rfl, ho60, hq60, ho61, hq61, hd60_61⟩ := hR
        have hl60 := Lo.up hq60 hB
        have hv60 := Lo.up hq60 hS
        have hd1_60 := Dj.lo hb1.ltO hq60
        have hd2_60 := Dj.lo hb2.ltO hq60
        have hd3_60 := Dj.lo hb3.ltO hq60
        have hd4_60 := Dj.lo ho4.ltO hq60
        have hd5_60 := Dj.lo ho5.ltO hq60
        have hd28_60 := Dj.lo ho28.ltO hq60
        have hd29_60 := Dj.lo ho29.ltO hq60
        have hd30_60 := Dj.lo hb30.ltO hq60
        have hd31_60 := Dj.lo ho31.ltO hq60
        have hd32_60 := Dj.lo ho32.ltO hq60
        have hd33_60 := Dj.lo hb33.ltO hq60
        have hd34_60 := Dj.lo ho34.ltO hq60
        have hd35_60 := Dj.lo ho35.ltO hq60
        have hd36_60 := Dj.lo hb36.ltO hq60
        have hd37_60 := Dj.lo ho37.ltO hq60
        have hd38_60 := Dj.lo ho38.ltO hq60
        have hd39_60 := Dj.lo ho39.ltO hq60
        have hd40_60 := Dj.lo ho40.ltO hq60
        have hd47_60 := Dj.lo ho47.ltO hq60
        have hd48_60 := Dj.lo ho48.ltO hq60
        have hd57_60 := Dj.lo hb57.ltO hq60
        have hd58_60 := Dj.lo ho58.ltO hq60
        have hd59_60 := Dj.lo ho59.ltO hq60
        have hl61 := Lo.up hq61 hB
        have hv61 := Lo.up hq61 hS
        have hd1_61 := Dj.lo hb1.ltO hq61
        have hd2_61 := Dj.lo hb2.ltO hq61
        have hd3_61 := Dj.lo hb3.ltO hq61
        have hd4_61 := Dj.lo ho4.ltO hq61
        have hd5_61 := Dj.lo ho5.ltO hq61
        have hd28_61 := Dj.lo ho28.ltO hq61
        have hd29_61 := Dj.lo ho29.ltO hq61
        have hd30_61 := Dj.lo hb30.ltO hq61
        have hd31_61 := Dj.lo ho31.ltO hq61
        have hd32_61 := Dj.lo ho32.ltO hq61
        have hd33_61 := Dj.lo hb33.ltO hq61
        have hd34_61 := Dj.lo ho34.ltO hq61
        have hd35_61 := Dj.lo ho35.ltO hq61
        have hd36_61 := Dj.lo hb36.ltO hq61
        have hd37_61 := Dj.lo ho37.ltO hq61
        have hd38_61 := Dj.lo ho38.ltO hq61
        have hd39_61 := Dj.lo ho39.ltO hq61
        have hd40_61 := Dj.lo ho40.ltO hq61
        have hd47_61 := Dj.lo ho47.ltO hq61
        have hd48_61 := Dj.lo ho48.ltO hq61
        have hd57_61 := Dj.lo hb57.ltO hq61
        have hd58_61 := Dj.lo ho58.ltO hq61
        have hd59_61 := Dj.lo ho59.ltO hq61
        refine ⟨Upd.trans hS hXw55, ?_⟩
        have hS := Upd.trans hS hXw55
        have hB := hB.trans hXw55
        have hBc := (by first | exact hBc.trans hXw55 | exact hB0.trans hXw55)
        have hb1 := hb1.up hXw55
        have hb2 := hb2.up hXw55
        have hb3 := hb3.up hXw55
        have ho4 := ho4.up hXw55
        have ho5 := ho5.up hXw55
        have ho28 := ho28.up hXw55
        have ho29 := ho29.up hXw55
        have hb30 := hb30.up hXw55
        have ho31 := ho31.up hXw55
        have ho32 := ho32.up hXw55
        have hb33 := hb33.up hXw55
        have ho34 := ho34.up hXw55
        have ho35 := ho35.up hXw55
        have hb36 := hb36.up hXw55
        have ho37 := ho37.up hXw55
        have ho38 := ho38.up hXw55
        have ho39 := ho39.up hXw55
        have ho40 := ho40.up hXw55
        have ho47 := ho47.up hXw55
        have ho48 := ho48.up hXw55
        have hb57 := hb57.up hXw55
        have ho58 := ho58.up hXw55
        have ho59 := ho59.up hXw55
        refine HP.take rfl rfl rfl rfl hS (fun wS hS1 => PV.move rfl) ?_
        refine HP.take rfl rfl rfl rfl hS (fun wS hS1 => PV.extract rfl rfl) ?_
        refine HP.take rfl rfl rfl rfl hS (fun wS hS1 => PV.extract rfl rfl) ?_
        refine HP.must rfl rfl (OpK.storeA T.sz62 rfl rfl rfl rfl (by simp [Value.oneCell'] <;> first | done | (repeat' apply And.intro) <;> first | rfl | exact Osl.oneCell (by assumption) | exact Osn.oneCell (by assumption) | exact Rd.oneCell (by assumption) | exact Rd.oneCell (NL.rd (by assumption)) | assumption) hb57 (fun w56 hXw56 hb57 => ?_))
        refine ⟨Ext.updL hS hXw56 hv57, ?_⟩
        have hS := Ext.updL hS hXw56 hv57
        have hB := hB.updL hXw56 hl57
        have hBc := hBc.updL hXw56 (Lo.up hv57 hXd)
        have hb1 := hb1.updD hXw56 hd1_57
        have hb2 := hb2.updD hXw56 hd2_57
        have hb3 := hb3.updD hXw56 hd3_57
        have ho4 := ho4.updD hXw56 hd4_57
        have ho5 := ho5.updD hXw56 hd5_57
        have ho28 := ho28.updD hXw56 hd28_57
        have ho29 := ho29.updD hXw56 hd29_57
        have hb30 := hb30.updD hXw56 hd30_57
        have ho31 := ho31.updD hXw56 hd31_57
        have ho32 := ho32.updD hXw56 hd32_57
        have hb33 := hb33.updD hXw56 hd33_57
        have ho34 := ho34.updD hXw56 hd34_57
        have ho35 := ho35.updD hXw56 hd35_57
        have hb36 := hb36.updD hXw56 hd36_57
        have ho37 := ho37.updD hXw56 hd37_57
        have ho38 := ho38.updD hXw56 hd38_57
        have ho39 := ho39.updD hXw56 hd39_57
        have ho40 := ho40.updD hXw56 hd40_57
        have ho47 := ho47.updD hXw56 hd47_57
        have ho48 := ho48.updD hXw56 hd48_57
        have ho58 := ho58.updD hXw56 (Dj.symm hd57_58)
        have ho59 := ho59.updD hXw56 (Dj.symm hd57_59)
        have ho60 := ho60.updD hXw56 (Dj.symm hd57_60)
        have ho61 := ho61.updD hXw56 (Dj.symm hd57_61)
        refine HP.take rfl rfl rfl rfl hS (fun wS hS1 => PV.assign rfl) ?_
        refine HP.done ?_
        exact NQ.cut (ρ := [(15, _), (16, _)]) ⟨rfl, rfl, rfl, rfl, rfl, rfl, trivial⟩ ⟨b57, v60, og60, v61, og61, rfl, hBc, hb57, hl57, ho60, hl60, ho61, hl61, hd1_57, hd1_60, hd1_61, hd2_57, hd2_60, hd2_61, hd3_57, hd3_60, hd3_61, hd4_57, hd4_60, hd4_61, hd5_57, hd5_60, hd5_61, hd28_57, hd28_60, hd28_61, hd29_57, hd29_60, hd29_61, hd30_57, hd30_60, hd30_61, hd31_57, hd31_60, hd31_61, hd32_57, hd32_60, hd32_61, hd33_57, hd33_60, hd33_61, hd34_57, hd34_60, hd34_61, hd35_57, hd35_60, hd35_61, hd36_57, hd36_60, hd36_61, hd37_57, hd37_60, hd37_61, hd38_57, hd38_60, hd38_61, hd39_57, hd39_60, hd39_61, hd40_57, hd40_60, hd40_61, hd57_60, hd57_61, hd60_61⟩
    · skip
      refine (OpK.alloc rfl T.zv62 rfl (fun b62 w57 hXw57 hb62 hge62 => ?_))
      have hl62 := Lo.new hB hge62
      have hv62 := Lo.new hS hge62
      have hd1_62 := Dj.new hb1.ltO hge62
      have hd2_62 := Dj.new hb2.ltO hge62
      have hd3_62 := Dj.new hb3.ltO hge62
      have hd4_62 := Dj.new ho4.ltO hge62
      have hd5_62 := Dj.new ho5.ltO hge62
      have hd28_62 := Dj.new ho28.ltO hge62
      have hd29_62 := Dj.new ho29.ltO hge62
      have hd30_62 := Dj.new hb30.ltO hge62
      have hd31_62 := Dj.new ho31.ltO hge62
      have hd32_62 := Dj.new ho32.ltO hge62
      have hd33_62 := Dj.new hb33.ltO hge62
      have hd34_62 := Dj.new ho34.ltO hge62
      have hd35_62 := Dj.new ho35.ltO hge62
      have hd36_62 := Dj.new hb36.ltO hge62
      have hd37_62 := Dj.new ho37.ltO hge62
      have hd38_62 := Dj.new ho38.ltO hge62
      have hd39_62 := Dj.new ho39.ltO hge62
      have hd40_62 := Dj.new ho40.ltO hge62
      refine ⟨Upd.trans hS hXw57, ?_⟩
      have hS := Upd.trans hS hXw57
      have hB := hB.trans hXw57
      have hBc := (by first | exact hBc.trans hXw57 | exact hB0.trans hXw57)
      have hb1 := hb1.up hXw57
      have hb2 := hb2.up hXw57
      have hb3 := hb3.up hXw57
      have ho4 := ho4.up hXw57
      have ho5 := ho5.up hXw57
      have ho28 := ho28.up hXw57
      have ho29 := ho29.up hXw57
      have hb30 := hb30.up hXw57
      have ho31 := ho31.up hXw57
      have ho32 := ho32.up hXw57
      have hb33 := hb33.up hXw57
      have ho34 := ho34.up hXw57
      have ho35 := ho35.up hXw57
      have hb36 := hb36.up hXw57
      have ho37 := ho37.up hXw57
      have ho38 := ho38.up hXw57
      have ho39 := ho39.up hXw57
      have ho40 := ho40.up hXw57
      refine HP.must rfl rfl (OpK.call rfl T.cf39 rfl (c_laws_toSided (by first | assumption | exact Rd.up (by assumption) hB | exact Osl.rd (by assumption) | exact Osn.rdR (by assumption) | exact NL.rd (by assumption)) (by first | assumption | exact Rd.up (by assumption) hB | exact Osl.rd (by assumption) | exact Osn.rdR (by assumption) | exact NL.rd (by assumption)) (by first | assumption | omega | (simp only [marks_len, marksB_len, marksR_len]; omega)) (by first | assumption | omega | (simp only [marks_len, marksB_len, marksR_len]; omega))) (fun rv24 w58 hR => ?_))
      obtain ⟨hXw58, v63, og63, v64, og64, rfl, ho63, hq63, ho64, hq64, hd63_64⟩ := hR
      have hl63 := Lo.up hq63 hB
      have hv63 := Lo.up hq63 hS
      have hd1_63 := Dj.lo hb1.ltO hq63
      have hd2_63 := Dj.lo hb2.ltO hq63
      have hd3_63 := Dj.lo hb3.ltO hq63
      have hd4_63 := Dj.lo ho4.ltO hq63
      have hd5_63 := Dj.lo ho5.ltO hq63
      have hd28_63 := Dj.lo ho28.ltO hq63
      have hd29_63 := Dj.lo ho29.ltO hq63
      have hd30_63 := Dj.lo hb30.ltO hq63
      have hd31_63 := Dj.lo ho31.ltO hq63
      have hd32_63 := Dj.lo ho32.ltO hq63
      have hd33_63 := Dj.lo hb33.ltO hq63
      have hd34_63 := Dj.lo ho34.ltO hq63
      have hd35_63 := Dj.lo ho35.ltO hq63
      have hd36_63 := Dj.lo hb36.ltO hq63
      have hd37_63 := Dj.lo ho37.ltO hq63
      have hd38_63 := Dj.lo ho38.ltO hq63
      have hd39_63 := Dj.lo ho39.ltO hq63
      have hd40_63 := Dj.lo ho40.ltO hq63
      have hd62_63 := Dj.lo hb62.ltO hq63
      have hl64 := Lo.up hq64 hB
      have hv64 := Lo.up hq64 hS
      have hd1_64 := Dj.lo hb1.ltO hq64
      have hd2_64 := Dj.lo hb2.ltO hq64
      have hd3_64 := Dj.lo hb3.ltO hq64
      have hd4_64 := Dj.lo ho4.ltO hq64
      have hd5_64 := Dj.lo ho5.ltO hq64
      have hd28_64 := Dj.lo ho28.ltO hq64
      have hd29_64 := Dj.lo ho29.ltO hq64
      have hd30_64 := Dj.lo hb30.ltO hq64
      have hd31_64 := Dj.lo ho31.ltO hq64
      have hd32_64 := Dj.lo ho32.ltO hq64
      have hd33_64 := Dj.lo hb33.ltO hq64
      have hd34_64 := Dj.lo ho34.ltO hq64
      have hd35_64 := Dj.lo ho35.ltO hq64
      have hd36_64 := Dj.lo hb36.ltO hq64
      have hd37_64 := Dj.lo ho37.ltO hq64
      have hd38_64 := Dj.lo ho38.ltO hq64
      have hd39_64 := Dj.lo ho39.ltO hq64
      have hd40_64 := Dj.lo ho40.ltO hq64
      have hd62_64 := Dj.lo hb62.ltO hq64
      refine ⟨Upd.trans hS hXw58, ?_⟩
      have hS := Upd.trans hS hXw58
      have hB := hB.trans hXw58
      have hBc := (by first | exact hBc.trans hXw58 | exact hB0.trans hXw58)
      have hb1 := hb1.up hXw58
      have hb2 := hb2.up hXw58
      have hb3 := hb3.up hXw58
      have ho4 := ho4.up hXw58
      have ho5 := ho5.up hXw58
      have ho28 := ho28.up hXw58
      have ho29 := ho29.up hXw58
      have hb30 := hb30.up hXw58
      have ho31 := ho31.up hXw58
      have ho32 := ho32.up hXw58
      have hb33 := hb33.up hXw58
      have ho34 := ho34.up hXw58
      have ho35 := ho35.up hXw58
      have hb36 := hb36.up hXw58
      have ho37 := ho37.up hXw58
      have ho38 := ho38.up hXw58
      have ho39 := ho39.up hXw58
      have ho40 := ho40.up hXw58
      have hb62 := hb62.up hXw58
      refine HP.must rfl rfl (OpK.call rfl T.cf39 rfl (c_laws_toSided (by first | assumption | exact Rd.up (by assumption) hB | exact Osl.rd (by assumption) | exact Osn.rdR (by assumption) | exact NL.rd (by assumption)) (by first | assumption | exact Rd.up (by assumption) hB | exact Osl.rd (by assumption) | exact Osn.rdR (by assumption) | exact NL.rd (by assumption)) (by first | assumption | omega | (simp only [marks_len, marksB_len, marksR_len]; omega)) (by first | assumption | omega | (simp only [marks_len, marksB_len, marksR_len]; omega))) (fun rv25 w59 hR => ?_))
      obtain ⟨hXw59, v65, og65, v66, og66, rfl, ho65, hq65, ho66, hq66, hd65_66⟩ := hR
      have hl65 := Lo.up hq65 hB
      have hv65 := Lo.up hq65 hS
      have hd1_65 := Dj.lo hb1.ltO hq65
      have hd2_65 := Dj.lo hb2.ltO hq65
      have hd3_65 := Dj.lo hb3.ltO hq65
      have hd4_65 := Dj.lo ho4.ltO hq65
      have hd5_65 := Dj.lo ho5.ltO hq65
      have hd28_65 := Dj.lo ho28.ltO hq65
      have hd29_65 := Dj.lo ho29.ltO hq65
      have hd30_65 := Dj.lo hb30.ltO hq65
      have hd31_65 := Dj.lo ho31.ltO hq65
      have hd32_65 := Dj.lo ho32.ltO hq65
      have hd33_65 := Dj.lo hb33.ltO hq65
      have hd34_65 := Dj.lo ho34.ltO hq65
      have hd35_65 := Dj.lo ho35.ltO hq65
      have hd36_65 := Dj.lo hb36.ltO hq65
      have hd37_65 := Dj.lo ho37.ltO hq65
      have hd38_65 := Dj.lo ho38.ltO hq65
      have hd39_65 := Dj.lo ho39.ltO hq65
      have hd40_65 := Dj.lo ho40.ltO hq65
      have hd62_65 := Dj.lo hb62.ltO hq65
      have hd63_65 := Dj.lo ho63.ltO hq65
      have hd64_65 := Dj.lo ho64.ltO hq65
      have hl66 := Lo.up hq66 hB
      have hv66 := Lo.up hq66 hS
      have hd1_66 := Dj.lo hb1.ltO hq66
      have hd2_66 := Dj.lo hb2.ltO hq66
      have hd3_66 := Dj.lo hb3.ltO hq66
      have hd4_66 := Dj.lo ho4.ltO hq66
      have hd5_66 := Dj.lo ho5.ltO hq66
      have hd28_66 := Dj.lo ho28.ltO hq66
      have hd29_66 := Dj.lo ho29.ltO hq66
      have hd30_66 := Dj.lo hb30.ltO hq66
      have hd31_66 := Dj.lo ho31.ltO hq66
      have hd32_66 := Dj.lo ho32.ltO hq66
      have hd33_66 := Dj.lo hb33.ltO hq66
      have hd34_66 := Dj.lo ho34.ltO hq66
      have hd35_66 := Dj.lo ho35.ltO hq66
      have hd36_66 := Dj.lo hb36.ltO hq66
      have hd37_66 := Dj.lo ho37.ltO hq66
      have hd38_66 := Dj.lo ho38.ltO hq66
      have hd39_66 := Dj.lo ho39.ltO hq66
      have hd40_66 := Dj.lo ho40.ltO hq66
      have hd62_66 := Dj.lo hb62.ltO hq66
      have hd63_66 := Dj.lo ho63.ltO hq66
      have hd64_66 := Dj.lo ho64.ltO hq66
      refine ⟨Upd.trans hS hXw59, ?_⟩
      have hS := Upd.trans hS hXw59
      have hB := hB.trans hXw59
      have hBc := (by first | exact hBc.trans hXw59 | exact hB0.trans hXw59)
      have hb1 := hb1.up hXw59
      have hb2 := hb2.up hXw59
      have hb3 := hb3.up hXw59
      have ho4 := ho4.up hXw59
      have ho5 := ho5.up hXw59
      have ho28 := ho28.up hXw59
      have ho29 := ho29.up hXw59
      have hb30 := hb30.up hXw59
      have ho31 := ho31.up hXw59
      have ho32 := ho32.up hXw59
      have hb33 := hb33.up hXw59
      have ho34 := ho34.up hXw59
      have ho35 := ho35.up hXw59
      have hb36 := hb36.up hXw59
      have ho37 := ho37.up hXw59
      have ho38 := ho38.up hXw59
      have ho39 := ho39.up hXw59
      have ho40 := ho40.up hXw59
      have hb62 := hb62.up hXw59
      have ho63 := ho63.up hXw59
      have ho64 := ho64.up hXw59
      refine HP.must rfl rfl (OpK.call rfl T.cf45 rfl (c_impl_EitherSided (by first | assumption | exact Rd.up (by assumption) hB | exact Osl.rd (by assumption) | exact Osn.rdR (by assumption) | exact NL.rd (by assumption)) (by first | assumption | exact Rd.up (by assumption) hB | exact Osl.rd (by assumption) | exact Osn.rdR (by assumption) | exact NL.rd (by assumption)) (by first | assumption | exact Rd.up (by assumption) hB | exact Osl.rd (by assumption) | exact Osn.rdR (by assumption) | exact NL.rd (by assumption)) (by first | assumption | exact Rd.up (by assumption) hB | exact Osl.rd (by assumption) | exact Osn.rdR (by assumption) | exact NL.rd (by assumption))) (fun rv26 w60 hR => ?_))
      obtain ⟨hXw60, v67, og67, v68, og68, rfl, ho67, hq67, ho68, hq68, hd67_68⟩ := hR
      have hl67 := Lo.up hq67 hB
      have hv67 := Lo.up hq67 hS
      have hd1_67 := Dj.lo hb1.ltO hq67
      have hd2_67 := Dj.lo hb2.ltO hq67
      have hd3_67 := Dj.lo hb3.ltO hq67
      have hd4_67 := Dj.lo ho4.ltO hq67
      have hd5_67 := Dj.lo ho5.ltO hq67
      have hd28_67 := Dj.lo ho28.ltO hq67
      have hd29_67 := Dj.lo ho29.ltO hq67
      have hd30_67 := Dj.lo hb30.ltO hq67
      have hd31_67 := Dj.lo ho31.ltO hq67
      have hd32_67 := Dj.lo ho32.ltO hq67
      have hd33_67 := Dj.lo hb33.ltO hq67
      have hd34_67 := Dj.lo ho34.ltO hq67
      have hd35_67 := Dj.lo ho35.ltO hq67
      have hd36_67 := Dj.lo hb36.ltO hq67
      have hd37_67 := Dj.lo ho37.ltO hq67
      have hd38_67 := Dj.lo ho38.ltO hq67
      have hd39_67 := Dj.lo ho39.ltO hq67
      have hd40_67 := Dj.lo ho40.ltO hq67
      have hd62_67 := Dj.lo hb62.ltO hq67
      have hd63_67 := Dj.lo ho63.ltO hq67
      have hd64_67 := Dj.lo ho64.ltO hq67
      have hd65_67 := Dj.lo ho65.ltO hq67
      have hd66_67 := Dj.lo ho66.ltO hq67
      have hl68 := Lo.up hq68 hB
      have hv68 := Lo.up hq68 hS
      have hd1_68 := Dj.lo hb1.ltO hq68
      have hd2_68 := Dj.lo hb2.ltO hq68
      have hd3_68 := Dj.lo hb3.ltO hq68
      have hd4_68 := Dj.lo ho4.ltO hq68
      have hd5_68 := Dj.lo ho5.ltO hq68
      have hd28_68 := Dj.lo ho28.ltO hq68
      have hd29_68 := Dj.lo ho29.ltO hq68
      have hd30_68 := Dj.lo hb30.ltO hq68
      have hd31_68 := Dj.lo ho31.ltO hq68
      have hd32_68 := Dj.lo ho32.ltO hq68
      have hd33_68 := Dj.lo hb33.ltO hq68
      have hd34_68 := Dj.lo ho34.ltO hq68
      have hd35_68 := Dj.lo ho35.ltO hq68
      have hd36_68 := Dj.lo hb36.ltO hq68
      have hd37_68 := Dj.lo ho37.ltO hq68
      have hd38_68 := Dj.lo ho38.ltO hq68
      have hd39_68 := Dj.lo ho39.ltO hq68
      have hd40_68 := Dj.lo ho40.ltO hq68
      have hd62_68 := Dj.lo hb62.ltO hq68
      have hd63_68 := Dj.lo ho63.ltO hq68
      have hd64_68 := Dj.lo ho64.ltO hq68
      have hd65_68 := Dj.lo ho65.ltO hq68
      have hd66_68 := Dj.lo ho66.ltO hq68
      refine ⟨Upd.trans hS hXw60, ?_⟩
      have hS := Upd.trans hS hXw60
      have hB := hB.trans hXw60
      have hBc := (by first | exact hBc.trans hXw60 | exact hB0.trans hXw60)
      have hb1 := hb1.up hXw60
      have hb2 := hb2.up hXw60
      have hb3 := hb3.up hXw60
      have ho4 := ho4.up hXw60
      have ho5 := ho5.up hXw60
      have ho28 := ho28.up hXw60
      have ho29 := ho29.up hXw60
      have hb30 := hb30.up hXw60
      have ho31 := ho31.up hXw60
      have ho32 := ho32.up hXw60
      have hb33 := hb33.up hXw60
      have ho34 := ho34.up hXw60
      have ho35 := ho35.up hXw60
      have hb36 := hb36.up hXw60
      have ho37 := ho37.up hXw60
      have ho38 := ho38.up hXw60
      have ho39 := ho39.up hXw60
      have ho40 := ho40.up hXw60
      have hb62 := hb62.up hXw60
      have ho63 := ho63.up hXw60
      have ho64 := ho64.up hXw60
      have ho65 := ho65.up hXw60
      have ho66 := ho66.up hXw60
      refine HP.take rfl rfl rfl rfl hS (fun wS hS1 => PV.move rfl) ?_
      refine HP.take rfl rfl rfl rfl hS (fun wS hS1 => PV.extract rfl rfl) ?_
      refine HP.take rfl rfl rfl rfl hS (fun wS hS1 => PV.extract rfl rfl) ?_
      refine HP.must rfl rfl (OpK.storeA T.sz62 rfl rfl rfl rfl (by simp [Value.oneCell'] <;> first | done | (repeat' apply And.intro) <;> first | rfl | exact Osl.oneCell (by assumption) | exact Osn.oneCell (by assumption) | exact Rd.oneCell (by assumption) | exact Rd.oneCell (NL.rd (by assumption)) | assumption) hb62 (fun w61 hXw61 hb62 => ?_))
      refine ⟨Ext.updL hS hXw61 hv62, ?_⟩
      have hS := Ext.updL hS hXw61 hv62
      have hB := hB.updL hXw61 hl62
      have hBc := hBc.updL hXw61 (Lo.up hv62 hXd)
      have hb1 := hb1.updD hXw61 hd1_62
      have hb2 := hb2.updD hXw61 hd2_62
      have hb3 := hb3.updD hXw61 hd3_62
      have ho4 := ho4.updD hXw61 hd4_62
      have ho5 := ho5.updD hXw61 hd5_62
      have ho28 := ho28.updD hXw61 hd28_62
      have ho29 := ho29.updD hXw61 hd29_62
      have hb30 := hb30.updD hXw61 hd30_62
      have ho31 := ho31.updD hXw61 hd31_62
      have ho32 := ho32.updD hXw61 hd32_62
      have hb33 := hb33.updD hXw61 hd33_62
      have ho34 := ho34.updD hXw61 hd34_62
      have ho35 := ho35.updD hXw61 hd35_62
      have hb36 := hb36.updD hXw61 hd36_62
      have ho37 := ho37.updD hXw61 hd37_62
      have ho38 := ho38.updD hXw61 hd38_62
      have ho39 := ho39.updD hXw61 hd39_62
      have ho40 := ho40.updD hXw61 hd40_62
      have ho63 := ho63.updD hXw61 (Dj.symm hd62_63)
      have ho64 := ho64.updD hXw61 (Dj.symm hd62_64)
      have ho65 := ho65.updD hXw61 (Dj.symm hd62_65)
      have ho66 := ho66.updD hXw61 (Dj.symm hd62_66)
      have ho67 := ho67.updD hXw61 (Dj.symm hd62_67)
      have ho68 := ho68.updD hXw61 (Dj.symm hd62_68)
      refine HP.take rfl rfl rfl rfl hS (fun wS hS1 => PV.assign rfl) ?_
      refine HP.done ?_
      exact NQ.cut (ρ := [(15, _), (16, _)]) ⟨rfl, rfl, rfl, rfl, rfl, rfl, trivial⟩ ⟨b62, v67, og67, v68, og68, rfl, hBc, hb62, hl62, ho67, hl67, ho68, hl68, hd1_62, hd1_67, hd1_68, hd2_62, hd2_67, hd2_68, hd3_62, hd3_67, hd3_68, hd4_62, hd4_67, hd4_68, hd5_62, hd5_67, hd5_68, hd28_62, hd28_67, hd28_68, hd29_62, hd29_67, hd29_68, hd30_62, hd30_67, hd30_68, hd31_62, hd31_67, hd31_68, hd32_62, hd32_67, hd32_68, hd33_62, hd33_67, hd33_68, hd34_62, hd34_67, hd34_68, hd35_62, hd35_67, hd35_68, hd36_62, hd36_67, hd36_68, hd37_62, hd37_67, hd37_68, hd38_62, hd38_67, hd38_68, hd39_62, hd39_67, hd39_68, hd40_62, hd40_67, hd40_68, hd62_67, hd62_68, hd67_68⟩
  rintro _ wc2 ⟨b44, v45, og45, v46, og46, rfl, hXc, hb44, hl44, ho45, hl45, ho46, hl46, hd1_44, hd1_45, hd1_46, hd2_44, hd2_45, hd2_46, hd3_44, hd3_45, hd3_46, hd4_44, hd4_45, hd4_46, hd5_44, hd5_45, hd5_46, hd28_44, hd28_45, hd28_46, hd29_44, hd29_45, hd29_46, hd30_44, hd30_45, hd30_46, hd31_44, hd31_45, hd31_46, hd32_44, hd32_45, hd32_46, hd33_44, hd33_45, hd33_46, hd34_44, hd34_45, hd34_46, hd35_44, hd35_45, hd35_46, hd36_44, hd36_45, hd36_46, hd37_44, hd37_45, hd37_46, hd38_44, hd38_45, hd38_46, hd39_44, hd39_45, hd39_46, hd40_44, hd40_45, hd40_46, hd44_45, hd44_46, hd45_46⟩
  have hB := hB.trans hXc
  have hb1 := hb1.up hXc
  have hb2 := hb2.up hXc
  have hb3 := hb3.up hXc
  have ho4 := ho4.up hXc
  have ho5 := ho5.up hXc
  have ho28 := ho28.up hXc
  have ho29 := ho29.up hXc
  have hb30 := hb30.up hXc
  have ho31 := ho31.up hXc
  have ho32 := ho32.up hXc
  have hb33 := hb33.up hXc
  have ho34 := ho34.up hXc
  have ho35 := ho35.up hXc
  have hb36 := hb36.up hXc
  have ho37 := ho37.up hXc
  have ho38 := ho38.up hXc
  have ho39 := ho39.up hXc
  have ho40 := ho40.up hXc
  refine CW.seq ?_
  refine CW.seq ?_
  refine CW.reg ?_
  refine WL.pure rfl rfl rfl ((by first | exact PV.loadA T.ag62 rfl (by first | exact Cells.up (by assumption) hB | exact Bx.cells (by assumption) | assumption) (Ext.refl _) rfl | exact PV.loadP (ds := [_, _, _, _]) T.ag62 rfl (by first | exact Cells.up (by assumption) hB | exact Bx.cells (by assumption) | assumption) (Ext.refl _) rfl rfl)) ?_
  refine WL.pure rfl rfl rfl ((by first | exact PV.loadA T.ag62 rfl (by first | exact Cells.up (by assumption) hB | exact Bx.cells (by assumption) | assumption) (Ext.refl _) rfl | exact PV.loadP (ds := [_, _, _, _]) T.ag62 rfl (by first | exact Cells.up (by assumption) hB | exact Bx.cells (by assumption) | assumption) (Ext.refl _) rfl rfl)) ?_
  refine WL.op rfl (OpK.callR rfl T.cf41 rfl (c_laws_eqSided (by first | assumption | exact Rd.up (by assumption) hB | exact Osl.rd (by assumption) | exact Osn.rdR (by assumption) | exact NL.rd (by assumption)) (by first | assumption | exact Rd.up (by assumption) hB | exact Osl.rd (by assumption) | exact Osn.rdR (by assumption) | exact NL.rd (by assumption)) (by first | assumption | exact Rd.up (by assumption) hB | exact Osl.rd (by assumption) | exact Osn.rdR (by assumption) | exact NL.rd (by assumption)) (by first | assumption | exact Rd.up (by assumption) hB | exact Osl.rd (by assumption) | exact Osn.rdR (by assumption) | exact NL.rd (by assumption))) (fun w62 hXw62 => ?_))
  have hB := hB.trans hXw62
  have hb1 := hb1.up hXw62
  have hb2 := hb2.up hXw62
  have hb3 := hb3.up hXw62
  have ho4 := ho4.up hXw62
  have ho5 := ho5.up hXw62
  have ho28 := ho28.up hXw62
  have ho29 := ho29.up hXw62
  have hb30 := hb30.up hXw62
  have ho31 := ho31.up hXw62
  have ho32 := ho32.up hXw62
  have hb33 := hb33.up hXw62
  have ho34 := ho34.up hXw62
  have ho35 := ho35.up hXw62
  have hb36 := hb36.up hXw62
  have ho37 := ho37.up hXw62
  have ho38 := ho38.up hXw62
  have ho39 := ho39.up hXw62
  have ho40 := ho40.up hXw62
  have hb44 := hb44.up hXw62
  have ho45 := ho45.up hXw62
  have ho46 := ho46.up hXw62
  refine WL.pure rfl rfl rfl (PV.not rfl) ?_
  refine WL.pure rfl rfl rfl (PV.move rfl) ?_
  refine WL.split (t := 106) rfl (fun hc12 => ?_) (fun hc12 => ?_)
  · skip
    try simp only [decide_eq_true_eq, decide_eq_false_iff_not, Bool.not_eq_true', Bool.not_eq_false', Bool.not_eq_eq_eq_not, Bool.not_true, Bool.not_false, Int.not_lt, Int.not_le, Classical.not_not, beq_iff_eq, beq_eq_false_iff_ne] at hc12
    refine WL.skip rfl rfl rfl rfl rfl ?_
    refine WL.skip rfl rfl rfl rfl rfl ?_
    refine WL.skip rfl rfl rfl rfl rfl ?_
    refine WL.pure rfl rfl rfl (PV.pickT rfl rfl) ?_
    refine WL.nilS ?_
    refine CW.condT rfl ?_
    refine CW.seq ?_
    refine CW.reg ?_
    refine WL.pure rfl rfl rfl (PV.assign rfl) ?_
    refine WL.nilS ?_
    refine CW.ret ?_
    refine RQ.then ?_
    refine RQ.r1 rfl ?_
    refine ⟨?_, hB⟩
    first | rfl | (exfalso; revert hc12; simp; done) | (exfalso; revert hc12; simp; omega) | (exfalso; omega) | first | rfl | exact bT (by omega) | exact bF (by omega) | exact bD (by omega) | exact iE (by omega) | (simp_all; done) | (simp_all; omega) | (simp_all; intros; omega)
  try simp only [decide_eq_true_eq, decide_eq_false_iff_not, Bool.not_eq_true', Bool.not_eq_false', Bool.not_eq_eq_eq_not, Bool.not_true, Bool.not_false, Int.not_lt, Int.not_le, Classical.not_not, beq_iff_eq, beq_eq_false_iff_ne] at hc12
  refine WL.pureG rfl rfl rfl rfl rfl (PV.move rfl) ?_
  refine WL.pureG rfl rfl rfl rfl rfl (PV.move rfl) ?_
  refine WL.pureG rfl rfl rfl rfl rfl (PV.neqB T.bl4 rfl rfl) ?_
  refine WL.pure rfl rfl rfl (PV.pickF rfl rfl) ?_
  refine WL.nilS ?_
  refine CW.cond rfl (fun hc13 => ?_) (fun hc13 => ?_)
  · skip
    try simp only [decide_eq_true_eq, decide_eq_false_iff_not, Bool.not_eq_true', Bool.not_eq_false', Bool.not_eq_eq_eq_not, Bool.not_true, Bool.not_false, Int.not_lt, Int.not_le, Classical.not_not, beq_iff_eq, beq_eq_false_iff_ne] at hc13
    refine CW.seq ?_
    refine CW.reg ?_
    refine WL.pure rfl rfl rfl (PV.assign rfl) ?_
    refine WL.nilS ?_
    refine CW.ret ?_
    refine RQ.then ?_
    refine RQ.r1 rfl ?_
    refine ⟨?_, hB⟩
    first | rfl | (exfalso; revert hc13; simp; done) | (exfalso; revert hc13; simp; omega) | (exfalso; omega) | first | rfl | exact bT (by omega) | exact bF (by omega) | exact bD (by omega) | exact iE (by omega) | (simp_all; done) | (simp_all; omega) | (simp_all; intros; omega)
  try simp only [decide_eq_true_eq, decide_eq_false_iff_not, Bool.not_eq_true', Bool.not_eq_false', Bool.not_eq_eq_eq_not, Bool.not_true, Bool.not_false, Int.not_lt, Int.not_le, Classical.not_not, beq_iff_eq, beq_eq_false_iff_ne] at hc13
  refine CW.skipS ?_
  refine CW.seq ?_
  refine CW.reg ?_
  refine WL.pure rfl rfl rfl (PV.assign rfl) ?_
  refine WL.nilS ?_
  refine CW.seq ?_
  refine CW.reg ?_
  refine WL.pure rfl rfl rfl ((by first | exact PV.loadA T.ag62 rfl (by first | exact Cells.up (by assumption) hB | exact Bx.cells (by assumption) | assumption) (Ext.refl _) rfl | exact PV.loadP (ds := [_, _, _, _]) T.ag62 rfl (by first | exact Cells.up (by assumption) hB | exact Bx.cells (by assumption) | assumption) (Ext.refl _) rfl rfl)) ?_
  refine WL.pure rfl rfl rfl (PV.move rfl) ?_
  refine WL.op rfl (OpK.callR rfl T.cf43 rfl (c_laws_heldSided (by first | assumption | exact Rd.up (by assumption) hB | exact Osl.rd (by assumption) | exact Osn.rdR (by assumption) | exact NL.rd (by assumption)) (by first | assumption | exact Rd.up (by assumption) hB | exact Osl.rd (by assumption) | exact Osn.rdR (by assumption) | exact NL.rd (by assumption)) (by first | assumption | omega | (simp only [marks_len, marksB_len, marksR_len]; omega))) (fun w63 hXw63 => ?_))
  have hB := hB.trans hXw63
  have hb1 := hb1.up hXw63
  have hb2 := hb2.up hXw63
  have hb3 := hb3.up hXw63
  have ho4 := ho4.up hXw63
  have ho5 := ho5.up hXw63
  have ho28 := ho28.up hXw63
  have ho29 := ho29.up hXw63
  have hb30 := hb30.up hXw63
  have ho31 := ho31.up hXw63
  have ho32 := ho32.up hXw63
  have hb33 := hb33.up hXw63
  have ho34 := ho34.up hXw63
  have ho35 := ho35.up hXw63
  have hb36 := hb36.up hXw63
  have ho37 := ho37.up hXw63
  have ho38 := ho38.up hXw63
  have ho39 := ho39.up hXw63
  have ho40 := ho40.up hXw63
  have hb44 := hb44.up hXw63
  have ho45 := ho45.up hXw63
  have ho46 := ho46.up hXw63
  refine WL.pure rfl rfl rfl (PV.assign rfl) ?_
  refine WL.nilS ?_
  refine CW.seq ?_
  refine CW.seq ?_
  refine CW.reg ?_
  refine WL.pure rfl rfl rfl (PV.move rfl) ?_
  refine WL.pure rfl rfl rfl (PV.lss rfl rfl) ?_
  refine WL.nilS ?_
  refine CW.cond rfl (fun hc14 => ?_) (fun hc14 => ?_)
  · skip
    try simp only [decide_eq_true_eq, decide_eq_false_iff_not, Bool.not_eq_true', Bool.not_eq_false', Bool.not_eq_eq_eq_not, Bool.not_true, Bool.not_false, Int.not_lt, Int.not_le, Classical.not_not, beq_iff_eq, beq_eq_false_iff_ne] at hc14
    refine CW.seq ?_
    refine CW.reg ?_
    refine WL.pure rfl rfl rfl (PV.assign rfl) ?_
    refine WL.nilS ?_
    refine CW.ret ?_
    refine RQ.then ?_
    refine RQ.r1 rfl ?_
    refine ⟨?_, hB⟩
    first | rfl | (exfalso; revert hc14; simp; done) | (exfalso; revert hc14; simp; omega) | (exfalso; omega) | first | rfl | exact bT (by omega) | exact bF (by omega) | exact bD (by omega) | exact iE (by omega) | (simp_all; done) | (simp_all; omega) | (simp_all; intros; omega)
  try simp only [decide_eq_true_eq, decide_eq_false_iff_not, Bool.not_eq_true', Bool.not_eq_false', Bool.not_eq_eq_eq_not, Bool.not_true, Bool.not_false, Int.not_lt, Int.not_le, Classical.not_not, beq_iff_eq, beq_eq_false_iff_ne] at hc14
  refine CW.skipS ?_
  refine CW.seq ?_
  refine CW.seq ?_
  refine CW.reg ?_
  refine WL.pure rfl rfl rfl (PV.move rfl) ?_
  refine WL.pure rfl rfl rfl (PV.move rfl) ?_
  refine WL.pure rfl rfl rfl (PV.neq rfl rfl) ?_
  refine WL.nilS ?_
  refine CW.cond rfl (fun hc15 => ?_) (fun hc15 => ?_)
  · skip
    try simp only [decide_eq_true_eq, decide_eq_false_iff_not, Bool.not_eq_true', Bool.not_eq_false', Bool.not_eq_eq_eq_not, Bool.not_true, Bool.not_false, Int.not_lt, Int.not_le, Classical.not_not, beq_iff_eq, beq_eq_false_iff_ne] at hc15
    refine CW.seq ?_
    refine CW.reg ?_
    refine WL.pure rfl rfl rfl (PV.assign rfl) ?_
    refine WL.nilS ?_
    refine CW.ret ?_
    refine RQ.then ?_
    refine RQ.r1 rfl ?_
    refine ⟨?_, hB⟩
    first | rfl | (exfalso; revert hc15; simp; done) | (exfalso; revert hc15; simp; omega) | (exfalso; omega) | first | rfl | exact bT (by omega) | exact bF (by omega) | exact bD (by omega) | exact iE (by omega) | (simp_all; done) | (simp_all; omega) | (simp_all; intros; omega)
  try simp only [decide_eq_true_eq, decide_eq_false_iff_not, Bool.not_eq_true', Bool.not_eq_false', Bool.not_eq_eq_eq_not, Bool.not_true, Bool.not_false, Int.not_lt, Int.not_le, Classical.not_not, beq_iff_eq, beq_eq_false_iff_ne] at hc15
  refine CW.skipS ?_
  refine CW.seq ?_
  refine CW.reg ?_
  refine WL.pure rfl rfl rfl (PV.assign rfl) ?_
  refine WL.nilS ?_
  refine CW.ret ?_
  refine RQ.r1 rfl ?_
  refine ⟨?_, hB⟩
  first | rfl | (exfalso; revert hc15; simp; done) | (exfalso; revert hc15; simp; omega) | (exfalso; omega) | first | rfl | exact bT (by omega) | exact bF (by omega) | exact bD (by omega) | exact iE (by omega) | (simp_all; done) | (simp_all; omega) | (simp_all; intros; omega)

end Go.Proofs.Ytafjpclpmbhmdaa
