/- Walks of the functions that the law FnExactIsPartZone reaches: each says what its function computes. No condition. -/
import Derived.Test.YtliakkhlgflbcaaProg
import Derived.Test.YtliakkhlgflbcaaLibM
import Derived.Test.YtliakkhlgflbcaaPlA
import Derived.Test.YtliakkhlgflbcaaPlZ
import Derived.Test.YtliakkhlgflbcaaWFnExactIsPartZonea
namespace Go.Proofs.Ytliakkhlgflbcaa
open Go Go.WX Go.Proofs
set_option linter.unusedSimpArgs false
set_option linter.unusedVariables false

theorem c_impl_ValidZone {w : World} {a0 : Int} {va1 : Value} {xa1 : List Int}  (ha1 : Rd EI w va1 xa1) : Calls Try.prog 30 #[.agg #[.int .i64 a0, va1]] w (Ret1 (RQt (.bool (decide (zoneV a0 xa1))) w)) := by
  have hB : Ext w w := Ext.refl w
  have hla1 := ha1.leI
  refine callsOf (vs := [_]) Try.func30 rfl Try.ntmps30 rfl rfl ?_
  refine CW.seq ?_
  refine CW.reg ?_
  refine WL.op rfl (OpK.box rfl rfl (by first | rfl | exact Rd.cells1 (by assumption) | exact Osl.cells1 (by assumption) | exact Osn.cells1 (by assumption)) (fun b1 w1 hXw1 hb1 hge1 => ?_))
  have hl1 := Lo.new hB hge1
  have hB := hB.trans hXw1
  refine WL.pure rfl rfl rfl (PV.assign rfl) ?_
  refine WL.nilS ?_
  refine CW.seq ?_
  refine CW.seq ?_
  refine CW.draw T.mixed (by kernel_rfl) (fun _ _ _ _ _ h => h) (fun w8 w9 => Upd none w8 w9) 15 (.take 0 (.take 1 (.must 2 (.take 3 (.take 4 (.split (.take 5 (.take 6 (.take 7 (.take 8 (.take 9 (.take 10 (.take 11 (.take 12 (.take 13 (.take 14 .done)))))))))) (.take 5 (.take 6 (.take 7 (.take 8 (.take 10 (.must 9 (.must 11 (.take 12 (.take 13 (.take 14 .done)))))))))))))))) (by kernel_rfl) (fun w2 hXd => ?_)
  have hB := hB.trans hXd
  have hb1 := hb1.up hXd
  have hBr := hB
  have hS : Upd none w2 w2 := Ext.toUpd (Ext.refl _)
  refine HP.take rfl rfl rfl rfl hS (fun wS hS1 => (by first | exact PV.fieldAddr T.fl27_0 rfl (by first | assumption | exact Bx.cells (by assumption)) | exact PV.fieldAddrP T.fl27_0 rfl rfl)) ?_
  refine HP.take rfl rfl rfl rfl hS (fun wS hS1 => (by first | exact PV.load0 T.na2 rfl (by first | exact Cells.up (by assumption) (hBr.trans hS1) | exact Bx.cells (Bx.updD (by assumption) hS1 (Dj.nlR _)) | exact Cells.upd (by assumption) hS1 (by simp)) (Ext.refl _) rfl | exact PV.load1 T.na2 rfl (by first | exact Cells.up (by assumption) (hBr.trans hS1) | exact Bx.cells (Bx.updD (by assumption) hS1 (Dj.nlR _)) | exact Cells.upd (by assumption) hS1 (by simp)) (Ext.refl _) rfl)) ?_
  refine HP.must rfl rfl (OpK.callR rfl T.cf62 rfl (c_impl_within) (fun w3 hXw3 => ?_))
  refine ⟨Upd.trans hS hXw3, ?_⟩
  have hS := Upd.trans hS hXw3
  have hB := hB.trans hXw3
  have hb1 := hb1.up hXw3
  refine HP.take rfl rfl rfl rfl hS (fun wS hS1 => PV.not rfl) ?_
  refine HP.take rfl rfl rfl rfl hS (fun wS hS1 => PV.move rfl) ?_
  refine HP.split (t := 10) rfl (fun hc1 => ?_) (fun hc1 => ?_)
  · skip
    try simp only [decide_eq_true_eq, decide_eq_false_iff_not, Bool.not_eq_true', Bool.not_eq_false', Bool.not_eq_eq_eq_not, Bool.not_true, Bool.not_false, Int.not_lt, Int.not_le, Classical.not_not, beq_iff_eq, beq_eq_false_iff_ne] at hc1
    refine HP.skip rfl rfl rfl rfl rfl rfl hS ?_
    refine HP.skip rfl rfl rfl rfl rfl rfl hS ?_
    refine HP.skip rfl rfl rfl rfl rfl rfl hS ?_
    refine HP.skip rfl rfl rfl rfl rfl rfl hS ?_
    refine HP.skip rfl rfl rfl rfl rfl rfl hS ?_
    refine HP.skip rfl rfl rfl rfl rfl rfl hS ?_
    refine HP.skip rfl rfl rfl rfl rfl rfl hS ?_
    refine HP.skip rfl rfl rfl rfl rfl rfl hS ?_
    refine HP.skip rfl rfl rfl rfl rfl rfl hS ?_
    refine HP.take rfl rfl rfl rfl hS (fun wS hS1 => PV.pickT rfl rfl) ?_
    refine HP.doneS ?_
    refine CW.condT rfl ?_
    refine CW.seq ?_
    refine CW.reg ?_
    refine WL.pure rfl rfl rfl (PV.assign rfl) ?_
    refine WL.nilS ?_
    refine CW.ret ?_
    refine RQ.then ?_
    refine RQ.r1 rfl ?_
    refine ⟨?_, hB⟩
    exact bF (by intro hv; have h1 := hv.1; have h2 := hv.2.1; omega)
  try simp only [decide_eq_true_eq, decide_eq_false_iff_not, Bool.not_eq_true', Bool.not_eq_false', Bool.not_eq_eq_eq_not, Bool.not_true, Bool.not_false, Int.not_lt, Int.not_le, Classical.not_not, beq_iff_eq, beq_eq_false_iff_ne] at hc1
  refine HP.takeG rfl rfl rfl rfl rfl rfl hS (fun wS hS1 => (by first | exact PV.fieldAddr T.fl27_1 rfl (by first | assumption | exact Bx.cells (by assumption)) | exact PV.fieldAddrP T.fl27_1 rfl rfl)) ?_
  refine HP.takeG rfl rfl rfl rfl rfl rfl hS (fun wS hS1 => (by first | exact PV.load0 T.na22 rfl (by first | exact Cells.up (by assumption) (hBr.trans hS1) | exact Bx.cells (Bx.updD (by assumption) hS1 (Dj.nlR _)) | exact Cells.upd (by assumption) hS1 (by simp)) (Ext.refl _) rfl | exact PV.load1 T.na22 rfl (by first | exact Cells.up (by assumption) (hBr.trans hS1) | exact Bx.cells (Bx.updD (by assumption) hS1 (Dj.nlR _)) | exact Cells.upd (by assumption) hS1 (by simp)) (Ext.refl _) rfl)) ?_
  refine HP.takeG rfl rfl rfl rfl rfl rfl hS (fun wS hS1 => (by first | exact PV.len rfl (by assumption) T.sl22 | exact PV.lenOs rfl (by assumption) T.sl22)) ?_
  refine HP.takeG rfl rfl rfl rfl rfl rfl hS (fun wS hS1 => (by first | exact PV.loadA T.ag27 rfl (by first | exact Cells.up (by assumption) (hBr.trans hS1) | exact Bx.cells (Bx.updD (by assumption) hS1 (Dj.nlR _)) | exact Cells.upd (by assumption) hS1 (by simp)) (Ext.refl _) rfl | exact PV.loadP (ds := [_, _]) T.ag27 rfl (by first | exact Cells.up (by assumption) (hBr.trans hS1) | exact Bx.cells (Bx.updD (by assumption) hS1 (Dj.nlR _)) | exact Cells.upd (by assumption) hS1 (by simp)) (Ext.refl _) rfl rfl)) ?_
  refine HP.takeG rfl rfl rfl rfl rfl rfl hS (fun wS hS1 => (by first | exact PV.loadA T.ag27 rfl (by first | exact Cells.up (by assumption) (hBr.trans hS1) | exact Bx.cells (Bx.updD (by assumption) hS1 (Dj.nlR _)) | exact Cells.upd (by assumption) hS1 (by simp)) (Ext.refl _) rfl | exact PV.loadP (ds := [_, _]) T.ag27 rfl (by first | exact Cells.up (by assumption) (hBr.trans hS1) | exact Bx.cells (Bx.updD (by assumption) hS1 (Dj.nlR _)) | exact Cells.upd (by assumption) hS1 (by simp)) (Ext.refl _) rfl rfl)) ?_
  refine HP.mustG rfl rfl rfl rfl (OpK.callR rfl T.cf63 rfl (c_impl_Zone_wide (by first | assumption | omega | (simp only [marks_len, marksB_len]; omega))) (fun w4 hXw4 => ?_))
  refine ⟨Upd.trans hS hXw4, ?_⟩
  have hS := Upd.trans hS hXw4
  have hB := hB.trans hXw4
  have hb1 := hb1.up hXw4
  refine HP.mustG rfl rfl rfl rfl (OpK.callR rfl T.cf63 rfl (c_impl_Zone_wide (by first | assumption | omega | (simp only [marks_len, marksB_len]; omega))) (fun w5 hXw5 => ?_))
  refine ⟨Upd.trans hS hXw5, ?_⟩
  have hS := Upd.trans hS hXw5
  have hB := hB.trans hXw5
  have hb1 := hb1.up hXw5
  refine HP.takeG rfl rfl rfl rfl rfl rfl hS (fun wS hS1 => PV.mul rfl rfl (by constructor <;> (have hsq := sq_le (c := a0) (by omega); omega))) ?_
  refine HP.takeG rfl rfl rfl rfl rfl rfl hS (fun wS hS1 => PV.neq rfl rfl) ?_
  refine HP.take rfl rfl rfl rfl hS (fun wS hS1 => PV.pickF rfl rfl) ?_
  refine HP.doneS ?_
  refine CW.cond rfl (fun hc2 => ?_) (fun hc2 => ?_)
  · skip
    try simp only [decide_eq_true_eq, decide_eq_false_iff_not, Bool.not_eq_true', Bool.not_eq_false', Bool.not_eq_eq_eq_not, Bool.not_true, Bool.not_false, Int.not_lt, Int.not_le, Classical.not_not, beq_iff_eq, beq_eq_false_iff_ne] at hc2
    refine CW.seq ?_
    refine CW.reg ?_
    refine WL.pure rfl rfl rfl (PV.assign rfl) ?_
    refine WL.nilS ?_
    refine CW.ret ?_
    refine RQ.then ?_
    refine RQ.r1 rfl ?_
    refine ⟨?_, hB⟩
    exact bF (by intro hv; have h1 := hv.1; have h2 := hv.2.1; omega)
  try simp only [decide_eq_true_eq, decide_eq_false_iff_not, Bool.not_eq_true', Bool.not_eq_false', Bool.not_eq_eq_eq_not, Bool.not_true, Bool.not_false, Int.not_lt, Int.not_le, Classical.not_not, beq_iff_eq, beq_eq_false_iff_ne] at hc2
  refine CW.skipS ?_
  refine CW.seq ?_
  refine CW.seq ?_
  refine CW.reg ?_
  refine WL.pure rfl rfl rfl ((by first | exact PV.loadA T.ag27 rfl (by first | exact Cells.up (by assumption) hB | exact Bx.cells (by assumption) | assumption) (Ext.refl _) rfl | exact PV.loadP (ds := [_, _]) T.ag27 rfl (by first | exact Cells.up (by assumption) hB | exact Bx.cells (by assumption) | assumption) (Ext.refl _) rfl rfl)) ?_
  refine WL.op rfl (OpK.callR rfl T.cf63 rfl (c_impl_Zone_wide (by first | assumption | omega | (simp only [marks_len, marksB_len]; omega))) (fun w6 hXw6 => ?_))
  have hB := hB.trans hXw6
  have hb1 := hb1.up hXw6
  refine WL.pure rfl rfl rfl (PV.move rfl) ?_
  refine WL.nilS ?_
  refine CW.block ?_
  refine CW.loop (σk := [(1, _), (22, _)]) (fun ρ wz m => ∃ (i : Nat), ρ = [(23, .int .i64 (i : Nat))] ∧ m = (a0 + 1).toNat - i ∧ UpdL [] w6 wz ∧ ((i : Int) ≤ a0 + 1) ∧ (∀ p q : Int, 0 ≤ p → p < i → 0 ≤ q → q < a0 + 1 → okc a0 xa1 p q)) (ρ₀ := [(23, _)]) (m₀ := _) ⟨rfl, rfl, rfl, trivial⟩ ⟨0, rfl, rfl, (UpdL.refl _ _), (by first | omega | rfl | (simp; done) | assumption | (simp_all; done)), (by intro p q h1 h2; exact absurd h2 (by omega))⟩ ?_
  rintro _ wl1 _ ⟨i, rfl, rfl, hU0, hi, hz⟩
  have hb1 := hb1.loop hU0 trivial
  have hB := hB.loop hU0 trivial
  refine CW.seq ?_
  refine CW.reg ?_
  refine WL.pure rfl rfl rfl (PV.lss rfl rfl) ?_
  refine WL.nilS ?_
  refine CW.seq ?_
  refine CW.cond rfl (fun hc3 => ?_) (fun hc3 => ?_)
  · skip
    try simp only [decide_eq_true_eq, decide_eq_false_iff_not, Bool.not_eq_true', Bool.not_eq_false', Bool.not_eq_eq_eq_not, Bool.not_true, Bool.not_false, Int.not_lt, Int.not_le, Classical.not_not, beq_iff_eq, beq_eq_false_iff_ne] at hc3
    refine CW.skipS ?_
    refine CW.seq ?_
    refine CW.block ?_
    refine CW.seq ?_
    refine CW.reg ?_
    refine WL.pure rfl rfl rfl (PV.move rfl) ?_
    refine WL.pure rfl rfl rfl (PV.assign rfl) ?_
    refine WL.nilS ?_
    refine CW.seq ?_
    refine CW.reg ?_
    refine WL.pure rfl rfl rfl ((by first | exact PV.loadA T.ag27 rfl (by first | exact Cells.up (by assumption) hB | exact Bx.cells (by assumption) | assumption) (Ext.refl _) rfl | exact PV.loadP (ds := [_, _]) T.ag27 rfl (by first | exact Cells.up (by assumption) hB | exact Bx.cells (by assumption) | assumption) (Ext.refl _) rfl rfl)) ?_
    refine WL.op rfl (OpK.callR rfl T.cf63 rfl (c_impl_Zone_wide (by first | assumption | omega | (simp only [marks_len, marksB_len]; omega))) (fun w7 hXw7 => ?_))
    have hB := hB.trans hXw7
    have hb1 := hb1.up hXw7
    have hU0 := hU0.ext hXw7
    refine WL.pure rfl rfl rfl (PV.move rfl) ?_
    refine WL.nilS ?_
    refine CW.block ?_
    refine CW.loop (σk := [(1, _), (3, _), (22, _), (23, _), (27, _)]) (fun ρ wz m => ∃ (k : Nat), ρ = [(28, .int .i64 (k : Nat))] ∧ m = (a0 + 1).toNat - k ∧ UpdL [] w7 wz ∧ ((k : Int) ≤ a0 + 1) ∧ (∀ q : Int, 0 ≤ q → q < k → okc a0 xa1 i q)) (ρ₀ := [(28, _)]) (m₀ := _) ⟨rfl, rfl, rfl, rfl, rfl, rfl, trivial⟩ ⟨0, rfl, rfl, (UpdL.refl _ _), (by first | omega | rfl | (simp; done) | assumption | (simp_all; done)), (by intro q h1 h2; exact absurd h2 (by omega))⟩ ?_
    rintro _ wl2 _ ⟨k, rfl, rfl, hU1, hk, hq⟩
    have hU0 := hU0.trans hU1 trivial
    have hb1 := hb1.loop hU1 trivial
    have hB := hB.loop hU1 trivial
    refine CW.seq ?_
    refine CW.reg ?_
    refine WL.pure rfl rfl rfl (PV.lss rfl rfl) ?_
    refine WL.nilS ?_
    refine CW.seq ?_
    refine CW.cond rfl (fun hc4 => ?_) (fun hc4 => ?_)
    · skip
      try simp only [decide_eq_true_eq, decide_eq_false_iff_not, Bool.not_eq_true', Bool.not_eq_false', Bool.not_eq_eq_eq_not, Bool.not_true, Bool.not_false, Int.not_lt, Int.not_le, Classical.not_not, beq_iff_eq, beq_eq_false_iff_ne] at hc4
      refine CW.skipS ?_
      refine CW.seq ?_
      refine CW.block ?_
      refine CW.seq ?_
      refine CW.reg ?_
      refine WL.pure rfl rfl rfl (PV.move rfl) ?_
      refine WL.pure rfl rfl rfl (PV.assign rfl) ?_
      refine WL.nilS ?_
      refine CW.seq ?_
      refine CW.draw T.mixed (by kernel_rfl) (fun _ _ _ _ _ h => h) (fun w8 w9 => Upd none w8 w9) 9 (.take 0 (.take 1 (.take 2 (.take 3 (.take 4 (.must 5 (.take 6 (.take 7 (.take 8 .done))))))))) (by kernel_rfl) (fun w8 hXd => ?_)
      have hB := hB.trans hXd
      have hb1 := hb1.up hXd
      have hU0 := hU0.ext hXd
      have hU1 := hU1.ext hXd
      have hBr := hB
      have hS : Upd none w8 w8 := Ext.toUpd (Ext.refl _)
      refine HP.take rfl rfl rfl rfl hS (fun wS hS1 => (by first | exact PV.fieldAddr T.fl27_1 rfl (by first | assumption | exact Bx.cells (by assumption)) | exact PV.fieldAddrP T.fl27_1 rfl rfl)) ?_
      refine HP.take rfl rfl rfl rfl hS (fun wS hS1 => (by first | exact PV.load0 T.na22 rfl (by first | exact Cells.up (by assumption) (hBr.trans hS1) | exact Bx.cells (Bx.updD (by assumption) hS1 (Dj.nlR _)) | exact Cells.upd (by assumption) hS1 (by simp)) (Ext.refl _) rfl | exact PV.load1 T.na22 rfl (by first | exact Cells.up (by assumption) (hBr.trans hS1) | exact Bx.cells (Bx.updD (by assumption) hS1 (Dj.nlR _)) | exact Cells.upd (by assumption) hS1 (by simp)) (Ext.refl _) rfl)) ?_
      refine HP.take rfl rfl rfl rfl hS (fun wS hS1 => (by first | exact PV.loadA T.ag27 rfl (by first | exact Cells.up (by assumption) (hBr.trans hS1) | exact Bx.cells (Bx.updD (by assumption) hS1 (Dj.nlR _)) | exact Cells.upd (by assumption) hS1 (by simp)) (Ext.refl _) rfl | exact PV.loadP (ds := [_, _]) T.ag27 rfl (by first | exact Cells.up (by assumption) (hBr.trans hS1) | exact Bx.cells (Bx.updD (by assumption) hS1 (Dj.nlR _)) | exact Cells.upd (by assumption) hS1 (by simp)) (Ext.refl _) rfl rfl)) ?_
      refine HP.take rfl rfl rfl rfl hS (fun wS hS1 => PV.move rfl) ?_
      refine HP.take rfl rfl rfl rfl hS (fun wS hS1 => PV.move rfl) ?_
      refine HP.must rfl rfl (OpK.callR rfl T.cf65 rfl (c_impl_Zone_at (by first | assumption | omega | (simp only [marks_len, marksB_len]; omega)) (by first | assumption | omega | (simp only [marks_len, marksB_len]; omega)) (by first | assumption | omega | (simp only [marks_len, marksB_len]; omega)) (by first | assumption | exact Rd.up (by assumption) hB | exact Osl.rd (by assumption) | exact Osn.rdR (by assumption))) (fun w9 hXw9 => ?_))
      refine ⟨Upd.trans hS hXw9, ?_⟩
      have hS := Upd.trans hS hXw9
      have hB := hB.trans hXw9
      have hb1 := hb1.up hXw9
      have hU0 := hU0.ext hXw9
      have hU1 := hU1.ext hXw9
      first
        | refine HP.at (x := .tmp 32) (y := .tmp 36) (E := EI) (0) rfl rfl (by assumption) (by have hix := idx_lt (c := a0) (i := i) (k := k) (n := xa1.length) (by omega) (by omega) (by omega) (by assumption); omega) (fun p1 csp1 hpp1 hcp1 hq => ?_)
        | refine HP.atZ (x := .tmp 32) (y := .tmp 36) (E := EI) (0) rfl rfl (by assumption) (by have hix := idx_lt (c := a0) (i := i) (k := k) (n := xa1.length) (by omega) (by omega) (by omega) (by assumption); omega) (fun p1 csp1 hpp1 hzp1 hcp1 hq => ?_)
      cases hq
      refine HP.take rfl rfl rfl rfl hS (fun wS hS1 => (by first | exact PV.indexAddr hpp1 rfl rfl T.sl22 | exact PV.indexAddr hpp1 rfl (by rw [← hzp1]; rfl) T.sl22)) ?_
      refine HP.take rfl rfl rfl rfl hS (fun wS hS1 => (by first | exact PV.load0 T.na2 rfl (by first | exact Cells.up (by assumption) (hBr.trans hS1) | exact Bx.cells (Bx.updD (by assumption) hS1 (Dj.nlR _)) | exact Cells.upd (by assumption) hS1 (by simp)) (Ext.refl _) rfl | exact PV.load1 T.na2 rfl (by first | exact Cells.up (by assumption) (hBr.trans hS1) | exact Bx.cells (Bx.updD (by assumption) hS1 (Dj.nlR _)) | exact Cells.upd (by assumption) hS1 (by simp)) (Ext.refl _) rfl)) ?_
      refine HP.take rfl rfl rfl rfl hS (fun wS hS1 => PV.assign rfl) ?_
      refine HP.doneS ?_
      refine CW.seq ?_
      refine CW.reg ?_
      refine WL.pure rfl rfl rfl (PV.move rfl) ?_
      refine WL.op rfl (OpK.callR rfl T.cf62 rfl (c_impl_within) (fun w10 hXw10 => ?_))
      have hB := hB.trans hXw10
      have hb1 := hb1.up hXw10
      have hU0 := hU0.ext hXw10
      have hU1 := hU1.ext hXw10
      refine WL.pure rfl rfl rfl (PV.not rfl) ?_
      refine WL.pure rfl rfl rfl (PV.move rfl) ?_
      refine WL.split (t := 42) rfl (fun hc5 => ?_) (fun hc5 => ?_)
      rotate_left
      · skip
        try simp only [decide_eq_true_eq, decide_eq_false_iff_not, Bool.not_eq_true', Bool.not_eq_false', Bool.not_eq_eq_eq_not, Bool.not_true, Bool.not_false, Int.not_lt, Int.not_le, Classical.not_not, beq_iff_eq, beq_eq_false_iff_ne] at hc5
        refine WL.skip rfl rfl rfl rfl rfl ?_
        refine WL.skip rfl rfl rfl rfl rfl ?_
        refine WL.pure rfl rfl rfl (PV.pickF rfl rfl) ?_
        refine WL.pure rfl rfl rfl (PV.move rfl) ?_
        refine WL.pureG rfl rfl rfl rfl rfl (PV.move rfl) ?_
        refine WL.pureG rfl rfl rfl rfl rfl (PV.move rfl) ?_
        refine WL.pureG rfl rfl rfl rfl rfl (PV.eql rfl rfl) ?_
        refine WL.pureG rfl rfl rfl rfl rfl (PV.move rfl) ?_
        refine WL.split (t := 50) rfl (fun hc6 => ?_) (fun hc6 => ?_)
        rotate_left
        · skip
          try simp only [decide_eq_true_eq, decide_eq_false_iff_not, Bool.not_eq_true', Bool.not_eq_false', Bool.not_eq_eq_eq_not, Bool.not_true, Bool.not_false, Int.not_lt, Int.not_le, Classical.not_not, beq_iff_eq, beq_eq_false_iff_ne] at hc6
          refine WL.skip rfl rfl rfl rfl rfl ?_
          refine WL.skip rfl rfl rfl rfl rfl ?_
          refine WL.pureG rfl rfl rfl rfl rfl (PV.pickF rfl rfl) ?_
          refine WL.pure rfl rfl rfl (PV.pickF rfl rfl) ?_
          refine WL.pure rfl rfl rfl (PV.move rfl) ?_
          refine WL.pureG rfl rfl rfl rfl rfl (PV.move rfl) ?_
          refine WL.pureG rfl rfl rfl rfl rfl (PV.eql rfl rfl) ?_
          refine WL.pureG rfl rfl rfl rfl rfl (PV.move rfl) ?_
          refine WL.split (t := 58) rfl (fun hc7 => ?_) (fun hc7 => ?_)
          rotate_left
          · skip
            try simp only [decide_eq_true_eq, decide_eq_false_iff_not, Bool.not_eq_true', Bool.not_eq_false', Bool.not_eq_eq_eq_not, Bool.not_true, Bool.not_false, Int.not_lt, Int.not_le, Classical.not_not, beq_iff_eq, beq_eq_false_iff_ne] at hc7
            refine WL.skip rfl rfl rfl rfl rfl ?_
            refine WL.skip rfl rfl rfl rfl rfl ?_
            refine WL.pureG rfl rfl rfl rfl rfl (PV.pickF rfl rfl) ?_
            refine WL.pure rfl rfl rfl (PV.pickF rfl rfl) ?_
            refine WL.nilS ?_
            refine CW.condF rfl ?_
            refine CW.skip ?_
            refine NQ.block ?_
            refine NQ.then ?_
            refine CW.reg ?_
            refine WL.pure rfl rfl rfl (PV.add rfl rfl (by constructor <;> omega)) ?_
            refine WL.pure rfl rfl rfl (PV.move rfl) ?_
            refine WL.nil ?_
            refine NQ.next (ρ := [(28, _)]) ⟨rfl, rfl, rfl, rfl, rfl, rfl, trivial⟩ ?_
            exact ⟨_, ⟨k + 1, rfl, rfl, hU1, (by first | omega | assumption | (simp_all; done) | (simp_all; omega)), (by intro q h1 h2; by_cases h : q < (k : Int); exact hq q h1 h; obtain rfl : q = (k : Int) := (by omega); simp only [okc]; omega)⟩, by omega⟩
          try simp only [decide_eq_true_eq, decide_eq_false_iff_not, Bool.not_eq_true', Bool.not_eq_false', Bool.not_eq_eq_eq_not, Bool.not_true, Bool.not_false, Int.not_lt, Int.not_le, Classical.not_not, beq_iff_eq, beq_eq_false_iff_ne] at hc7
          refine WL.pureG rfl rfl rfl rfl rfl (PV.move rfl) ?_
          refine WL.pureG rfl rfl rfl rfl rfl (PV.gtr rfl rfl) ?_
          refine WL.pureG rfl rfl rfl rfl rfl (PV.pickT rfl rfl) ?_
          refine WL.pure rfl rfl rfl (PV.pickF rfl rfl) ?_
          refine WL.nilS ?_
          refine CW.cond rfl (fun hc8 => ?_) (fun hc8 => ?_)
          · skip
            try simp only [decide_eq_true_eq, decide_eq_false_iff_not, Bool.not_eq_true', Bool.not_eq_false', Bool.not_eq_eq_eq_not, Bool.not_true, Bool.not_false, Int.not_lt, Int.not_le, Classical.not_not, beq_iff_eq, beq_eq_false_iff_ne] at hc8
            refine CW.seq ?_
            refine CW.reg ?_
            refine WL.pure rfl rfl rfl (PV.assign rfl) ?_
            refine WL.nilS ?_
            refine CW.ret ?_
            refine RQ.block ?_
            refine RQ.then ?_
            refine RQ.then ?_
            refine RQ.block ?_
            refine RQ.block ?_
            refine RQ.then ?_
            refine RQ.then ?_
            refine RQ.block ?_
            refine RQ.then ?_
            refine RQ.r1 rfl ?_
            refine ⟨?_, hB⟩
            exact bF (by intro hv; have hv3 := hv.2.2 i k (by omega) (by omega) (by omega) (by omega); simp only [okc] at hv3; omega)
          try simp only [decide_eq_true_eq, decide_eq_false_iff_not, Bool.not_eq_true', Bool.not_eq_false', Bool.not_eq_eq_eq_not, Bool.not_true, Bool.not_false, Int.not_lt, Int.not_le, Classical.not_not, beq_iff_eq, beq_eq_false_iff_ne] at hc8
          refine CW.skip ?_
          refine NQ.block ?_
          refine NQ.then ?_
          refine CW.reg ?_
          refine WL.pure rfl rfl rfl (PV.add rfl rfl (by constructor <;> omega)) ?_
          refine WL.pure rfl rfl rfl (PV.move rfl) ?_
          refine WL.nil ?_
          refine NQ.next (ρ := [(28, _)]) ⟨rfl, rfl, rfl, rfl, rfl, rfl, trivial⟩ ?_
          exact ⟨_, ⟨k + 1, rfl, rfl, hU1, (by first | omega | assumption | (simp_all; done) | (simp_all; omega)), (by intro q h1 h2; by_cases h : q < (k : Int); exact hq q h1 h; obtain rfl : q = (k : Int) := (by omega); simp only [okc]; omega)⟩, by omega⟩
        try simp only [decide_eq_true_eq, decide_eq_false_iff_not, Bool.not_eq_true', Bool.not_eq_false', Bool.not_eq_eq_eq_not, Bool.not_true, Bool.not_false, Int.not_lt, Int.not_le, Classical.not_not, beq_iff_eq, beq_eq_false_iff_ne] at hc6
        refine WL.pureG rfl rfl rfl rfl rfl (PV.move rfl) ?_
        refine WL.pureG rfl rfl rfl rfl rfl (PV.neq rfl rfl) ?_
        refine WL.pureG rfl rfl rfl rfl rfl (PV.pickT rfl rfl) ?_
        refine WL.pure rfl rfl rfl (PV.pickF rfl rfl) ?_
        refine WL.pure rfl rfl rfl (PV.move rfl) ?_
        refine WL.split (t := 55) rfl (fun hc9 => ?_) (fun hc9 => ?_)
        · skip
          try simp only [decide_eq_true_eq, decide_eq_false_iff_not, Bool.not_eq_true', Bool.not_eq_false', Bool.not_eq_eq_eq_not, Bool.not_true, Bool.not_false, Int.not_lt, Int.not_le, Classical.not_not, beq_iff_eq, beq_eq_false_iff_ne] at hc9
          refine WL.skip rfl rfl rfl rfl rfl ?_
          refine WL.skip rfl rfl rfl rfl rfl ?_
          refine WL.skip rfl rfl rfl rfl rfl ?_
          refine WL.skipU rfl rfl rfl rfl rfl ?_
          refine WL.skipU rfl rfl rfl rfl rfl ?_
          refine WL.skip rfl rfl rfl rfl rfl ?_
          refine WL.pure rfl rfl rfl (PV.pickT rfl rfl) ?_
          refine WL.nilS ?_
          refine CW.condT rfl ?_
          refine CW.seq ?_
          refine CW.reg ?_
          refine WL.pure rfl rfl rfl (PV.assign rfl) ?_
          refine WL.nilS ?_
          refine CW.ret ?_
          refine RQ.block ?_
          refine RQ.then ?_
          refine RQ.then ?_
          refine RQ.block ?_
          refine RQ.block ?_
          refine RQ.then ?_
          refine RQ.then ?_
          refine RQ.block ?_
          refine RQ.then ?_
          refine RQ.r1 rfl ?_
          refine ⟨?_, hB⟩
          exact bF (by intro hv; have hv3 := hv.2.2 i k (by omega) (by omega) (by omega) (by omega); simp only [okc] at hv3; omega)
        try simp only [decide_eq_true_eq, decide_eq_false_iff_not, Bool.not_eq_true', Bool.not_eq_false', Bool.not_eq_eq_eq_not, Bool.not_true, Bool.not_false, Int.not_lt, Int.not_le, Classical.not_not, beq_iff_eq, beq_eq_false_iff_ne] at hc9
        refine WL.pureG rfl rfl rfl rfl rfl (PV.move rfl) ?_
        refine WL.pureG rfl rfl rfl rfl rfl (PV.eql rfl rfl) ?_
        refine WL.pureG rfl rfl rfl rfl rfl (PV.move rfl) ?_
        refine WL.split (t := 58) rfl (fun hc10 => ?_) (fun hc10 => ?_)
        rotate_left
        · skip
          try simp only [decide_eq_true_eq, decide_eq_false_iff_not, Bool.not_eq_true', Bool.not_eq_false', Bool.not_eq_eq_eq_not, Bool.not_true, Bool.not_false, Int.not_lt, Int.not_le, Classical.not_not, beq_iff_eq, beq_eq_false_iff_ne] at hc10
          refine WL.skip rfl rfl rfl rfl rfl ?_
          refine WL.skip rfl rfl rfl rfl rfl ?_
          refine WL.pureG rfl rfl rfl rfl rfl (PV.pickF rfl rfl) ?_
          refine WL.pure rfl rfl rfl (PV.pickF rfl rfl) ?_
          refine WL.nilS ?_
          refine CW.condF rfl ?_
          refine CW.skip ?_
          refine NQ.block ?_
          refine NQ.then ?_
          refine CW.reg ?_
          refine WL.pure rfl rfl rfl (PV.add rfl rfl (by constructor <;> omega)) ?_
          refine WL.pure rfl rfl rfl (PV.move rfl) ?_
          refine WL.nil ?_
          refine NQ.next (ρ := [(28, _)]) ⟨rfl, rfl, rfl, rfl, rfl, rfl, trivial⟩ ?_
          exact ⟨_, ⟨k + 1, rfl, rfl, hU1, (by first | omega | assumption | (simp_all; done) | (simp_all; omega)), (by intro q h1 h2; by_cases h : q < (k : Int); exact hq q h1 h; obtain rfl : q = (k : Int) := (by omega); simp only [okc]; omega)⟩, by omega⟩
        try simp only [decide_eq_true_eq, decide_eq_false_iff_not, Bool.not_eq_true', Bool.not_eq_false', Bool.not_eq_eq_eq_not, Bool.not_true, Bool.not_false, Int.not_lt, Int.not_le, Classical.not_not, beq_iff_eq, beq_eq_false_iff_ne] at hc10
        refine WL.pureG rfl rfl rfl rfl rfl (PV.move rfl) ?_
        refine WL.pureG rfl rfl rfl rfl rfl (PV.gtr rfl rfl) ?_
        refine WL.pureG rfl rfl rfl rfl rfl (PV.pickT rfl rfl) ?_
        refine WL.pure rfl rfl rfl (PV.pickF rfl rfl) ?_
        refine WL.nilS ?_
        refine CW.cond rfl (fun hc11 => ?_) (fun hc11 => ?_)
        · skip
          try simp only [decide_eq_true_eq, decide_eq_false_iff_not, Bool.not_eq_true', Bool.not_eq_false', Bool.not_eq_eq_eq_not, Bool.not_true, Bool.not_false, Int.not_lt, Int.not_le, Classical.not_not, beq_iff_eq, beq_eq_false_iff_ne] at hc11
          refine CW.seq ?_
          refine CW.reg ?_
          refine WL.pure rfl rfl rfl (PV.assign rfl) ?_
          refine WL.nilS ?_
          refine CW.ret ?_
          refine RQ.block ?_
          refine RQ.then ?_
          refine RQ.then ?_
          refine RQ.block ?_
          refine RQ.block ?_
          refine RQ.then ?_
          refine RQ.then ?_
          refine RQ.block ?_
          refine RQ.then ?_
          refine RQ.r1 rfl ?_
          refine ⟨?_, hB⟩
          exact bF (by intro hv; have hv3 := hv.2.2 i k (by omega) (by omega) (by omega) (by omega); simp only [okc] at hv3; omega)
        try simp only [decide_eq_true_eq, decide_eq_false_iff_not, Bool.not_eq_true', Bool.not_eq_false', Bool.not_eq_eq_eq_not, Bool.not_true, Bool.not_false, Int.not_lt, Int.not_le, Classical.not_not, beq_iff_eq, beq_eq_false_iff_ne] at hc11
        refine CW.skip ?_
        refine NQ.block ?_
        refine NQ.then ?_
        refine CW.reg ?_
        refine WL.pure rfl rfl rfl (PV.add rfl rfl (by constructor <;> omega)) ?_
        refine WL.pure rfl rfl rfl (PV.move rfl) ?_
        refine WL.nil ?_
        refine NQ.next (ρ := [(28, _)]) ⟨rfl, rfl, rfl, rfl, rfl, rfl, trivial⟩ ?_
        exact ⟨_, ⟨k + 1, rfl, rfl, hU1, (by first | omega | assumption | (simp_all; done) | (simp_all; omega)), (by intro q h1 h2; by_cases h : q < (k : Int); exact hq q h1 h; obtain rfl : q = (k : Int) := (by omega); simp only [okc]; omega)⟩, by omega⟩
      try simp only [decide_eq_true_eq, decide_eq_false_iff_not, Bool.not_eq_true', Bool.not_eq_false', Bool.not_eq_eq_eq_not, Bool.not_true, Bool.not_false, Int.not_lt, Int.not_le, Classical.not_not, beq_iff_eq, beq_eq_false_iff_ne] at hc5
      refine WL.pureG rfl rfl rfl rfl rfl (PV.move rfl) ?_
      refine WL.pureG rfl rfl rfl rfl rfl (PV.neq rfl rfl) ?_
      refine WL.pure rfl rfl rfl (PV.pickT rfl rfl) ?_
      refine WL.pure rfl rfl rfl (PV.move rfl) ?_
      refine WL.split (t := 46) rfl (fun hc12 => ?_) (fun hc12 => ?_)
      · skip
        try simp only [decide_eq_true_eq, decide_eq_false_iff_not, Bool.not_eq_true', Bool.not_eq_false', Bool.not_eq_eq_eq_not, Bool.not_true, Bool.not_false, Int.not_lt, Int.not_le, Classical.not_not, beq_iff_eq, beq_eq_false_iff_ne] at hc12
        refine WL.skip rfl rfl rfl rfl rfl ?_
        refine WL.skip rfl rfl rfl rfl rfl ?_
        refine WL.skip rfl rfl rfl rfl rfl ?_
        refine WL.skip rfl rfl rfl rfl rfl ?_
        refine WL.skipU rfl rfl rfl rfl rfl ?_
        refine WL.skipU rfl rfl rfl rfl rfl ?_
        refine WL.skip rfl rfl rfl rfl rfl ?_
        refine WL.pure rfl rfl rfl (PV.pickT rfl rfl) ?_
        refine WL.pure rfl rfl rfl (PV.move rfl) ?_
        refine WL.skip rfl rfl rfl rfl rfl ?_
        refine WL.skip rfl rfl rfl rfl rfl ?_
        refine WL.skip rfl rfl rfl rfl rfl ?_
        refine WL.skipU rfl rfl rfl rfl rfl ?_
        refine WL.skipU rfl rfl rfl rfl rfl ?_
        refine WL.skip rfl rfl rfl rfl rfl ?_
        refine WL.pure rfl rfl rfl (PV.pickT rfl rfl) ?_
        refine WL.nilS ?_
        refine CW.condT rfl ?_
        refine CW.seq ?_
        refine CW.reg ?_
        refine WL.pure rfl rfl rfl (PV.assign rfl) ?_
        refine WL.nilS ?_
        refine CW.ret ?_
        refine RQ.block ?_
        refine RQ.then ?_
        refine RQ.then ?_
        refine RQ.block ?_
        refine RQ.block ?_
        refine RQ.then ?_
        refine RQ.then ?_
        refine RQ.block ?_
        refine RQ.then ?_
        refine RQ.r1 rfl ?_
        refine ⟨?_, hB⟩
        exact bF (by intro hv; have hv3 := hv.2.2 i k (by omega) (by omega) (by omega) (by omega); simp only [okc] at hv3; omega)
      try simp only [decide_eq_true_eq, decide_eq_false_iff_not, Bool.not_eq_true', Bool.not_eq_false', Bool.not_eq_eq_eq_not, Bool.not_true, Bool.not_false, Int.not_lt, Int.not_le, Classical.not_not, beq_iff_eq, beq_eq_false_iff_ne] at hc12
      refine WL.pureG rfl rfl rfl rfl rfl (PV.move rfl) ?_
      refine WL.pureG rfl rfl rfl rfl rfl (PV.move rfl) ?_
      refine WL.pureG rfl rfl rfl rfl rfl (PV.eql rfl rfl) ?_
      refine WL.pureG rfl rfl rfl rfl rfl (PV.move rfl) ?_
      refine WL.split (t := 50) rfl (fun hc13 => ?_) (fun hc13 => ?_)
      rotate_left
      · skip
        try simp only [decide_eq_true_eq, decide_eq_false_iff_not, Bool.not_eq_true', Bool.not_eq_false', Bool.not_eq_eq_eq_not, Bool.not_true, Bool.not_false, Int.not_lt, Int.not_le, Classical.not_not, beq_iff_eq, beq_eq_false_iff_ne] at hc13
        refine WL.skip rfl rfl rfl rfl rfl ?_
        refine WL.skip rfl rfl rfl rfl rfl ?_
        refine WL.pureG rfl rfl rfl rfl rfl (PV.pickF rfl rfl) ?_
        refine WL.pure rfl rfl rfl (PV.pickF rfl rfl) ?_
        refine WL.pure rfl rfl rfl (PV.move rfl) ?_
        refine WL.pureG rfl rfl rfl rfl rfl (PV.move rfl) ?_
        refine WL.pureG rfl rfl rfl rfl rfl (PV.eql rfl rfl) ?_
        refine WL.pureG rfl rfl rfl rfl rfl (PV.move rfl) ?_
        refine WL.split (t := 58) rfl (fun hc14 => ?_) (fun hc14 => ?_)
        rotate_left
        · skip
          try simp only [decide_eq_true_eq, decide_eq_false_iff_not, Bool.not_eq_true', Bool.not_eq_false', Bool.not_eq_eq_eq_not, Bool.not_true, Bool.not_false, Int.not_lt, Int.not_le, Classical.not_not, beq_iff_eq, beq_eq_false_iff_ne] at hc14
          refine WL.skip rfl rfl rfl rfl rfl ?_
          refine WL.skip rfl rfl rfl rfl rfl ?_
          refine WL.pureG rfl rfl rfl rfl rfl (PV.pickF rfl rfl) ?_
          refine WL.pure rfl rfl rfl (PV.pickF rfl rfl) ?_
          refine WL.nilS ?_
          refine CW.condF rfl ?_
          refine CW.skip ?_
          refine NQ.block ?_
          refine NQ.then ?_
          refine CW.reg ?_
          refine WL.pure rfl rfl rfl (PV.add rfl rfl (by constructor <;> omega)) ?_
          refine WL.pure rfl rfl rfl (PV.move rfl) ?_
          refine WL.nil ?_
          refine NQ.next (ρ := [(28, _)]) ⟨rfl, rfl, rfl, rfl, rfl, rfl, trivial⟩ ?_
          exact ⟨_, ⟨k + 1, rfl, rfl, hU1, (by first | omega | assumption | (simp_all; done) | (simp_all; omega)), (by intro q h1 h2; by_cases h : q < (k : Int); exact hq q h1 h; obtain rfl : q = (k : Int) := (by omega); simp only [okc]; omega)⟩, by omega⟩
        try simp only [decide_eq_true_eq, decide_eq_false_iff_not, Bool.not_eq_true', Bool.not_eq_false', Bool.not_eq_eq_eq_not, Bool.not_true, Bool.not_false, Int.not_lt, Int.not_le, Classical.not_not, beq_iff_eq, beq_eq_false_iff_ne] at hc14
        refine WL.pureG rfl rfl rfl rfl rfl (PV.move rfl) ?_
        refine WL.pureG rfl rfl rfl rfl rfl (PV.gtr rfl rfl) ?_
        refine WL.pureG rfl rfl rfl rfl rfl (PV.pickT rfl rfl) ?_
        refine WL.pure rfl rfl rfl (PV.pickF rfl rfl) ?_
        refine WL.nilS ?_
        refine CW.cond rfl (fun hc15 => ?_) (fun hc15 => ?_)
        · skip
          try simp only [decide_eq_true_eq, decide_eq_false_iff_not, Bool.not_eq_true', Bool.not_eq_false', Bool.not_eq_eq_eq_not, Bool.not_true, Bool.not_false, Int.not_lt, Int.not_le, Classical.not_not, beq_iff_eq, beq_eq_false_iff_ne] at hc15
          refine CW.seq ?_
          refine CW.reg ?_
          refine WL.pure rfl rfl rfl (PV.assign rfl) ?_
          refine WL.nilS ?_
          refine CW.ret ?_
          refine RQ.block ?_
          refine RQ.then ?_
          refine RQ.then ?_
          refine RQ.block ?_
          refine RQ.block ?_
          refine RQ.then ?_
          refine RQ.then ?_
          refine RQ.block ?_
          refine RQ.then ?_
          refine RQ.r1 rfl ?_
          refine ⟨?_, hB⟩
          exact bF (by intro hv; have hv3 := hv.2.2 i k (by omega) (by omega) (by omega) (by omega); simp only [okc] at hv3; omega)
        try simp only [decide_eq_true_eq, decide_eq_false_iff_not, Bool.not_eq_true', Bool.not_eq_false', Bool.not_eq_eq_eq_not, Bool.not_true, Bool.not_false, Int.not_lt, Int.not_le, Classical.not_not, beq_iff_eq, beq_eq_false_iff_ne] at hc15
        refine CW.skip ?_
        refine NQ.block ?_
        refine NQ.then ?_
        refine CW.reg ?_
        refine WL.pure rfl rfl rfl (PV.add rfl rfl (by constructor <;> omega)) ?_
        refine WL.pure rfl rfl rfl (PV.move rfl) ?_
        refine WL.nil ?_
        refine NQ.next (ρ := [(28, _)]) ⟨rfl, rfl, rfl, rfl, rfl, rfl, trivial⟩ ?_
        exact ⟨_, ⟨k + 1, rfl, rfl, hU1, (by first | omega | assumption | (simp_all; done) | (simp_all; omega)), (by intro q h1 h2; by_cases h : q < (k : Int); exact hq q h1 h; obtain rfl : q = (k : Int) := (by omega); simp only [okc]; omega)⟩, by omega⟩
      try simp only [decide_eq_true_eq, decide_eq_false_iff_not, Bool.not_eq_true', Bool.not_eq_false', Bool.not_eq_eq_eq_not, Bool.not_true, Bool.not_false, Int.not_lt, Int.not_le, Classical.not_not, beq_iff_eq, beq_eq_false_iff_ne] at hc13
      refine WL.pureG rfl rfl rfl rfl rfl (PV.move rfl) ?_
      refine WL.pureG rfl rfl rfl rfl rfl (PV.neq rfl rfl) ?_
      refine WL.pureG rfl rfl rfl rfl rfl (PV.pickT rfl rfl) ?_
      refine WL.pure rfl rfl rfl (PV.pickF rfl rfl) ?_
      refine WL.pure rfl rfl rfl (PV.move rfl) ?_
      refine WL.split (t := 55) rfl (fun hc16 => ?_) (fun hc16 => ?_)
      · skip
        try simp only [decide_eq_true_eq, decide_eq_false_iff_not, Bool.not_eq_true', Bool.not_eq_false', Bool.not_eq_eq_eq_not, Bool.not_true, Bool.not_false, Int.not_lt, Int.not_le, Classical.not_not, beq_iff_eq, beq_eq_false_iff_ne] at hc16
        refine WL.skip rfl rfl rfl rfl rfl ?_
        refine WL.skip rfl rfl rfl rfl rfl ?_
        refine WL.skip rfl rfl rfl rfl rfl ?_
        refine WL.skipU rfl rfl rfl rfl rfl ?_
        refine WL.skipU rfl rfl rfl rfl rfl ?_
        refine WL.skip rfl rfl rfl rfl rfl ?_
        refine WL.pure rfl rfl rfl (PV.pickT rfl rfl) ?_
        refine WL.nilS ?_
        refine CW.condT rfl ?_
        refine CW.seq ?_
        refine CW.reg ?_
        refine WL.pure rfl rfl rfl (PV.assign rfl) ?_
        refine WL.nilS ?_
        refine CW.ret ?_
        refine RQ.block ?_
        refine RQ.then ?_
        refine RQ.then ?_
        refine RQ.block ?_
        refine RQ.block ?_
        refine RQ.then ?_
        refine RQ.then ?_
        refine RQ.block ?_
        refine RQ.then ?_
        refine RQ.r1 rfl ?_
        refine ⟨?_, hB⟩
        exact bF (by intro hv; have hv3 := hv.2.2 i k (by omega) (by omega) (by omega) (by omega); simp only [okc] at hv3; omega)
      try simp only [decide_eq_true_eq, decide_eq_false_iff_not, Bool.not_eq_true', Bool.not_eq_false', Bool.not_eq_eq_eq_not, Bool.not_true, Bool.not_false, Int.not_lt, Int.not_le, Classical.not_not, beq_iff_eq, beq_eq_false_iff_ne] at hc16
      refine WL.pureG rfl rfl rfl rfl rfl (PV.move rfl) ?_
      refine WL.pureG rfl rfl rfl rfl rfl (PV.eql rfl rfl) ?_
      refine WL.pureG rfl rfl rfl rfl rfl (PV.move rfl) ?_
      refine WL.split (t := 58) rfl (fun hc17 => ?_) (fun hc17 => ?_)
      rotate_left
      · skip
        try simp only [decide_eq_true_eq, decide_eq_false_iff_not, Bool.not_eq_true', Bool.not_eq_false', Bool.not_eq_eq_eq_not, Bool.not_true, Bool.not_false, Int.not_lt, Int.not_le, Classical.not_not, beq_iff_eq, beq_eq_false_iff_ne] at hc17
        refine WL.skip rfl rfl rfl rfl rfl ?_
        refine WL.skip rfl rfl rfl rfl rfl ?_
        refine WL.pureG rfl rfl rfl rfl rfl (PV.pickF rfl rfl) ?_
        refine WL.pure rfl rfl rfl (PV.pickF rfl rfl) ?_
        refine WL.nilS ?_
        refine CW.condF rfl ?_
        refine CW.skip ?_
        refine NQ.block ?_
        refine NQ.then ?_
        refine CW.reg ?_
        refine WL.pure rfl rfl rfl (PV.add rfl rfl (by constructor <;> omega)) ?_
        refine WL.pure rfl rfl rfl (PV.move rfl) ?_
        refine WL.nil ?_
        refine NQ.next (ρ := [(28, _)]) ⟨rfl, rfl, rfl, rfl, rfl, rfl, trivial⟩ ?_
        exact ⟨_, ⟨k + 1, rfl, rfl, hU1, (by first | omega | assumption | (simp_all; done) | (simp_all; omega)), (by intro q h1 h2; by_cases h : q < (k : Int); exact hq q h1 h; obtain rfl : q = (k : Int) := (by omega); simp only [okc]; omega)⟩, by omega⟩
      try simp only [decide_eq_true_eq, decide_eq_false_iff_not, Bool.not_eq_true', Bool.not_eq_false', Bool.not_eq_eq_eq_not, Bool.not_true, Bool.not_false, Int.not_lt, Int.not_le, Classical.not_not, beq_iff_eq, beq_eq_false_iff_ne] at hc17
      refine WL.pureG rfl rfl rfl rfl rfl (PV.move rfl) ?_
      refine WL.pureG rfl rfl rfl rfl rfl (PV.gtr rfl rfl) ?_
      refine WL.pureG rfl rfl rfl rfl rfl (PV.pickT rfl rfl) ?_
      refine WL.pure rfl rfl rfl (PV.pickF rfl rfl) ?_
      refine WL.nilS ?_
      refine CW.cond rfl (fun hc18 => ?_) (fun hc18 => ?_)
      · skip
        try simp only [decide_eq_true_eq, decide_eq_false_iff_not, Bool.not_eq_true', Bool.not_eq_false', Bool.not_eq_eq_eq_not, Bool.not_true, Bool.not_false, Int.not_lt, Int.not_le, Classical.not_not, beq_iff_eq, beq_eq_false_iff_ne] at hc18
        refine CW.seq ?_
        refine CW.reg ?_
        refine WL.pure rfl rfl rfl (PV.assign rfl) ?_
        refine WL.nilS ?_
        refine CW.ret ?_
        refine RQ.block ?_
        refine RQ.then ?_
        refine RQ.then ?_
        refine RQ.block ?_
        refine RQ.block ?_
        refine RQ.then ?_
        refine RQ.then ?_
        refine RQ.block ?_
        refine RQ.then ?_
        refine RQ.r1 rfl ?_
        refine ⟨?_, hB⟩
        exact bF (by intro hv; have hv3 := hv.2.2 i k (by omega) (by omega) (by omega) (by omega); simp only [okc] at hv3; omega)
      try simp only [decide_eq_true_eq, decide_eq_false_iff_not, Bool.not_eq_true', Bool.not_eq_false', Bool.not_eq_eq_eq_not, Bool.not_true, Bool.not_false, Int.not_lt, Int.not_le, Classical.not_not, beq_iff_eq, beq_eq_false_iff_ne] at hc18
      refine CW.skip ?_
      refine NQ.block ?_
      refine NQ.then ?_
      refine CW.reg ?_
      refine WL.pure rfl rfl rfl (PV.add rfl rfl (by constructor <;> omega)) ?_
      refine WL.pure rfl rfl rfl (PV.move rfl) ?_
      refine WL.nil ?_
      refine NQ.next (ρ := [(28, _)]) ⟨rfl, rfl, rfl, rfl, rfl, rfl, trivial⟩ ?_
      exact ⟨_, ⟨k + 1, rfl, rfl, hU1, (by first | omega | assumption | (simp_all; done) | (simp_all; omega)), (by intro q h1 h2; by_cases h : q < (k : Int); exact hq q h1 h; obtain rfl : q = (k : Int) := (by omega); simp only [okc]; omega)⟩, by omega⟩
    try simp only [decide_eq_true_eq, decide_eq_false_iff_not, Bool.not_eq_true', Bool.not_eq_false', Bool.not_eq_eq_eq_not, Bool.not_true, Bool.not_false, Int.not_lt, Int.not_le, Classical.not_not, beq_iff_eq, beq_eq_false_iff_ne] at hc4
    refine CW.exit ?_
    refine XQ.then ?_
    refine XQ.then ?_
    refine XQ.here ?_
    refine NQ.block ?_
    refine NQ.then ?_
    refine CW.reg ?_
    refine WL.pure rfl rfl rfl (PV.add rfl rfl (by constructor <;> omega)) ?_
    refine WL.pure rfl rfl rfl (PV.move rfl) ?_
    refine WL.nil ?_
    refine NQ.next (ρ := [(23, _)]) ⟨rfl, rfl, rfl, trivial⟩ ?_
    exact ⟨_, ⟨i + 1, rfl, rfl, hU0, (by first | omega | assumption | (simp_all; done) | (simp_all; omega)), (by intro p q h1 h2 h3 h4; by_cases h : p < (i : Int); exact hz p q h1 h h3 h4; obtain rfl : p = (i : Int) := (by omega); exact hq q h3 (by omega))⟩, by omega⟩
  try simp only [decide_eq_true_eq, decide_eq_false_iff_not, Bool.not_eq_true', Bool.not_eq_false', Bool.not_eq_eq_eq_not, Bool.not_true, Bool.not_false, Int.not_lt, Int.not_le, Classical.not_not, beq_iff_eq, beq_eq_false_iff_ne] at hc3
  refine CW.exit ?_
  refine XQ.then ?_
  refine XQ.then ?_
  refine XQ.here ?_
  refine NQ.then ?_
  refine CW.seq ?_
  refine CW.reg ?_
  refine WL.pure rfl rfl rfl (PV.assign rfl) ?_
  refine WL.nilS ?_
  refine CW.ret ?_
  refine RQ.r1 rfl ?_
  refine ⟨?_, hB⟩
  exact bT ⟨by omega, by omega, fun p q h1 h2 h3 h4 => hz p q h1 (by omega) h3 h4⟩
theorem c_slices_Clone_int64_int64 {w : World} {va : Value} {xs : List Int} (ha : Rd EI w va xs) (hN : xs.length ≤ 1048576) : Calls Try.prog 82 #[va] w (Ret1 (fun v w' => Ext w w' ∧ ∃ v1 og_v1, v = v1 ∧ Osl VI w' og_v1 v1 (xs) ∧ Lo w og_v1)) := by
  have hB : Ext w w := Ext.refl w
  have hla := ha.leI
  refine callsOf (vs := [_]) Try.func82 rfl Try.ntmps82 rfl rfl ?_
  refine CW.seq ?_
  refine CW.reg ?_
  refine WL.pure rfl rfl rfl (PV.assign rfl) ?_
  refine WL.nilS ?_
  refine CW.seq ?_
  refine CW.seq ?_
  refine CW.reg ?_
  refine WL.pure rfl rfl rfl (PV.move rfl) ?_
  refine WL.pure rfl rfl rfl ((by first | exact PV.eqlNil T.sl22 rfl (by assumption) rfl | exact PV.eqlNil T.sl22 rfl (Osl.rd (by assumption)) rfl)) ?_
  refine WL.nilS ?_
  refine CW.cond rfl (fun hc1 => ?_) (fun hc1 => ?_)
  · skip
    try simp only [decide_eq_true_eq, decide_eq_false_iff_not, Bool.not_eq_true', Bool.not_eq_false', Bool.not_eq_eq_eq_not, Bool.not_true, Bool.not_false, Int.not_lt, Int.not_le, Classical.not_not, beq_iff_eq, beq_eq_false_iff_ne] at hc1
    refine CW.seq ?_
    refine CW.reg ?_
    refine WL.pure rfl rfl rfl (PV.assign rfl) ?_
    refine WL.nilS ?_
    refine CW.ret ?_
    refine RQ.then ?_
    refine RQ.r1 rfl ?_
    refine ⟨hB, (.slice none 0 0), none, ?_, osE (Osl.nil _ _) ?_, Lo.nl _⟩
    · skip
      rfl
    · skip
      first | rfl | (simp; done) | exact ((Rd.nil_of ha (by assumption)).1).symm
  try simp only [decide_eq_true_eq, decide_eq_false_iff_not, Bool.not_eq_true', Bool.not_eq_false', Bool.not_eq_eq_eq_not, Bool.not_true, Bool.not_false, Int.not_lt, Int.not_le, Classical.not_not, beq_iff_eq, beq_eq_false_iff_ne] at hc1
  refine CW.skipS ?_
  refine CW.seq ?_
  refine CW.reg ?_
  refine WL.op rfl (OpK.buildS VI (os := []) [] rfl T.sl22 rfl rfl T.zv2 rfl (by intro z _; rfl) rfl (fun v1 g1 w1 hXw1 ho1 hge1 => ?_))
  have hl1 := Lo.new hB hge1
  have hB := hB.trans hXw1
  refine WL.pure rfl rfl rfl (PV.move rfl) ?_
  refine WL.op rfl (OpK.appendS (f := VI) rfl T.sl22 T.zv2 rfl rfl ho1 rfl (Rd.src (by first | assumption | exact Rd.up (by assumption) hB) (fun _ => rfl)) (by first | (simp only [List.length_cons, List.length_nil]; omega) | (simp_all; omega)) (fun v2 og2 w2 hXw2 ho2 hap2 => ?_))
  have hl2 := Lo.app hl1 hB hap2
  have hB := hB.updL hXw2 hl1
  refine WL.pure rfl rfl rfl (PV.assign rfl) ?_
  refine WL.nilS ?_
  refine CW.ret ?_
  refine RQ.r1 rfl ?_
  refine ⟨hB, v2, og2, ?_, osE ho2 ?_, hl2⟩
  · skip
    rfl
  · skip
    first | rfl | (simp; done) | exact ((Rd.nil_of ha (by assumption)).1).symm
theorem c_impl_TightZone {w : World} {a0 : Int} {va1 : Value} {xa1 : List Int}  (ha1 : Rd EI w va1 xa1) : Calls Try.prog 55 #[.agg #[.int .i64 a0, va1]] w (Ret1 (fun v w' => Ext w w' ∧ ∃ u1 og_u1, v = .tuple #[.agg #[.int .i64 (onI (tightB a0 xa1) a0), u1], .bool (tightB a0 xa1)] ∧ Osl VI w' og_u1 u1 (onT (tightB a0 xa1) (tightL a0 xa1)) ∧ Lo w og_u1)) := by
  have hB : Ext w w := Ext.refl w
  have hla1 := ha1.leI
  refine callsOf (vs := [_]) Try.func55 rfl Try.ntmps55 rfl rfl ?_
  refine CW.seq ?_
  refine CW.reg ?_
  refine WL.op rfl (OpK.box rfl rfl (by first | rfl | exact Rd.cells1 (by assumption) | exact Osl.cells1 (by assumption) | exact Osn.cells1 (by assumption)) (fun b1 w1 hXw1 hb1 hge1 => ?_))
  have hl1 := Lo.new hB hge1
  have hB := hB.trans hXw1
  refine WL.op rfl (OpK.alloc rfl T.zv27 rfl (fun b2 w2 hXw2 hb2 hge2 => ?_))
  have hl2 := Lo.new hB hge2
  have hd1_2 := Dj.new hb1.ltO hge2
  have hB := hB.trans hXw2
  have hb1 := hb1.up hXw2
  refine WL.pure rfl rfl rfl (PV.assign rfl) ?_
  refine WL.nilS ?_
  refine CW.seq ?_
  refine CW.seq ?_
  refine CW.reg ?_
  refine WL.pure rfl rfl rfl ((by first | exact PV.loadA T.ag27 rfl (by first | exact Cells.up (by assumption) hB | exact Bx.cells (by assumption) | assumption) (Ext.refl _) rfl | exact PV.loadP (ds := [_, _]) T.ag27 rfl (by first | exact Cells.up (by assumption) hB | exact Bx.cells (by assumption) | assumption) (Ext.refl _) rfl rfl)) ?_
  refine WL.op rfl (OpK.callR rfl T.cf30 rfl (c_impl_ValidZone (by first | assumption | exact Rd.up (by assumption) hB | exact Osl.rd (by assumption) | exact Osn.rdR (by assumption))) (fun w3 hXw3 => ?_))
  have hB := hB.trans hXw3
  have hb1 := hb1.up hXw3
  have hb2 := hb2.up hXw3
  refine WL.pure rfl rfl rfl (PV.not rfl) ?_
  refine WL.nilS ?_
  refine CW.cond rfl (fun hc1 => ?_) (fun hc1 => ?_)
  · skip
    try simp only [decide_eq_true_eq, decide_eq_false_iff_not, Bool.not_eq_true', Bool.not_eq_false', Bool.not_eq_eq_eq_not, Bool.not_true, Bool.not_false, Int.not_lt, Int.not_le, Classical.not_not, beq_iff_eq, beq_eq_false_iff_ne] at hc1
    refine CW.seq ?_
    refine CW.reg ?_
    refine WL.pure rfl rfl rfl (PV.build (ks := []) (os := []) (css := []) (ds := [_, _]) T.bu27 rfl rfl trivial rfl) ?_
    refine WL.op rfl (OpK.storeA T.sz27 rfl rfl rfl rfl (by simp [Value.oneCell'] <;> first | done | (repeat' apply And.intro) <;> first | rfl | exact Osl.oneCell (by assumption) | exact Osn.oneCell (by assumption) | exact Rd.oneCell (by assumption) | assumption) hb2 (fun w4 hXw4 hb2 => ?_))
    have hB := hB.updL hXw4 hl2
    have hb1 := hb1.updD hXw4 hd1_2
    refine WL.pure rfl rfl rfl (PV.assign rfl) ?_
    refine WL.nilS ?_
    refine CW.ret ?_
    refine RQ.then ?_
    refine RQ.rc1 T.ag27 rfl (by first | exact Cells.up (by assumption) hB | exact Bx.cells (by assumption) | assumption) rfl rfl ?_
    refine ⟨hB, (.slice none 0 0), none, ?_, osE (Osl.nil _ _) ?_, Lo.nl _⟩
    · skip
      first | (exact tE2 (by rw [onI_no (by first | exact tightB_n1 (by assumption) | exact tightB_n2 (by unfold tightL; assumption))]) (bE (Bool.eq_false_iff.2 (by first | exact tightB_n1 (by assumption) | exact tightB_n2 (by unfold tightL; assumption))).symm)) | (exact tE2 (by rw [onI_no (by first | exact tightB_n1 (by assumption) | exact tightB_n2 (by unfold tightL; assumption))]; rfl) (bE (Bool.eq_false_iff.2 (by first | exact tightB_n1 (by assumption) | exact tightB_n2 (by unfold tightL; assumption))).symm)) | (exact tE2 (by rw [onI_yes (tightB_yes (by assumption) (by unfold tightL; assumption))]) (bE (tightB_yes (by assumption) (by unfold tightL; assumption)).symm)) | (exact tE2 (by rw [onI_yes (tightB_yes (by assumption) (by unfold tightL; assumption))]; rfl) (bE (tightB_yes (by assumption) (by unfold tightL; assumption)).symm))
    · skip
      first | (rw [onT_no (by first | exact tightB_n1 (by assumption) | exact tightB_n2 (by unfold tightL; assumption))]; done) | (rw [onT_yes (tightB_yes (by assumption) (by unfold tightL; assumption))]; first | done | rfl)
  try simp only [decide_eq_true_eq, decide_eq_false_iff_not, Bool.not_eq_true', Bool.not_eq_false', Bool.not_eq_eq_eq_not, Bool.not_true, Bool.not_false, Int.not_lt, Int.not_le, Classical.not_not, beq_iff_eq, beq_eq_false_iff_ne] at hc1
  refine CW.skipS ?_
  refine CW.seq ?_
  refine CW.draw T.mixed (by kernel_rfl) (fun _ _ _ _ _ h => h) (fun w8 w9 => Upd none w8 w9) 8 (.take 0 (.take 1 (.take 2 (.take 3 (.fork 4 6 (.take 5 (.must 6 (.must 7 .done))) (.must 4 (.take 5 (.must 7 .done)))))))) (by kernel_rfl) (fun w5 hXd => ?_)
  have hB := hB.trans hXd
  have hb1 := hb1.up hXd
  have hb2 := hb2.up hXd
  have hBr := hB
  have hS : Upd none w5 w5 := Ext.toUpd (Ext.refl _)
  have hv := (by assumption : zoneV a0 xa1); have hc := hv.1; have hn := hv.2.1; have hsq := sq_le (c := a0) (by omega)
  refine HP.take rfl rfl rfl rfl hS (fun wS hS1 => (by first | exact PV.fieldAddr T.fl27_0 rfl (by first | assumption | exact Bx.cells (by assumption)) | exact PV.fieldAddrP T.fl27_0 rfl rfl)) ?_
  refine HP.take rfl rfl rfl rfl hS (fun wS hS1 => (by first | exact PV.load0 T.na2 rfl (by first | exact Cells.up (by assumption) (hBr.trans hS1) | exact Bx.cells (Bx.updD (by assumption) hS1 (Dj.nlR _)) | exact Cells.upd (by assumption) hS1 (by simp)) (Ext.refl _) rfl | exact PV.load1 T.na2 rfl (by first | exact Cells.up (by assumption) (hBr.trans hS1) | exact Bx.cells (Bx.updD (by assumption) hS1 (Dj.nlR _)) | exact Cells.upd (by assumption) hS1 (by simp)) (Ext.refl _) rfl)) ?_
  refine HP.take rfl rfl rfl rfl hS (fun wS hS1 => (by first | exact PV.fieldAddr T.fl27_1 rfl (by first | assumption | exact Bx.cells (by assumption)) | exact PV.fieldAddrP T.fl27_1 rfl rfl)) ?_
  refine HP.take rfl rfl rfl rfl hS (fun wS hS1 => (by first | exact PV.load0 T.na22 rfl (by first | exact Cells.up (by assumption) (hBr.trans hS1) | exact Bx.cells (Bx.updD (by assumption) hS1 (Dj.nlR _)) | exact Cells.upd (by assumption) hS1 (by simp)) (Ext.refl _) rfl | exact PV.load1 T.na22 rfl (by first | exact Cells.up (by assumption) (hBr.trans hS1) | exact Bx.cells (Bx.updD (by assumption) hS1 (Dj.nlR _)) | exact Cells.upd (by assumption) hS1 (by simp)) (Ext.refl _) rfl)) ?_
  refine HP.fork rfl rfl rfl rfl ?_ ?_
  · skip
    refine (OpK.call rfl T.cf82 rfl (c_slices_Clone_int64_int64 (by first | assumption | exact Rd.up (by assumption) hB | exact Osl.rd (by assumption) | exact Osn.rdR (by assumption)) (by first | assumption | omega | (simp only [marks_len, marksB_len]; omega))) (fun rv1 w6 hR => ?_))
    obtain ⟨hXw6, v3, og3, rfl, ho3, hq3⟩ := hR
    have hl3 := Lo.up hq3 hB
    have hv3 := Lo.up hq3 hS
    have hd1_3 := Dj.lo hb1.ltO hq3
    have hd2_3 := Dj.lo hb2.ltO hq3
    refine ⟨Upd.trans hS hXw6, ?_⟩
    have hS := Upd.trans hS hXw6
    have hB := hB.trans hXw6
    have hb1 := hb1.up hXw6
    have hb2 := hb2.up hXw6
    refine HP.take rfl rfl rfl rfl hS (fun wS hS1 => PV.build (ks := [0, 1]) (os := [.tmp 15, .tmp 18]) (css := [[_], [_]]) (ds := [_, _]) T.bu27 rfl rfl ⟨(by first | rfl | exact Rd.cells1 (by assumption) | exact Osl.cells1 (by assumption) | exact Osn.cells1 (by assumption)), (by first | rfl | exact Rd.cells1 (by assumption) | exact Osl.cells1 (by assumption) | exact Osn.cells1 (by assumption)), trivial⟩ rfl) ?_
    refine HP.must rfl rfl (OpK.alloc rfl T.zv27 rfl (fun b4 w7 hXw7 hb4 hge4 => ?_))
    have hl4 := Lo.new hB hge4
    have hv4 := Lo.new hS hge4
    have hd1_4 := Dj.new hb1.ltO hge4
    have hd2_4 := Dj.new hb2.ltO hge4
    have hd3_4 := Dj.new ho3.ltO hge4
    refine ⟨Upd.trans hS hXw7, ?_⟩
    have hS := Upd.trans hS hXw7
    have hB := hB.trans hXw7
    have hb1 := hb1.up hXw7
    have hb2 := hb2.up hXw7
    have ho3 := ho3.up hXw7
    refine HP.must rfl rfl (OpK.storeA T.sz27 rfl rfl rfl rfl (by simp [Value.oneCell'] <;> first | done | (repeat' apply And.intro) <;> first | rfl | exact Osl.oneCell (by assumption) | exact Osn.oneCell (by assumption) | exact Rd.oneCell (by assumption) | assumption) hb4 (fun w8 hXw8 hb4 => ?_))
    refine ⟨Ext.updL hS hXw8 hv4, ?_⟩
    have hS := Ext.updL hS hXw8 hv4
    have hB := hB.updL hXw8 hl4
    have hb1 := hb1.updD hXw8 hd1_4
    have hb2 := hb2.updD hXw8 hd2_4
    have ho3 := ho3.updD hXw8 hd3_4
    refine HP.doneS ?_
    refine CW.seq ?_
    refine CW.seq ?_
    refine CW.reg ?_
    refine WL.pure rfl rfl rfl ((by first | exact PV.loadA T.ag27 rfl (by first | exact Cells.up (by assumption) hB | exact Bx.cells (by assumption) | assumption) (Ext.refl _) rfl | exact PV.loadP (ds := [_, _]) T.ag27 rfl (by first | exact Cells.up (by assumption) hB | exact Bx.cells (by assumption) | assumption) (Ext.refl _) rfl rfl)) ?_
    refine WL.op rfl (OpK.callR rfl T.cf63 rfl (c_impl_Zone_wide (by first | assumption | omega | (simp only [marks_len, marksB_len]; omega))) (fun w9 hXw9 => ?_))
    have hB := hB.trans hXw9
    have hb1 := hb1.up hXw9
    have hb2 := hb2.up hXw9
    have ho3 := ho3.up hXw9
    have hb4 := hb4.up hXw9
    refine WL.pure rfl rfl rfl (PV.move rfl) ?_
    refine WL.nilS ?_
    refine CW.block ?_
    have hlt1 := hb1.ltO
    have hlt2 := hb2.ltO
    have hlt3 := ho3.ltO
    have hlt4 := hb4.ltO
    refine CW.loop (σk := [(1, _), (2, _), (4, _), (21, _)]) (fun ρ wz m => ∃ (v5 : Value) (og5 : Option Nat) (j : Nat), ρ = [(22, .int .i64 (j : Nat))] ∧ m = (a0 + 1).toNat - j ∧ UpdL [og3, (some b4.block)] w9 wz ∧ Osl VI wz og5 v5 (allT a0 j xa1) ∧ OgR w9 og3 og5 ∧ Bx wz b4 [.int .i64 a0, v5] ∧ ((j : Int) ≤ a0 + 1)) (ρ₀ := [(22, _)]) (m₀ := _) ⟨rfl, rfl, rfl, rfl, rfl, trivial⟩ ⟨rv1, og3, 0, rfl, rfl, (UpdL.refl _ _), osE ho3 (by first | rfl | (simp; rfl)), OgR.refl _ _, bxE hb4 (by first | rfl | (simp_all; done) | (simp_all; omega)), (by first | omega | rfl | (simp; done) | assumption | (simp_all; done))⟩ ?_
    rintro _ wl1 _ ⟨v5, og5, j, rfl, rfl, hU0, ho5, ha5, hb4, hj⟩
    have hb1 := hb1.loop hU0 ⟨hd1_3, hd1_4, trivial⟩
    have hb2 := hb2.loop hU0 ⟨hd2_3, hd2_4, trivial⟩
    have hl5 := Lo.ogr hl3 hB ha5
    have hg0_5 := ha5
    have hk0_5 : OkB [og3, (some b4.block)] w9 og5 := OkB.ogr (OkB.mem (by simp)) (Nat.le_refl _) ha5
    have hd1_5 := Dj.ogr hd1_3 hlt1 ha5
    have hd2_5 := Dj.ogr hd2_3 hlt2 ha5
    have hd4_5 := Dj.ogr (Dj.symm hd3_4) hlt4 ha5
    have hk0_4 : OkB [og3, (some b4.block)] w9 (some b4.block) := OkB.mem (by simp)
    have hB := hB.loop hU0 ⟨hl3, hl4, trivial⟩
    refine CW.seq ?_
    refine CW.reg ?_
    refine WL.pure rfl rfl rfl (PV.lss rfl rfl) ?_
    refine WL.nilS ?_
    refine CW.seq ?_
    refine CW.cond rfl (fun hc2 => ?_) (fun hc2 => ?_)
    · skip
      try simp only [decide_eq_true_eq, decide_eq_false_iff_not, Bool.not_eq_true', Bool.not_eq_false', Bool.not_eq_eq_eq_not, Bool.not_true, Bool.not_false, Int.not_lt, Int.not_le, Classical.not_not, beq_iff_eq, beq_eq_false_iff_ne] at hc2
      refine CW.skipS ?_
      refine CW.seq ?_
      refine CW.block ?_
      refine CW.seq ?_
      refine CW.reg ?_
      refine WL.pure rfl rfl rfl (PV.move rfl) ?_
      refine WL.pure rfl rfl rfl (PV.assign rfl) ?_
      refine WL.nilS ?_
      refine CW.seq ?_
      refine CW.reg ?_
      refine WL.pure rfl rfl rfl ((by first | exact PV.loadA T.ag27 rfl (by first | exact Cells.up (by assumption) hB | exact Bx.cells (by assumption) | assumption) (Ext.refl _) rfl | exact PV.loadP (ds := [_, _]) T.ag27 rfl (by first | exact Cells.up (by assumption) hB | exact Bx.cells (by assumption) | assumption) (Ext.refl _) rfl rfl)) ?_
      refine WL.op rfl (OpK.callR rfl T.cf63 rfl (c_impl_Zone_wide (by first | assumption | omega | (simp only [marks_len, marksB_len]; omega))) (fun w10 hXw10 => ?_))
      have hB := hB.trans hXw10
      have hb1 := hb1.up hXw10
      have hb2 := hb2.up hXw10
      have hb4 := hb4.up hXw10
      have ho5 := ho5.up hXw10
      have hU0 := hU0.ext hXw10
      refine WL.pure rfl rfl rfl (PV.move rfl) ?_
      refine WL.nilS ?_
      refine CW.block ?_
      have hlt1 := hb1.ltO
      have hlt2 := hb2.ltO
      have hlt4 := hb4.ltO
      have hlt5 := ho5.ltO
      refine CW.loop (σk := [(1, _), (2, _), (4, _), (5, _), (21, _), (22, _), (26, _)]) (fun ρ wz m => ∃ (v7 : Value) (og7 : Option Nat) (i : Nat), ρ = [(27, .int .i64 (i : Nat))] ∧ m = (a0 + 1).toNat - i ∧ UpdL [og5, (some b4.block)] w10 wz ∧ Osl VI wz og7 v7 (passT a0 j i (allT a0 j xa1)) ∧ OgR w10 og5 og7 ∧ Bx wz b4 [.int .i64 a0, v7] ∧ ((i : Int) ≤ a0 + 1)) (ρ₀ := [(27, _)]) (m₀ := _) ⟨rfl, rfl, rfl, rfl, rfl, rfl, rfl, rfl, trivial⟩ ⟨v5, og5, 0, rfl, rfl, (UpdL.refl _ _), osE ho5 (by rfl), OgR.refl _ _, bxE hb4 (by first | rfl | (simp_all; done) | (simp_all; omega)), (by first | omega | rfl | (simp; done) | assumption | (simp_all; done))⟩ ?_
      rintro _ wl2 _ ⟨v7, og7, i, rfl, rfl, hU1, ho7, ha7, hb4, hi⟩
      have hU0 := hU0.trans hU1 ⟨hk0_5, hk0_4, trivial⟩
      have hb1 := hb1.loop hU1 ⟨hd1_5, hd1_4, trivial⟩
      have hb2 := hb2.loop hU1 ⟨hd2_5, hd2_4, trivial⟩
      have hl7 := Lo.ogr hl5 hB ha7
      have hg1_7 := ha7
      have hk1_7 : OkB [og5, (some b4.block)] w10 og7 := OkB.ogr (OkB.mem (by simp)) (Nat.le_refl _) ha7
      have hk0_7 := OkB.ogr hk0_5 (by first | assumption | exact UpdL.size (by assumption)) ha7
      have hg0_7 := OgR.trans hg0_5 (by first | assumption | exact UpdL.size (by assumption)) ha7
      have hd1_7 := Dj.ogr hd1_5 hlt1 ha7
      have hd2_7 := Dj.ogr hd2_5 hlt2 ha7
      have hd4_7 := Dj.ogr hd4_5 hlt4 ha7
      have hk1_4 : OkB [og5, (some b4.block)] w10 (some b4.block) := OkB.mem (by simp)
      have hB := hB.loop hU1 ⟨hl5, hl4, trivial⟩
      refine CW.seq ?_
      refine CW.reg ?_
      refine WL.pure rfl rfl rfl (PV.lss rfl rfl) ?_
      refine WL.nilS ?_
      refine CW.seq ?_
      refine CW.cond rfl (fun hc3 => ?_) (fun hc3 => ?_)
      · skip
        try simp only [decide_eq_true_eq, decide_eq_false_iff_not, Bool.not_eq_true', Bool.not_eq_false', Bool.not_eq_eq_eq_not, Bool.not_true, Bool.not_false, Int.not_lt, Int.not_le, Classical.not_not, beq_iff_eq, beq_eq_false_iff_ne] at hc3
        refine CW.skipS ?_
        refine CW.seq ?_
        refine CW.block ?_
        refine CW.seq ?_
        refine CW.reg ?_
        refine WL.pure rfl rfl rfl (PV.move rfl) ?_
        refine WL.pure rfl rfl rfl (PV.assign rfl) ?_
        refine WL.nilS ?_
        refine CW.seq ?_
        refine CW.reg ?_
        refine WL.pure rfl rfl rfl ((by first | exact PV.loadA T.ag27 rfl (by first | exact Cells.up (by assumption) hB | exact Bx.cells (by assumption) | assumption) (Ext.refl _) rfl | exact PV.loadP (ds := [_, _]) T.ag27 rfl (by first | exact Cells.up (by assumption) hB | exact Bx.cells (by assumption) | assumption) (Ext.refl _) rfl rfl)) ?_
        refine WL.op rfl (OpK.callR rfl T.cf63 rfl (c_impl_Zone_wide (by first | assumption | omega | (simp only [marks_len, marksB_len]; omega))) (fun w11 hXw11 => ?_))
        have hB := hB.trans hXw11
        have hb1 := hb1.up hXw11
        have hb2 := hb2.up hXw11
        have hb4 := hb4.up hXw11
        have ho7 := ho7.up hXw11
        have hU0 := hU0.ext hXw11
        have hU1 := hU1.ext hXw11
        refine WL.pure rfl rfl rfl (PV.move rfl) ?_
        refine WL.nilS ?_
        refine CW.block ?_
        have hlt1 := hb1.ltO
        have hlt2 := hb2.ltO
        have hlt4 := hb4.ltO
        have hlt7 := ho7.ltO
        refine CW.loop (σk := [(1, _), (2, _), (4, _), (5, _), (6, _), (21, _), (22, _), (26, _), (27, _), (31, _)]) (fun ρ wz m => ∃ (v9 : Value) (og9 : Option Nat) (k : Nat), ρ = [(32, .int .i64 (k : Nat))] ∧ m = (a0 + 1).toNat - k ∧ UpdL [og7, (some b4.block)] w11 wz ∧ Osl VI wz og9 v9 (rowT a0 j i k (passT a0 j i (allT a0 j xa1))) ∧ OgR w11 og7 og9 ∧ Bx wz b4 [.int .i64 a0, v9] ∧ ((k : Int) ≤ a0 + 1)) (ρ₀ := [(32, _)]) (m₀ := _) ⟨rfl, rfl, rfl, rfl, rfl, rfl, rfl, rfl, rfl, rfl, rfl, trivial⟩ ⟨v7, og7, 0, rfl, rfl, (UpdL.refl _ _), osE ho7 (by rfl), OgR.refl _ _, bxE hb4 (by first | rfl | (simp_all; done) | (simp_all; omega)), (by first | omega | rfl | (simp; done) | assumption | (simp_all; done))⟩ ?_
        rintro _ wl3 _ ⟨v9, og9, k, rfl, rfl, hU2, ho9, ha9, hb4, hk⟩
        have hU0 := hU0.trans hU2 ⟨hk0_7, hk0_4, trivial⟩
        have hU1 := hU1.trans hU2 ⟨hk1_7, hk1_4, trivial⟩
        have hb1 := hb1.loop hU2 ⟨hd1_7, hd1_4, trivial⟩
        have hb2 := hb2.loop hU2 ⟨hd2_7, hd2_4, trivial⟩
        have hl9 := Lo.ogr hl7 hB ha9
        have hg2_9 := ha9
        have hk2_9 : OkB [og7, (some b4.block)] w11 og9 := OkB.ogr (OkB.mem (by simp)) (Nat.le_refl _) ha9
        have hk0_9 := OkB.ogr hk0_7 (by first | assumption | exact UpdL.size (by assumption)) ha9
        have hg0_9 := OgR.trans hg0_7 (by first | assumption | exact UpdL.size (by assumption)) ha9
        have hk1_9 := OkB.ogr hk1_7 (by first | assumption | exact UpdL.size (by assumption)) ha9
        have hg1_9 := OgR.trans hg1_7 (by first | assumption | exact UpdL.size (by assumption)) ha9
        have hd1_9 := Dj.ogr hd1_7 hlt1 ha9
        have hd2_9 := Dj.ogr hd2_7 hlt2 ha9
        have hd4_9 := Dj.ogr hd4_7 hlt4 ha9
        have hk2_4 : OkB [og7, (some b4.block)] w11 (some b4.block) := OkB.mem (by simp)
        have hB := hB.loop hU2 ⟨hl7, hl4, trivial⟩
        have hl0 : (rowT a0 j i k (passT a0 j i (allT a0 j xa1))).length = xa1.length := by rw [rowT_len, passT_len, allT_len]
        refine CW.seq ?_
        refine CW.reg ?_
        refine WL.pure rfl rfl rfl (PV.lss rfl rfl) ?_
        refine WL.nilS ?_
        refine CW.seq ?_
        refine CW.cond rfl (fun hc4 => ?_) (fun hc4 => ?_)
        · skip
          try simp only [decide_eq_true_eq, decide_eq_false_iff_not, Bool.not_eq_true', Bool.not_eq_false', Bool.not_eq_eq_eq_not, Bool.not_true, Bool.not_false, Int.not_lt, Int.not_le, Classical.not_not, beq_iff_eq, beq_eq_false_iff_ne] at hc4
          refine CW.skipS ?_
          refine CW.seq ?_
          refine CW.block ?_
          refine CW.seq ?_
          refine CW.reg ?_
          refine WL.pure rfl rfl rfl (PV.move rfl) ?_
          refine WL.pure rfl rfl rfl (PV.assign rfl) ?_
          refine WL.nilS ?_
          refine CW.seq ?_
          refine CW.draw T.mixed (by kernel_rfl) (fun _ _ _ _ _ h => h) (fun w8 w9 => Upd none w8 w9) 18 (.take 0 (.take 1 (.take 2 (.take 3 (.take 4 (.take 8 (.take 9 (.take 10 (.take 11 (.take 12 (.must 5 (.take 6 (.take 7 (.must 13 (.take 14 (.take 15 (.take 16 (.take 17 .done)))))))))))))))))) (by kernel_rfl) (fun w12 hXd => ?_)
          have hB := hB.trans hXd
          have hb1 := hb1.up hXd
          have hb2 := hb2.up hXd
          have hb4 := hb4.up hXd
          have ho9 := ho9.up hXd
          have hU0 := hU0.ext hXd
          have hU1 := hU1.ext hXd
          have hU2 := hU2.ext hXd
          have hBr := hB
          have hS : Upd none w12 w12 := Ext.toUpd (Ext.refl _)
          refine HP.take rfl rfl rfl rfl hS (fun wS hS1 => (by first | exact PV.fieldAddr T.fl27_1 rfl (by first | assumption | exact Bx.cells (by assumption)) | exact PV.fieldAddrP T.fl27_1 rfl rfl)) ?_
          refine HP.take rfl rfl rfl rfl hS (fun wS hS1 => (by first | exact PV.load0 T.na22 rfl (by first | exact Cells.up (by assumption) (hBr.trans hS1) | exact Bx.cells (Bx.updD (by assumption) hS1 (Dj.nlR _)) | exact Cells.upd (by assumption) hS1 (by simp)) (Ext.refl _) rfl | exact PV.load1 T.na22 rfl (by first | exact Cells.up (by assumption) (hBr.trans hS1) | exact Bx.cells (Bx.updD (by assumption) hS1 (Dj.nlR _)) | exact Cells.upd (by assumption) hS1 (by simp)) (Ext.refl _) rfl)) ?_
          refine HP.take rfl rfl rfl rfl hS (fun wS hS1 => (by first | exact PV.loadA T.ag27 rfl (by first | exact Cells.up (by assumption) (hBr.trans hS1) | exact Bx.cells (Bx.updD (by assumption) hS1 (Dj.nlR _)) | exact Cells.upd (by assumption) hS1 (by simp)) (Ext.refl _) rfl | exact PV.loadP (ds := [_, _]) T.ag27 rfl (by first | exact Cells.up (by assumption) (hBr.trans hS1) | exact Bx.cells (Bx.updD (by assumption) hS1 (Dj.nlR _)) | exact Cells.upd (by assumption) hS1 (by simp)) (Ext.refl _) rfl rfl)) ?_
          refine HP.take rfl rfl rfl rfl hS (fun wS hS1 => PV.move rfl) ?_
          refine HP.take rfl rfl rfl rfl hS (fun wS hS1 => PV.move rfl) ?_
          refine HP.take rfl rfl rfl rfl hS (fun wS hS1 => (by first | exact PV.fieldAddr T.fl27_1 rfl (by first | assumption | exact Bx.cells (by assumption)) | exact PV.fieldAddrP T.fl27_1 rfl rfl)) ?_
          refine HP.take rfl rfl rfl rfl hS (fun wS hS1 => (by first | exact PV.load0 T.na22 rfl (by first | exact Cells.up (by assumption) (hBr.trans hS1) | exact Bx.cells (Bx.updD (by assumption) hS1 (Dj.nlR _)) | exact Cells.upd (by assumption) hS1 (by simp)) (Ext.refl _) rfl | exact PV.load1 T.na22 rfl (by first | exact Cells.up (by assumption) (hBr.trans hS1) | exact Bx.cells (Bx.updD (by assumption) hS1 (Dj.nlR _)) | exact Cells.upd (by assumption) hS1 (by simp)) (Ext.refl _) rfl)) ?_
          refine HP.take rfl rfl rfl rfl hS (fun wS hS1 => (by first | exact PV.loadA T.ag27 rfl (by first | exact Cells.up (by assumption) (hBr.trans hS1) | exact Bx.cells (Bx.updD (by assumption) hS1 (Dj.nlR _)) | exact Cells.upd (by assumption) hS1 (by simp)) (Ext.refl _) rfl | exact PV.loadP (ds := [_, _]) T.ag27 rfl (by first | exact Cells.up (by assumption) (hBr.trans hS1) | exact Bx.cells (Bx.updD (by assumption) hS1 (Dj.nlR _)) | exact Cells.upd (by assumption) hS1 (by simp)) (Ext.refl _) rfl rfl)) ?_
          refine HP.take rfl rfl rfl rfl hS (fun wS hS1 => PV.move rfl) ?_
          refine HP.take rfl rfl rfl rfl hS (fun wS hS1 => PV.move rfl) ?_
          refine HP.must rfl rfl (OpK.callR rfl T.cf65 rfl (c_impl_Zone_at (by first | assumption | omega | (simp only [marks_len, marksB_len]; omega)) (by first | assumption | omega | (simp only [marks_len, marksB_len]; omega)) (by first | assumption | omega | (simp only [marks_len, marksB_len]; omega)) (by first | assumption | exact Rd.up (by assumption) hB | exact Osl.rd (by assumption) | exact Osn.rdR (by assumption))) (fun w13 hXw13 => ?_))
          refine ⟨Upd.trans hS hXw13, ?_⟩
          have hS := Upd.trans hS hXw13
          have hB := hB.trans hXw13
          have hb1 := hb1.up hXw13
          have hb2 := hb2.up hXw13
          have hb4 := hb4.up hXw13
          have ho9 := ho9.up hXw13
          have hU0 := hU0.ext hXw13
          have hU1 := hU1.ext hXw13
          have hU2 := hU2.ext hXw13
          first
            | refine HP.atO (wb := w12) (x := .tmp 36) (y := .tmp 40) (f := VI) (0) rfl rfl (by assumption) (by have hix := idx_lt (c := a0) (i := i) (k := j) (n := xa1.length) (by omega) (by omega) (by omega) (by omega); omega) (fun p1 hpp1 hcp1 => ?_)
            | refine HP.atOZ (wb := w12) (x := .tmp 36) (y := .tmp 40) (f := VI) (0) rfl rfl (by assumption) (by have hix := idx_lt (c := a0) (i := i) (k := j) (n := xa1.length) (by omega) (by omega) (by omega) (by omega); omega) (fun p1 hpp1 hzp1 hcp1 => ?_)
          refine HP.take rfl rfl rfl rfl hS (fun wS hS1 => (by first | exact PV.indexAddr hpp1 rfl rfl T.sl22 | exact PV.indexAddr hpp1 rfl (by rw [← hzp1]; rfl) T.sl22)) ?_
          refine HP.take rfl rfl rfl rfl hS (fun wS hS1 => (by first | exact PV.load0 T.na2 rfl (by first | exact Cells.up (by assumption) (hBr.trans hS1) | exact Bx.cells (Bx.updD (by assumption) hS1 (Dj.nlR _)) | exact Cells.upd (by assumption) hS1 (by simp)) (Ext.refl _) rfl | exact PV.load1 T.na2 rfl (by first | exact Cells.up (by assumption) (hBr.trans hS1) | exact Bx.cells (Bx.updD (by assumption) hS1 (Dj.nlR _)) | exact Cells.upd (by assumption) hS1 (by simp)) (Ext.refl _) rfl)) ?_
          refine HP.must rfl rfl (OpK.callR rfl T.cf65 rfl (c_impl_Zone_at (by first | assumption | omega | (simp only [marks_len, marksB_len]; omega)) (by first | assumption | omega | (simp only [marks_len, marksB_len]; omega)) (by first | assumption | omega | (simp only [marks_len, marksB_len]; omega)) (by first | assumption | exact Rd.up (by assumption) hB | exact Osl.rd (by assumption) | exact Osn.rdR (by assumption))) (fun w14 hXw14 => ?_))
          refine ⟨Upd.trans hS hXw14, ?_⟩
          have hS := Upd.trans hS hXw14
          have hB := hB.trans hXw14
          have hb1 := hb1.up hXw14
          have hb2 := hb2.up hXw14
          have hb4 := hb4.up hXw14
          have ho9 := ho9.up hXw14
          have hU0 := hU0.ext hXw14
          have hU1 := hU1.ext hXw14
          have hU2 := hU2.ext hXw14
          first
            | refine HP.atO (wb := w12) (x := .tmp 44) (y := .tmp 48) (f := VI) (0) rfl rfl (by assumption) (by have hix := idx_lt (c := a0) (i := j) (k := k) (n := xa1.length) (by omega) (by omega) (by omega) (by omega); omega) (fun p2 hpp2 hcp2 => ?_)
            | refine HP.atOZ (wb := w12) (x := .tmp 44) (y := .tmp 48) (f := VI) (0) rfl rfl (by assumption) (by have hix := idx_lt (c := a0) (i := j) (k := k) (n := xa1.length) (by omega) (by omega) (by omega) (by omega); omega) (fun p2 hpp2 hzp2 hcp2 => ?_)
          refine HP.take rfl rfl rfl rfl hS (fun wS hS1 => (by first | exact PV.indexAddr hpp2 rfl rfl T.sl22 | exact PV.indexAddr hpp2 rfl (by rw [← hzp2]; rfl) T.sl22)) ?_
          refine HP.take rfl rfl rfl rfl hS (fun wS hS1 => (by first | exact PV.load0 T.na2 rfl (by first | exact Cells.up (by assumption) (hBr.trans hS1) | exact Bx.cells (Bx.updD (by assumption) hS1 (Dj.nlR _)) | exact Cells.upd (by assumption) hS1 (by simp)) (Ext.refl _) rfl | exact PV.load1 T.na2 rfl (by first | exact Cells.up (by assumption) (hBr.trans hS1) | exact Bx.cells (Bx.updD (by assumption) hS1 (Dj.nlR _)) | exact Cells.upd (by assumption) hS1 (by simp)) (Ext.refl _) rfl)) ?_
          refine HP.take rfl rfl rfl rfl hS (fun wS hS1 => PV.assign rfl) ?_
          refine HP.take rfl rfl rfl rfl hS (fun wS hS1 => PV.assign rfl) ?_
          refine HP.doneS ?_
          refine CW.seq ?_
          refine CW.reg ?_
          refine WL.pure rfl rfl rfl (PV.move rfl) ?_
          refine WL.pure rfl rfl rfl (PV.neq rfl rfl) ?_
          refine WL.pure rfl rfl rfl (PV.move rfl) ?_
          refine WL.split (t := 53) rfl (fun hc5 => ?_) (fun hc5 => ?_)
          rotate_left
          · skip
            try simp only [decide_eq_true_eq, decide_eq_false_iff_not, Bool.not_eq_true', Bool.not_eq_false', Bool.not_eq_eq_eq_not, Bool.not_true, Bool.not_false, Int.not_lt, Int.not_le, Classical.not_not, beq_iff_eq, beq_eq_false_iff_ne] at hc5
            refine WL.skip rfl rfl rfl rfl rfl ?_
            refine WL.skip rfl rfl rfl rfl rfl ?_
            refine WL.pure rfl rfl rfl (PV.pickF rfl rfl) ?_
            refine WL.nilS ?_
            refine CW.condF rfl ?_
            refine CW.skip ?_
            refine NQ.block ?_
            refine NQ.then ?_
            refine CW.reg ?_
            refine WL.pure rfl rfl rfl (PV.add rfl rfl (by constructor <;> omega)) ?_
            refine WL.pure rfl rfl rfl (PV.move rfl) ?_
            refine WL.nil ?_
            refine NQ.next (ρ := [(32, _)]) ⟨rfl, rfl, rfl, rfl, rfl, rfl, rfl, rfl, rfl, rfl, rfl, trivial⟩ ?_
            exact ⟨_, ⟨v9, og9, k + 1, rfl, rfl, hU2, osE ho9 (by first | exact stepT_min (by simp only [zat]; omega) (by simp only [zat]; omega) rfl | exact stepT_n1 (by simp only [zat]; omega) | exact stepT_n2 (by simp only [zat]; omega)), (by first | exact hg2_9 | exact OgR.weak hg2_9), bxE hb4 (by first | rfl | (simp_all; done) | (simp_all; omega)), (by first | omega | assumption | (simp_all; done) | (simp_all; omega))⟩, by omega⟩
          try simp only [decide_eq_true_eq, decide_eq_false_iff_not, Bool.not_eq_true', Bool.not_eq_false', Bool.not_eq_eq_eq_not, Bool.not_true, Bool.not_false, Int.not_lt, Int.not_le, Classical.not_not, beq_iff_eq, beq_eq_false_iff_ne] at hc5
          refine WL.pureG rfl rfl rfl rfl rfl (PV.move rfl) ?_
          refine WL.pureG rfl rfl rfl rfl rfl (PV.neq rfl rfl) ?_
          refine WL.pure rfl rfl rfl (PV.pickT rfl rfl) ?_
          refine WL.nilS ?_
          refine CW.cond rfl (fun hc6 => ?_) (fun hc6 => ?_)
          · skip
            try simp only [decide_eq_true_eq, decide_eq_false_iff_not, Bool.not_eq_true', Bool.not_eq_false', Bool.not_eq_eq_eq_not, Bool.not_true, Bool.not_false, Int.not_lt, Int.not_le, Classical.not_not, beq_iff_eq, beq_eq_false_iff_ne] at hc6
            refine CW.draw T.mixed (by kernel_rfl) (fun _ _ _ _ _ h => h) (fun w8 w9 => Upd none w8 w9) 19 (.take 0 (.take 1 (.take 2 (.take 3 (.take 4 (.take 6 (.take 7 (.take 8 (.take 9 (.take 10 (.take 14 (.take 15 (.take 16 (.must 5 (.must 11 (.take 12 (.take 13 (.take 17 (.take 18 (.must 19 .done)))))))))))))))))))) (by kernel_rfl) (fun w15 hXd => ?_)
            have hB := hB.trans hXd
            have hb1 := hb1.up hXd
            have hb2 := hb2.up hXd
            have hb4 := hb4.up hXd
            have ho9 := ho9.up hXd
            have hU0 := hU0.ext hXd
            have hU1 := hU1.ext hXd
            have hU2 := hU2.ext hXd
            have hBr := hB
            have hS : Upd none w15 w15 := Ext.toUpd (Ext.refl _)
            refine HP.take rfl rfl rfl rfl hS (fun wS hS1 => (by first | exact PV.fieldAddr T.fl27_1 rfl (by first | assumption | exact Bx.cells (by assumption)) | exact PV.fieldAddrP T.fl27_1 rfl rfl)) ?_
            refine HP.take rfl rfl rfl rfl hS (fun wS hS1 => (by first | exact PV.load0 T.na22 rfl (by first | exact Cells.up (by assumption) (hBr.trans hS1) | exact Bx.cells (Bx.updD (by assumption) hS1 (Dj.nlR _)) | exact Cells.upd (by assumption) hS1 (by simp)) (Ext.refl _) rfl | exact PV.load1 T.na22 rfl (by first | exact Cells.up (by assumption) (hBr.trans hS1) | exact Bx.cells (Bx.updD (by assumption) hS1 (Dj.nlR _)) | exact Cells.upd (by assumption) hS1 (by simp)) (Ext.refl _) rfl)) ?_
            refine HP.take rfl rfl rfl rfl hS (fun wS hS1 => (by first | exact PV.loadA T.ag27 rfl (by first | exact Cells.up (by assumption) (hBr.trans hS1) | exact Bx.cells (Bx.updD (by assumption) hS1 (Dj.nlR _)) | exact Cells.upd (by assumption) hS1 (by simp)) (Ext.refl _) rfl | exact PV.loadP (ds := [_, _]) T.ag27 rfl (by first | exact Cells.up (by assumption) (hBr.trans hS1) | exact Bx.cells (Bx.updD (by assumption) hS1 (Dj.nlR _)) | exact Cells.upd (by assumption) hS1 (by simp)) (Ext.refl _) rfl rfl)) ?_
            refine HP.take rfl rfl rfl rfl hS (fun wS hS1 => PV.move rfl) ?_
            refine HP.take rfl rfl rfl rfl hS (fun wS hS1 => PV.move rfl) ?_
            refine HP.take rfl rfl rfl rfl hS (fun wS hS1 => (by first | exact PV.fieldAddr T.fl27_1 rfl (by first | assumption | exact Bx.cells (by assumption)) | exact PV.fieldAddrP T.fl27_1 rfl rfl)) ?_
            refine HP.take rfl rfl rfl rfl hS (fun wS hS1 => (by first | exact PV.load0 T.na22 rfl (by first | exact Cells.up (by assumption) (hBr.trans hS1) | exact Bx.cells (Bx.updD (by assumption) hS1 (Dj.nlR _)) | exact Cells.upd (by assumption) hS1 (by simp)) (Ext.refl _) rfl | exact PV.load1 T.na22 rfl (by first | exact Cells.up (by assumption) (hBr.trans hS1) | exact Bx.cells (Bx.updD (by assumption) hS1 (Dj.nlR _)) | exact Cells.upd (by assumption) hS1 (by simp)) (Ext.refl _) rfl)) ?_
            refine HP.take rfl rfl rfl rfl hS (fun wS hS1 => (by first | exact PV.loadA T.ag27 rfl (by first | exact Cells.up (by assumption) (hBr.trans hS1) | exact Bx.cells (Bx.updD (by assumption) hS1 (Dj.nlR _)) | exact Cells.upd (by assumption) hS1 (by simp)) (Ext.refl _) rfl | exact PV.loadP (ds := [_, _]) T.ag27 rfl (by first | exact Cells.up (by assumption) (hBr.trans hS1) | exact Bx.cells (Bx.updD (by assumption) hS1 (Dj.nlR _)) | exact Cells.upd (by assumption) hS1 (by simp)) (Ext.refl _) rfl rfl)) ?_
            refine HP.take rfl rfl rfl rfl hS (fun wS hS1 => PV.move rfl) ?_
            refine HP.take rfl rfl rfl rfl hS (fun wS hS1 => PV.move rfl) ?_
            refine HP.take rfl rfl rfl rfl hS (fun wS hS1 => PV.move rfl) ?_
            refine HP.take rfl rfl rfl rfl hS (fun wS hS1 => PV.move rfl) ?_
            refine HP.take rfl rfl rfl rfl hS (fun wS hS1 => PV.addW rfl rfl) ?_
            refine HP.must rfl rfl (OpK.callR rfl T.cf65 rfl (c_impl_Zone_at (by first | assumption | omega | (simp only [marks_len, marksB_len]; omega)) (by first | assumption | omega | (simp only [marks_len, marksB_len]; omega)) (by first | assumption | omega | (simp only [marks_len, marksB_len]; omega)) (by first | assumption | exact Rd.up (by assumption) hB | exact Osl.rd (by assumption) | exact Osn.rdR (by assumption))) (fun w16 hXw16 => ?_))
            refine ⟨Upd.trans hS hXw16, ?_⟩
            have hS := Upd.trans hS hXw16
            have hB := hB.trans hXw16
            have hb1 := hb1.up hXw16
            have hb2 := hb2.up hXw16
            have hb4 := hb4.up hXw16
            have ho9 := ho9.up hXw16
            have hU0 := hU0.ext hXw16
            have hU1 := hU1.ext hXw16
            have hU2 := hU2.ext hXw16
            refine HP.must rfl rfl (OpK.callR rfl T.cf65 rfl (c_impl_Zone_at (by first | assumption | omega | (simp only [marks_len, marksB_len]; omega)) (by first | assumption | omega | (simp only [marks_len, marksB_len]; omega)) (by first | assumption | omega | (simp only [marks_len, marksB_len]; omega)) (by first | assumption | exact Rd.up (by assumption) hB | exact Osl.rd (by assumption) | exact Osn.rdR (by assumption))) (fun w17 hXw17 => ?_))
            refine ⟨Upd.trans hS hXw17, ?_⟩
            have hS := Upd.trans hS hXw17
            have hB := hB.trans hXw17
            have hb1 := hb1.up hXw17
            have hb2 := hb2.up hXw17
            have hb4 := hb4.up hXw17
            have ho9 := ho9.up hXw17
            have hU0 := hU0.ext hXw17
            have hU1 := hU1.ext hXw17
            have hU2 := hU2.ext hXw17
            first
              | refine HP.atO (wb := w15) (x := .tmp 64) (y := .tmp 68) (f := VI) (0) rfl rfl (by assumption) (by have hix := idx_lt (c := a0) (i := i) (k := k) (n := xa1.length) (by omega) (by omega) (by omega) (by omega); omega) (fun p3 hpp3 hcp3 => ?_)
              | refine HP.atOZ (wb := w15) (x := .tmp 64) (y := .tmp 68) (f := VI) (0) rfl rfl (by assumption) (by have hix := idx_lt (c := a0) (i := i) (k := k) (n := xa1.length) (by omega) (by omega) (by omega) (by omega); omega) (fun p3 hpp3 hzp3 hcp3 => ?_)
            refine HP.take rfl rfl rfl rfl hS (fun wS hS1 => (by first | exact PV.indexAddr hpp3 rfl rfl T.sl22 | exact PV.indexAddr hpp3 rfl (by rw [← hzp3]; rfl) T.sl22)) ?_
            refine HP.take rfl rfl rfl rfl hS (fun wS hS1 => (by first | exact PV.load0 T.na2 rfl (by first | exact Cells.up (by assumption) (hBr.trans hS1) | exact Bx.cells (Bx.updD (by assumption) hS1 (Dj.nlR _)) | exact Cells.upd (by assumption) hS1 (by simp)) (Ext.refl _) rfl | exact PV.load1 T.na2 rfl (by first | exact Cells.up (by assumption) (hBr.trans hS1) | exact Bx.cells (Bx.updD (by assumption) hS1 (Dj.nlR _)) | exact Cells.upd (by assumption) hS1 (by simp)) (Ext.refl _) rfl)) ?_
            refine HP.take rfl rfl rfl rfl hS (fun wS hS1 => PV.min2 rfl rfl) ?_
            first
              | refine HP.atO (wb := w15) (x := .tmp 58) (y := .tmp 62) (f := VI) (0) rfl rfl (by assumption) (by have hix := idx_lt (c := a0) (i := i) (k := k) (n := xa1.length) (by omega) (by omega) (by omega) (by omega); omega) (fun p4 hpp4 hcp4 => ?_)
              | refine HP.atOZ (wb := w15) (x := .tmp 58) (y := .tmp 62) (f := VI) (0) rfl rfl (by assumption) (by have hix := idx_lt (c := a0) (i := i) (k := k) (n := xa1.length) (by omega) (by omega) (by omega) (by omega); omega) (fun p4 hpp4 hzp4 hcp4 => ?_)
            refine HP.take rfl rfl rfl rfl hS (fun wS hS1 => (by first | exact PV.indexAddr hpp4 rfl rfl T.sl22 | exact PV.indexAddr hpp4 rfl (by rw [← hzp4]; rfl) T.sl22)) ?_
            refine HP.last rfl rfl (OpK.storeS VI T.sz2 rfl rfl rfl hpp4 ho9 (fun w18 hXw18 ho9 => ?_))
            have hB := hB.updL hXw18 hl9
            have hb1 := hb1.updD hXw18 hd1_9
            have hb2 := hb2.updD hXw18 hd2_9
            have hb4 := hb4.updD hXw18 hd4_9
            have hU0 := hU0.step hXw18 hk0_9
            have hU1 := hU1.step hXw18 hk1_9
            have hU2 := hU2.step hXw18 hk2_9
            refine HP.done ?_
            refine NQ.block ?_
            refine NQ.then ?_
            refine CW.reg ?_
            refine WL.pure rfl rfl rfl (PV.add rfl rfl (by constructor <;> omega)) ?_
            refine WL.pure rfl rfl rfl (PV.move rfl) ?_
            refine WL.nil ?_
            refine NQ.next (ρ := [(32, _)]) ⟨rfl, rfl, rfl, rfl, rfl, rfl, rfl, rfl, rfl, rfl, rfl, trivial⟩ ?_
            exact ⟨_, ⟨v9, og9, k + 1, rfl, rfl, hU2, osE ho9 (by first | exact stepT_min (by simp only [zat]; omega) (by simp only [zat]; omega) rfl | exact stepT_n1 (by simp only [zat]; omega) | exact stepT_n2 (by simp only [zat]; omega)), (by first | exact hg2_9 | exact OgR.weak hg2_9), bxE hb4 (by first | rfl | (simp_all; done) | (simp_all; omega)), (by first | omega | assumption | (simp_all; done) | (simp_all; omega))⟩, by omega⟩
          try simp only [decide_eq_true_eq, decide_eq_false_iff_not, Bool.not_eq_true', Bool.not_eq_false', Bool.not_eq_eq_eq_not, Bool.not_true, Bool.not_false, Int.not_lt, Int.not_le, Classical.not_not, beq_iff_eq, beq_eq_false_iff_ne] at hc6
          refine CW.skip ?_
          refine NQ.block ?_
          refine NQ.then ?_
          refine CW.reg ?_
          refine WL.pure rfl rfl rfl (PV.add rfl rfl (by constructor <;> omega)) ?_
          refine WL.pure rfl rfl rfl (PV.move rfl) ?_
          refine WL.nil ?_
          refine NQ.next (ρ := [(32, _)]) ⟨rfl, rfl, rfl, rfl, rfl, rfl, rfl, rfl, rfl, rfl, rfl, trivial⟩ ?_
          exact ⟨_, ⟨v9, og9, k + 1, rfl, rfl, hU2, osE ho9 (by first | exact stepT_min (by simp only [zat]; omega) (by simp only [zat]; omega) rfl | exact stepT_n1 (by simp only [zat]; omega) | exact stepT_n2 (by simp only [zat]; omega)), (by first | exact hg2_9 | exact OgR.weak hg2_9), bxE hb4 (by first | rfl | (simp_all; done) | (simp_all; omega)), (by first | omega | assumption | (simp_all; done) | (simp_all; omega))⟩, by omega⟩
        try simp only [decide_eq_true_eq, decide_eq_false_iff_not, Bool.not_eq_true', Bool.not_eq_false', Bool.not_eq_eq_eq_not, Bool.not_true, Bool.not_false, Int.not_lt, Int.not_le, Classical.not_not, beq_iff_eq, beq_eq_false_iff_ne] at hc4
        refine CW.exit ?_
        refine XQ.then ?_
        refine XQ.then ?_
        refine XQ.here ?_
        refine NQ.block ?_
        refine NQ.then ?_
        refine CW.reg ?_
        refine WL.pure rfl rfl rfl (PV.add rfl rfl (by constructor <;> omega)) ?_
        refine WL.pure rfl rfl rfl (PV.move rfl) ?_
        refine WL.nil ?_
        refine NQ.next (ρ := [(27, _)]) ⟨rfl, rfl, rfl, rfl, rfl, rfl, rfl, rfl, trivial⟩ ?_
        exact ⟨_, ⟨v9, og9, i + 1, rfl, rfl, hU1, osE ho9 (by exact passT_succ (by omega)), (by first | exact hg1_9 | exact OgR.weak hg1_9), bxE hb4 (by first | rfl | (simp_all; done) | (simp_all; omega)), (by first | omega | assumption | (simp_all; done) | (simp_all; omega))⟩, by omega⟩
      try simp only [decide_eq_true_eq, decide_eq_false_iff_not, Bool.not_eq_true', Bool.not_eq_false', Bool.not_eq_eq_eq_not, Bool.not_true, Bool.not_false, Int.not_lt, Int.not_le, Classical.not_not, beq_iff_eq, beq_eq_false_iff_ne] at hc3
      refine CW.exit ?_
      refine XQ.then ?_
      refine XQ.then ?_
      refine XQ.here ?_
      refine NQ.block ?_
      refine NQ.then ?_
      refine CW.reg ?_
      refine WL.pure rfl rfl rfl (PV.add rfl rfl (by constructor <;> omega)) ?_
      refine WL.pure rfl rfl rfl (PV.move rfl) ?_
      refine WL.nil ?_
      refine NQ.next (ρ := [(22, _)]) ⟨rfl, rfl, rfl, rfl, rfl, trivial⟩ ?_
      exact ⟨_, ⟨v7, og7, j + 1, rfl, rfl, hU0, osE ho7 (by exact allT_succ (by omega)), (by first | exact hg0_7 | exact OgR.weak hg0_7), bxE hb4 (by first | rfl | (simp_all; done) | (simp_all; omega)), (by first | omega | assumption | (simp_all; done) | (simp_all; omega))⟩, by omega⟩
    try simp only [decide_eq_true_eq, decide_eq_false_iff_not, Bool.not_eq_true', Bool.not_eq_false', Bool.not_eq_eq_eq_not, Bool.not_true, Bool.not_false, Int.not_lt, Int.not_le, Classical.not_not, beq_iff_eq, beq_eq_false_iff_ne] at hc2
    refine CW.exit ?_
    refine XQ.then ?_
    refine XQ.then ?_
    refine XQ.here ?_
    refine NQ.then ?_
    refine CW.seq ?_
    refine CW.seq ?_
    refine CW.reg ?_
    obtain rfl : j = (a0 + 1).toNat := (by omega)
    refine WL.pure rfl rfl rfl ((by first | exact PV.loadA T.ag27 rfl (by first | exact Cells.up (by assumption) hB | exact Bx.cells (by assumption) | assumption) (Ext.refl _) rfl | exact PV.loadP (ds := [_, _]) T.ag27 rfl (by first | exact Cells.up (by assumption) hB | exact Bx.cells (by assumption) | assumption) (Ext.refl _) rfl rfl)) ?_
    refine WL.op rfl (OpK.callR rfl T.cf30 rfl (c_impl_ValidZone (by first | assumption | exact Rd.up (by assumption) hB | exact Osl.rd (by assumption) | exact Osn.rdR (by assumption))) (fun w19 hXw19 => ?_))
    have hB := hB.trans hXw19
    have hb1 := hb1.up hXw19
    have hb2 := hb2.up hXw19
    have hb4 := hb4.up hXw19
    have ho5 := ho5.up hXw19
    refine WL.pure rfl rfl rfl (PV.not rfl) ?_
    refine WL.nilS ?_
    refine CW.cond rfl (fun hc7 => ?_) (fun hc7 => ?_)
    · skip
      try simp only [decide_eq_true_eq, decide_eq_false_iff_not, Bool.not_eq_true', Bool.not_eq_false', Bool.not_eq_eq_eq_not, Bool.not_true, Bool.not_false, Int.not_lt, Int.not_le, Classical.not_not, beq_iff_eq, beq_eq_false_iff_ne] at hc7
      refine CW.seq ?_
      refine CW.reg ?_
      refine WL.pure rfl rfl rfl (PV.build (ks := []) (os := []) (css := []) (ds := [_, _]) T.bu27 rfl rfl trivial rfl) ?_
      refine WL.op rfl (OpK.storeA T.sz27 rfl rfl rfl rfl (by simp [Value.oneCell'] <;> first | done | (repeat' apply And.intro) <;> first | rfl | exact Osl.oneCell (by assumption) | exact Osn.oneCell (by assumption) | exact Rd.oneCell (by assumption) | assumption) hb2 (fun w20 hXw20 hb2 => ?_))
      have hB := hB.updL hXw20 hl2
      have hb1 := hb1.updD hXw20 hd1_2
      have hb4 := hb4.updD hXw20 (Dj.symm hd2_4)
      have ho5 := ho5.updD hXw20 (Dj.symm hd2_5)
      refine WL.pure rfl rfl rfl (PV.assign rfl) ?_
      refine WL.nilS ?_
      refine CW.ret ?_
      refine RQ.then ?_
      refine RQ.rc1 T.ag27 rfl (by first | exact Cells.up (by assumption) hB | exact Bx.cells (by assumption) | assumption) rfl rfl ?_
      refine ⟨hB, (.slice none 0 0), none, ?_, osE (Osl.nil _ _) ?_, Lo.nl _⟩
      · skip
        first | (exact tE2 (by rw [onI_no (by first | exact tightB_n1 (by assumption) | exact tightB_n2 (by unfold tightL; assumption))]) (bE (Bool.eq_false_iff.2 (by first | exact tightB_n1 (by assumption) | exact tightB_n2 (by unfold tightL; assumption))).symm)) | (exact tE2 (by rw [onI_no (by first | exact tightB_n1 (by assumption) | exact tightB_n2 (by unfold tightL; assumption))]; rfl) (bE (Bool.eq_false_iff.2 (by first | exact tightB_n1 (by assumption) | exact tightB_n2 (by unfold tightL; assumption))).symm)) | (exact tE2 (by rw [onI_yes (tightB_yes (by assumption) (by unfold tightL; assumption))]) (bE (tightB_yes (by assumption) (by unfold tightL; assumption)).symm)) | (exact tE2 (by rw [onI_yes (tightB_yes (by assumption) (by unfold tightL; assumption))]; rfl) (bE (tightB_yes (by assumption) (by unfold tightL; assumption)).symm))
      · skip
        first | (rw [onT_no (by first | exact tightB_n1 (by assumption) | exact tightB_n2 (by unfold tightL; assumption))]; done) | (rw [onT_yes (tightB_yes (by assumption) (by unfold tightL; assumption))]; first | done | rfl)
    try simp only [decide_eq_true_eq, decide_eq_false_iff_not, Bool.not_eq_true', Bool.not_eq_false', Bool.not_eq_eq_eq_not, Bool.not_true, Bool.not_false, Int.not_lt, Int.not_le, Classical.not_not, beq_iff_eq, beq_eq_false_iff_ne] at hc7
    refine CW.skipS ?_
    refine CW.seq ?_
    refine CW.reg ?_
    refine WL.pure rfl rfl rfl ((by first | exact PV.loadA T.ag27 rfl (by first | exact Cells.up (by assumption) hB | exact Bx.cells (by assumption) | assumption) (Ext.refl _) rfl | exact PV.loadP (ds := [_, _]) T.ag27 rfl (by first | exact Cells.up (by assumption) hB | exact Bx.cells (by assumption) | assumption) (Ext.refl _) rfl rfl)) ?_
    refine WL.op rfl (OpK.storeA T.sz27 rfl rfl rfl rfl (by simp [Value.oneCell'] <;> first | done | (repeat' apply And.intro) <;> first | rfl | exact Osl.oneCell (by assumption) | exact Osn.oneCell (by assumption) | exact Rd.oneCell (by assumption) | assumption) hb2 (fun w21 hXw21 hb2 => ?_))
    have hB := hB.updL hXw21 hl2
    have hb1 := hb1.updD hXw21 hd1_2
    have hb4 := hb4.updD hXw21 (Dj.symm hd2_4)
    have ho5 := ho5.updD hXw21 (Dj.symm hd2_5)
    refine WL.pure rfl rfl rfl (PV.assign rfl) ?_
    refine WL.nilS ?_
    refine CW.ret ?_
    refine RQ.rc1 T.ag27 rfl (by first | exact Cells.up (by assumption) hB | exact Bx.cells (by assumption) | assumption) rfl rfl ?_
    refine ⟨hB, v5, og5, ?_, osE ho5 ?_, hl5⟩
    · skip
      first | (exact tE2 (by rw [onI_no (by first | exact tightB_n1 (by assumption) | exact tightB_n2 (by unfold tightL; assumption))]) (bE (Bool.eq_false_iff.2 (by first | exact tightB_n1 (by assumption) | exact tightB_n2 (by unfold tightL; assumption))).symm)) | (exact tE2 (by rw [onI_no (by first | exact tightB_n1 (by assumption) | exact tightB_n2 (by unfold tightL; assumption))]; rfl) (bE (Bool.eq_false_iff.2 (by first | exact tightB_n1 (by assumption) | exact tightB_n2 (by unfold tightL; assumption))).symm)) | (exact tE2 (by rw [onI_yes (tightB_yes (by assumption) (by unfold tightL; assumption))]) (bE (tightB_yes (by assumption) (by unfold tightL; assumption)).symm)) | (exact tE2 (by rw [onI_yes (tightB_yes (by assumption) (by unfold tightL; assumption))]; rfl) (bE (tightB_yes (by assumption) (by unfold tightL; assumption)).symm))
    · skip
      first | (rw [onT_no (by first | exact tightB_n1 (by assumption) | exact tightB_n2 (by unfold tightL; assumption))]; done) | (rw [onT_yes (tightB_yes (by assumption) (by unfold tightL; assumption))]; first | done | rfl)
  · skip
    refine (OpK.alloc rfl T.zv27 rfl (fun b11 w22 hXw22 hb11 hge11 => ?_))
    have hl11 := Lo.new hB hge11
    have hv11 := Lo.new hS hge11
    have hd1_11 := Dj.new hb1.ltO hge11
    have hd2_11 := Dj.new hb2.ltO hge11
    refine ⟨Upd.trans hS hXw22, ?_⟩
    have hS := Upd.trans hS hXw22
    have hB := hB.trans hXw22
    have hb1 := hb1.up hXw22
    have hb2 := hb2.up hXw22
    refine HP.must rfl rfl (OpK.call rfl T.cf82 rfl (c_slices_Clone_int64_int64 (by first | assumption | exact Rd.up (by assumption) hB | exact Osl.rd (by assumption) | exact Osn.rdR (by assumption)) (by first | assumption | omega | (simp only [marks_len, marksB_len]; omega))) (fun rv2 w23 hR => ?_))
    obtain ⟨hXw23, v12, og12, rfl, ho12, hq12⟩ := hR
    have hl12 := Lo.up hq12 hB
    have hv12 := Lo.up hq12 hS
    have hd1_12 := Dj.lo hb1.ltO hq12
    have hd2_12 := Dj.lo hb2.ltO hq12
    have hd11_12 := Dj.lo hb11.ltO hq12
    refine ⟨Upd.trans hS hXw23, ?_⟩
    have hS := Upd.trans hS hXw23
    have hB := hB.trans hXw23
    have hb1 := hb1.up hXw23
    have hb2 := hb2.up hXw23
    have hb11 := hb11.up hXw23
    refine HP.take rfl rfl rfl rfl hS (fun wS hS1 => PV.build (ks := [0, 1]) (os := [.tmp 15, .tmp 18]) (css := [[_], [_]]) (ds := [_, _]) T.bu27 rfl rfl ⟨(by first | rfl | exact Rd.cells1 (by assumption) | exact Osl.cells1 (by assumption) | exact Osn.cells1 (by assumption)), (by first | rfl | exact Rd.cells1 (by assumption) | exact Osl.cells1 (by assumption) | exact Osn.cells1 (by assumption)), trivial⟩ rfl) ?_
    refine HP.must rfl rfl (OpK.storeA T.sz27 rfl rfl rfl rfl (by simp [Value.oneCell'] <;> first | done | (repeat' apply And.intro) <;> first | rfl | exact Osl.oneCell (by assumption) | exact Osn.oneCell (by assumption) | exact Rd.oneCell (by assumption) | assumption) hb11 (fun w24 hXw24 hb11 => ?_))
    refine ⟨Ext.updL hS hXw24 hv11, ?_⟩
    have hS := Ext.updL hS hXw24 hv11
    have hB := hB.updL hXw24 hl11
    have hb1 := hb1.updD hXw24 hd1_11
    have hb2 := hb2.updD hXw24 hd2_11
    have ho12 := ho12.updD hXw24 (Dj.symm hd11_12)
    refine HP.doneS ?_
    refine CW.seq ?_
    refine CW.seq ?_
    refine CW.reg ?_
    refine WL.pure rfl rfl rfl ((by first | exact PV.loadA T.ag27 rfl (by first | exact Cells.up (by assumption) hB | exact Bx.cells (by assumption) | assumption) (Ext.refl _) rfl | exact PV.loadP (ds := [_, _]) T.ag27 rfl (by first | exact Cells.up (by assumption) hB | exact Bx.cells (by assumption) | assumption) (Ext.refl _) rfl rfl)) ?_
    refine WL.op rfl (OpK.callR rfl T.cf63 rfl (c_impl_Zone_wide (by first | assumption | omega | (simp only [marks_len, marksB_len]; omega))) (fun w25 hXw25 => ?_))
    have hB := hB.trans hXw25
    have hb1 := hb1.up hXw25
    have hb2 := hb2.up hXw25
    have hb11 := hb11.up hXw25
    have ho12 := ho12.up hXw25
    refine WL.pure rfl rfl rfl (PV.move rfl) ?_
    refine WL.nilS ?_
    refine CW.block ?_
    have hlt1 := hb1.ltO
    have hlt2 := hb2.ltO
    have hlt11 := hb11.ltO
    have hlt12 := ho12.ltO
    refine CW.loop (σk := [(1, _), (2, _), (4, _), (21, _)]) (fun ρ wz m => ∃ (v13 : Value) (og13 : Option Nat) (j : Nat), ρ = [(22, .int .i64 (j : Nat))] ∧ m = (a0 + 1).toNat - j ∧ UpdL [og12, (some b11.block)] w25 wz ∧ Osl VI wz og13 v13 (allT a0 j xa1) ∧ OgR w25 og12 og13 ∧ Bx wz b11 [.int .i64 a0, v13] ∧ ((j : Int) ≤ a0 + 1)) (ρ₀ := [(22, _)]) (m₀ := _) ⟨rfl, rfl, rfl, rfl, rfl, trivial⟩ ⟨rv2, og12, 0, rfl, rfl, (UpdL.refl _ _), osE ho12 (by first | rfl | (simp; rfl)), OgR.refl _ _, bxE hb11 (by first | rfl | (simp_all; done) | (simp_all; omega)), (by first | omega | rfl | (simp; done) | assumption | (simp_all; done))⟩ ?_
    rintro _ wl4 _ ⟨v13, og13, j, rfl, rfl, hU0, ho13, ha13, hb11, hj⟩
    have hb1 := hb1.loop hU0 ⟨hd1_12, hd1_11, trivial⟩
    have hb2 := hb2.loop hU0 ⟨hd2_12, hd2_11, trivial⟩
    have hl13 := Lo.ogr hl12 hB ha13
    have hg0_13 := ha13
    have hk0_13 : OkB [og12, (some b11.block)] w25 og13 := OkB.ogr (OkB.mem (by simp)) (Nat.le_refl _) ha13
    have hd1_13 := Dj.ogr hd1_12 hlt1 ha13
    have hd2_13 := Dj.ogr hd2_12 hlt2 ha13
    have hd11_13 := Dj.ogr hd11_12 hlt11 ha13
    have hk0_11 : OkB [og12, (some b11.block)] w25 (some b11.block) := OkB.mem (by simp)
    have hB := hB.loop hU0 ⟨hl12, hl11, trivial⟩
    refine CW.seq ?_
    refine CW.reg ?_
    refine WL.pure rfl rfl rfl (PV.lss rfl rfl) ?_
    refine WL.nilS ?_
    refine CW.seq ?_
    refine CW.cond rfl (fun hc8 => ?_) (fun hc8 => ?_)
    · skip
      try simp only [decide_eq_true_eq, decide_eq_false_iff_not, Bool.not_eq_true', Bool.not_eq_false', Bool.not_eq_eq_eq_not, Bool.not_true, Bool.not_false, Int.not_lt, Int.not_le, Classical.not_not, beq_iff_eq, beq_eq_false_iff_ne] at hc8
      refine CW.skipS ?_
      refine CW.seq ?_
      refine CW.block ?_
      refine CW.seq ?_
      refine CW.reg ?_
      refine WL.pure rfl rfl rfl (PV.move rfl) ?_
      refine WL.pure rfl rfl rfl (PV.assign rfl) ?_
      refine WL.nilS ?_
      refine CW.seq ?_
      refine CW.reg ?_
      refine WL.pure rfl rfl rfl ((by first | exact PV.loadA T.ag27 rfl (by first | exact Cells.up (by assumption) hB | exact Bx.cells (by assumption) | assumption) (Ext.refl _) rfl | exact PV.loadP (ds := [_, _]) T.ag27 rfl (by first | exact Cells.up (by assumption) hB | exact Bx.cells (by assumption) | assumption) (Ext.refl _) rfl rfl)) ?_
      refine WL.op rfl (OpK.callR rfl T.cf63 rfl (c_impl_Zone_wide (by first | assumption | omega | (simp only [marks_len, marksB_len]; omega))) (fun w26 hXw26 => ?_))
      have hB := hB.trans hXw26
      have hb1 := hb1.up hXw26
      have hb2 := hb2.up hXw26
      have hb11 := hb11.up hXw26
      have ho13 := ho13.up hXw26
      have hU0 := hU0.ext hXw26
      refine WL.pure rfl rfl rfl (PV.move rfl) ?_
      refine WL.nilS ?_
      refine CW.block ?_
      have hlt1 := hb1.ltO
      have hlt2 := hb2.ltO
      have hlt11 := hb11.ltO
      have hlt13 := ho13.ltO
      refine CW.loop (σk := [(1, _), (2, _), (4, _), (5, _), (21, _), (22, _), (26, _)]) (fun ρ wz m => ∃ (v15 : Value) (og15 : Option Nat) (i : Nat), ρ = [(27, .int .i64 (i : Nat))] ∧ m = (a0 + 1).toNat - i ∧ UpdL [og13, (some b11.block)] w26 wz ∧ Osl VI wz og15 v15 (passT a0 j i (allT a0 j xa1)) ∧ OgR w26 og13 og15 ∧ Bx wz b11 [.int .i64 a0, v15] ∧ ((i : Int) ≤ a0 + 1)) (ρ₀ := [(27, _)]) (m₀ := _) ⟨rfl, rfl, rfl, rfl, rfl, rfl, rfl, rfl, trivial⟩ ⟨v13, og13, 0, rfl, rfl, (UpdL.refl _ _), osE ho13 (by rfl), OgR.refl _ _, bxE hb11 (by first | rfl | (simp_all; done) | (simp_all; omega)), (by first | omega | rfl | (simp; done) | assumption | (simp_all; done))⟩ ?_
      rintro _ wl5 _ ⟨v15, og15, i, rfl, rfl, hU1, ho15, ha15, hb11, hi⟩
      have hU0 := hU0.trans hU1 ⟨hk0_13, hk0_11, trivial⟩
      have hb1 := hb1.loop hU1 ⟨hd1_13, hd1_11, trivial⟩
      have hb2 := hb2.loop hU1 ⟨hd2_13, hd2_11, trivial⟩
      have hl15 := Lo.ogr hl13 hB ha15
      have hg1_15 := ha15
      have hk1_15 : OkB [og13, (some b11.block)] w26 og15 := OkB.ogr (OkB.mem (by simp)) (Nat.le_refl _) ha15
      have hk0_15 := OkB.ogr hk0_13 (by first | assumption | exact UpdL.size (by assumption)) ha15
      have hg0_15 := OgR.trans hg0_13 (by first | assumption | exact UpdL.size (by assumption)) ha15
      have hd1_15 := Dj.ogr hd1_13 hlt1 ha15
      have hd2_15 := Dj.ogr hd2_13 hlt2 ha15
      have hd11_15 := Dj.ogr hd11_13 hlt11 ha15
      have hk1_11 : OkB [og13, (some b11.block)] w26 (some b11.block) := OkB.mem (by simp)
      have hB := hB.loop hU1 ⟨hl13, hl11, trivial⟩
      refine CW.seq ?_
      refine CW.reg ?_
      refine WL.pure rfl rfl rfl (PV.lss rfl rfl) ?_
      refine WL.nilS ?_
      refine CW.seq ?_
      refine CW.cond rfl (fun hc9 => ?_) (fun hc9 => ?_)
      · skip
        try simp only [decide_eq_true_eq, decide_eq_false_iff_not, Bool.not_eq_true', Bool.not_eq_false', Bool.not_eq_eq_eq_not, Bool.not_true, Bool.not_false, Int.not_lt, Int.not_le, Classical.not_not, beq_iff_eq, beq_eq_false_iff_ne] at hc9
        refine CW.skipS ?_
        refine CW.seq ?_
        refine CW.block ?_
        refine CW.seq ?_
        refine CW.reg ?_
        refine WL.pure rfl rfl rfl (PV.move rfl) ?_
        refine WL.pure rfl rfl rfl (PV.assign rfl) ?_
        refine WL.nilS ?_
        refine CW.seq ?_
        refine CW.reg ?_
        refine WL.pure rfl rfl rfl ((by first | exact PV.loadA T.ag27 rfl (by first | exact Cells.up (by assumption) hB | exact Bx.cells (by assumption) | assumption) (Ext.refl _) rfl | exact PV.loadP (ds := [_, _]) T.ag27 rfl (by first | exact Cells.up (by assumption) hB | exact Bx.cells (by assumption) | assumption) (Ext.refl _) rfl rfl)) ?_
        refine WL.op rfl (OpK.callR rfl T.cf63 rfl (c_impl_Zone_wide (by first | assumption | omega | (simp only [marks_len, marksB_len]; omega))) (fun w27 hXw27 => ?_))
        have hB := hB.trans hXw27
        have hb1 := hb1.up hXw27
        have hb2 := hb2.up hXw27
        have hb11 := hb11.up hXw27
        have ho15 := ho15.up hXw27
        have hU0 := hU0.ext hXw27
        have hU1 := hU1.ext hXw27
        refine WL.pure rfl rfl rfl (PV.move rfl) ?_
        refine WL.nilS ?_
        refine CW.block ?_
        have hlt1 := hb1.ltO
        have hlt2 := hb2.ltO
        have hlt11 := hb11.ltO
        have hlt15 := ho15.ltO
        refine CW.loop (σk := [(1, _), (2, _), (4, _), (5, _), (6, _), (21, _), (22, _), (26, _), (27, _), (31, _)]) (fun ρ wz m => ∃ (v17 : Value) (og17 : Option Nat) (k : Nat), ρ = [(32, .int .i64 (k : Nat))] ∧ m = (a0 + 1).toNat - k ∧ UpdL [og15, (some b11.block)] w27 wz ∧ Osl VI wz og17 v17 (rowT a0 j i k (passT a0 j i (allT a0 j xa1))) ∧ OgR w27 og15 og17 ∧ Bx wz b11 [.int .i64 a0, v17] ∧ ((k : Int) ≤ a0 + 1)) (ρ₀ := [(32, _)]) (m₀ := _) ⟨rfl, rfl, rfl, rfl, rfl, rfl, rfl, rfl, rfl, rfl, rfl, trivial⟩ ⟨v15, og15, 0, rfl, rfl, (UpdL.refl _ _), osE ho15 (by rfl), OgR.refl _ _, bxE hb11 (by first | rfl | (simp_all; done) | (simp_all; omega)), (by first | omega | rfl | (simp; done) | assumption | (simp_all; done))⟩ ?_
        rintro _ wl6 _ ⟨v17, og17, k, rfl, rfl, hU2, ho17, ha17, hb11, hk⟩
        have hU0 := hU0.trans hU2 ⟨hk0_15, hk0_11, trivial⟩
        have hU1 := hU1.trans hU2 ⟨hk1_15, hk1_11, trivial⟩
        have hb1 := hb1.loop hU2 ⟨hd1_15, hd1_11, trivial⟩
        have hb2 := hb2.loop hU2 ⟨hd2_15, hd2_11, trivial⟩
        have hl17 := Lo.ogr hl15 hB ha17
        have hg2_17 := ha17
        have hk2_17 : OkB [og15, (some b11.block)] w27 og17 := OkB.ogr (OkB.mem (by simp)) (Nat.le_refl _) ha17
        have hk0_17 := OkB.ogr hk0_15 (by first | assumption | exact UpdL.size (by assumption)) ha17
        have hg0_17 := OgR.trans hg0_15 (by first | assumption | exact UpdL.size (by assumption)) ha17
        have hk1_17 := OkB.ogr hk1_15 (by first | assumption | exact UpdL.size (by assumption)) ha17
        have hg1_17 := OgR.trans hg1_15 (by first | assumption | exact UpdL.size (by assumption)) ha17
        have hd1_17 := Dj.ogr hd1_15 hlt1 ha17
        have hd2_17 := Dj.ogr hd2_15 hlt2 ha17
        have hd11_17 := Dj.ogr hd11_15 hlt11 ha17
        have hk2_11 : OkB [og15, (some b11.block)] w27 (some b11.block) := OkB.mem (by simp)
        have hB := hB.loop hU2 ⟨hl15, hl11, trivial⟩
        have hl0 : (rowT a0 j i k (passT a0 j i (allT a0 j xa1))).length = xa1.length := by rw [rowT_len, passT_len, allT_len]
        refine CW.seq ?_
        refine CW.reg ?_
        refine WL.pure rfl rfl rfl (PV.lss rfl rfl) ?_
        refine WL.nilS ?_
        refine CW.seq ?_
        refine CW.cond rfl (fun hc10 => ?_) (fun hc10 => ?_)
        · skip
          try simp only [decide_eq_true_eq, decide_eq_false_iff_not, Bool.not_eq_true', Bool.not_eq_false', Bool.not_eq_eq_eq_not, Bool.not_true, Bool.not_false, Int.not_lt, Int.not_le, Classical.not_not, beq_iff_eq, beq_eq_false_iff_ne] at hc10
          refine CW.skipS ?_
          refine CW.seq ?_
          refine CW.block ?_
          refine CW.seq ?_
          refine CW.reg ?_
          refine WL.pure rfl rfl rfl (PV.move rfl) ?_
          refine WL.pure rfl rfl rfl (PV.assign rfl) ?_
          refine WL.nilS ?_
          refine CW.seq ?_
          refine CW.draw T.mixed (by kernel_rfl) (fun _ _ _ _ _ h => h) (fun w8 w9 => Upd none w8 w9) 18 (.take 0 (.take 1 (.take 2 (.take 3 (.take 4 (.take 8 (.take 9 (.take 10 (.take 11 (.take 12 (.must 5 (.take 6 (.take 7 (.must 13 (.take 14 (.take 15 (.take 16 (.take 17 .done)))))))))))))))))) (by kernel_rfl) (fun w28 hXd => ?_)
          have hB := hB.trans hXd
          have hb1 := hb1.up hXd
          have hb2 := hb2.up hXd
          have hb11 := hb11.up hXd
          have ho17 := ho17.up hXd
          have hU0 := hU0.ext hXd
          have hU1 := hU1.ext hXd
          have hU2 := hU2.ext hXd
          have hBr := hB
          have hS : Upd none w28 w28 := Ext.toUpd (Ext.refl _)
          refine HP.take rfl rfl rfl rfl hS (fun wS hS1 => (by first | exact PV.fieldAddr T.fl27_1 rfl (by first | assumption | exact Bx.cells (by assumption)) | exact PV.fieldAddrP T.fl27_1 rfl rfl)) ?_
          refine HP.take rfl rfl rfl rfl hS (fun wS hS1 => (by first | exact PV.load0 T.na22 rfl (by first | exact Cells.up (by assumption) (hBr.trans hS1) | exact Bx.cells (Bx.updD (by assumption) hS1 (Dj.nlR _)) | exact Cells.upd (by assumption) hS1 (by simp)) (Ext.refl _) rfl | exact PV.load1 T.na22 rfl (by first | exact Cells.up (by assumption) (hBr.trans hS1) | exact Bx.cells (Bx.updD (by assumption) hS1 (Dj.nlR _)) | exact Cells.upd (by assumption) hS1 (by simp)) (Ext.refl _) rfl)) ?_
          refine HP.take rfl rfl rfl rfl hS (fun wS hS1 => (by first | exact PV.loadA T.ag27 rfl (by first | exact Cells.up (by assumption) (hBr.trans hS1) | exact Bx.cells (Bx.updD (by assumption) hS1 (Dj.nlR _)) | exact Cells.upd (by assumption) hS1 (by simp)) (Ext.refl _) rfl | exact PV.loadP (ds := [_, _]) T.ag27 rfl (by first | exact Cells.up (by assumption) (hBr.trans hS1) | exact Bx.cells (Bx.updD (by assumption) hS1 (Dj.nlR _)) | exact Cells.upd (by assumption) hS1 (by simp)) (Ext.refl _) rfl rfl)) ?_
          refine HP.take rfl rfl rfl rfl hS (fun wS hS1 => PV.move rfl) ?_
          refine HP.take rfl rfl rfl rfl hS (fun wS hS1 => PV.move rfl) ?_
          refine HP.take rfl rfl rfl rfl hS (fun wS hS1 => (by first | exact PV.fieldAddr T.fl27_1 rfl (by first | assumption | exact Bx.cells (by assumption)) | exact PV.fieldAddrP T.fl27_1 rfl rfl)) ?_
          refine HP.take rfl rfl rfl rfl hS (fun wS hS1 => (by first | exact PV.load0 T.na22 rfl (by first | exact Cells.up (by assumption) (hBr.trans hS1) | exact Bx.cells (Bx.updD (by assumption) hS1 (Dj.nlR _)) | exact Cells.upd (by assumption) hS1 (by simp)) (Ext.refl _) rfl | exact PV.load1 T.na22 rfl (by first | exact Cells.up (by assumption) (hBr.trans hS1) | exact Bx.cells (Bx.updD (by assumption) hS1 (Dj.nlR _)) | exact Cells.upd (by assumption) hS1 (by simp)) (Ext.refl _) rfl)) ?_
          refine HP.take rfl rfl rfl rfl hS (fun wS hS1 => (by first | exact PV.loadA T.ag27 rfl (by first | exact Cells.up (by assumption) (hBr.trans hS1) | exact Bx.cells (Bx.updD (by assumption) hS1 (Dj.nlR _)) | exact Cells.upd (by assumption) hS1 (by simp)) (Ext.refl _) rfl | exact PV.loadP (ds := [_, _]) T.ag27 rfl (by first | exact Cells.up (by assumption) (hBr.trans hS1) | exact Bx.cells (Bx.updD (by assumption) hS1 (Dj.nlR _)) | exact Cells.upd (by assumption) hS1 (by simp)) (Ext.refl _) rfl rfl)) ?_
          refine HP.take rfl rfl rfl rfl hS (fun wS hS1 => PV.move rfl) ?_
          refine HP.take rfl rfl rfl rfl hS (fun wS hS1 => PV.move rfl) ?_
          refine HP.must rfl rfl (OpK.callR rfl T.cf65 rfl (c_impl_Zone_at (by first | assumption | omega | (simp only [marks_len, marksB_len]; omega)) (by first | assumption | omega | (simp only [marks_len, marksB_len]; omega)) (by first | assumption | omega | (simp only [marks_len, marksB_len]; omega)) (by first | assumption | exact Rd.up (by assumption) hB | exact Osl.rd (by assumption) | exact Osn.rdR (by assumption))) (fun w29 hXw29 => ?_))
          refine ⟨Upd.trans hS hXw29, ?_⟩
          have hS := Upd.trans hS hXw29
          have hB := hB.trans hXw29
          have hb1 := hb1.up hXw29
          have hb2 := hb2.up hXw29
          have hb11 := hb11.up hXw29
          have ho17 := ho17.up hXw29
          have hU0 := hU0.ext hXw29
          have hU1 := hU1.ext hXw29
          have hU2 := hU2.ext hXw29
          first
            | refine HP.atO (wb := w28) (x := .tmp 36) (y := .tmp 40) (f := VI) (0) rfl rfl (by assumption) (by have hix := idx_lt (c := a0) (i := i) (k := j) (n := xa1.length) (by omega) (by omega) (by omega) (by omega); omega) (fun p5 hpp5 hcp5 => ?_)
            | refine HP.atOZ (wb := w28) (x := .tmp 36) (y := .tmp 40) (f := VI) (0) rfl rfl (by assumption) (by have hix := idx_lt (c := a0) (i := i) (k := j) (n := xa1.length) (by omega) (by omega) (by omega) (by omega); omega) (fun p5 hpp5 hzp5 hcp5 => ?_)
          refine HP.take rfl rfl rfl rfl hS (fun wS hS1 => (by first | exact PV.indexAddr hpp5 rfl rfl T.sl22 | exact PV.indexAddr hpp5 rfl (by rw [← hzp5]; rfl) T.sl22)) ?_
          refine HP.take rfl rfl rfl rfl hS (fun wS hS1 => (by first | exact PV.load0 T.na2 rfl (by first | exact Cells.up (by assumption) (hBr.trans hS1) | exact Bx.cells (Bx.updD (by assumption) hS1 (Dj.nlR _)) | exact Cells.upd (by assumption) hS1 (by simp)) (Ext.refl _) rfl | exact PV.load1 T.na2 rfl (by first | exact Cells.up (by assumption) (hBr.trans hS1) | exact Bx.cells (Bx.updD (by assumption) hS1 (Dj.nlR _)) | exact Cells.upd (by assumption) hS1 (by simp)) (Ext.refl _) rfl)) ?_
          refine HP.must rfl rfl (OpK.callR rfl T.cf65 rfl (c_impl_Zone_at (by first | assumption | omega | (simp only [marks_len, marksB_len]; omega)) (by first | assumption | omega | (simp only [marks_len, marksB_len]; omega)) (by first | assumption | omega | (simp only [marks_len, marksB_len]; omega)) (by first | assumption | exact Rd.up (by assumption) hB | exact Osl.rd (by assumption) | exact Osn.rdR (by assumption))) (fun w30 hXw30 => ?_))
          refine ⟨Upd.trans hS hXw30, ?_⟩
          have hS := Upd.trans hS hXw30
          have hB := hB.trans hXw30
          have hb1 := hb1.up hXw30
          have hb2 := hb2.up hXw30
          have hb11 := hb11.up hXw30
          have ho17 := ho17.up hXw30
          have hU0 := hU0.ext hXw30
          have hU1 := hU1.ext hXw30
          have hU2 := hU2.ext hXw30
          first
            | refine HP.atO (wb := w28) (x := .tmp 44) (y := .tmp 48) (f := VI) (0) rfl rfl (by assumption) (by have hix := idx_lt (c := a0) (i := j) (k := k) (n := xa1.length) (by omega) (by omega) (by omega) (by omega); omega) (fun p6 hpp6 hcp6 => ?_)
            | refine HP.atOZ (wb := w28) (x := .tmp 44) (y := .tmp 48) (f := VI) (0) rfl rfl (by assumption) (by have hix := idx_lt (c := a0) (i := j) (k := k) (n := xa1.length) (by omega) (by omega) (by omega) (by omega); omega) (fun p6 hpp6 hzp6 hcp6 => ?_)
          refine HP.take rfl rfl rfl rfl hS (fun wS hS1 => (by first | exact PV.indexAddr hpp6 rfl rfl T.sl22 | exact PV.indexAddr hpp6 rfl (by rw [← hzp6]; rfl) T.sl22)) ?_
          refine HP.take rfl rfl rfl rfl hS (fun wS hS1 => (by first | exact PV.load0 T.na2 rfl (by first | exact Cells.up (by assumption) (hBr.trans hS1) | exact Bx.cells (Bx.updD (by assumption) hS1 (Dj.nlR _)) | exact Cells.upd (by assumption) hS1 (by simp)) (Ext.refl _) rfl | exact PV.load1 T.na2 rfl (by first | exact Cells.up (by assumption) (hBr.trans hS1) | exact Bx.cells (Bx.updD (by assumption) hS1 (Dj.nlR _)) | exact Cells.upd (by assumption) hS1 (by simp)) (Ext.refl _) rfl)) ?_
          refine HP.take rfl rfl rfl rfl hS (fun wS hS1 => PV.assign rfl) ?_
          refine HP.take rfl rfl rfl rfl hS (fun wS hS1 => PV.assign rfl) ?_
          refine HP.doneS ?_
          refine CW.seq ?_
          refine CW.reg ?_
          refine WL.pure rfl rfl rfl (PV.move rfl) ?_
          refine WL.pure rfl rfl rfl (PV.neq rfl rfl) ?_
          refine WL.pure rfl rfl rfl (PV.move rfl) ?_
          refine WL.split (t := 53) rfl (fun hc11 => ?_) (fun hc11 => ?_)
          rotate_left
          · skip
            try simp only [decide_eq_true_eq, decide_eq_false_iff_not, Bool.not_eq_true', Bool.not_eq_false', Bool.not_eq_eq_eq_not, Bool.not_true, Bool.not_false, Int.not_lt, Int.not_le, Classical.not_not, beq_iff_eq, beq_eq_false_iff_ne] at hc11
            refine WL.skip rfl rfl rfl rfl rfl ?_
            refine WL.skip rfl rfl rfl rfl rfl ?_
            refine WL.pure rfl rfl rfl (PV.pickF rfl rfl) ?_
            refine WL.nilS ?_
            refine CW.condF rfl ?_
            refine CW.skip ?_
            refine NQ.block ?_
            refine NQ.then ?_
            refine CW.reg ?_
            refine WL.pure rfl rfl rfl (PV.add rfl rfl (by constructor <;> omega)) ?_
            refine WL.pure rfl rfl rfl (PV.move rfl) ?_
            refine WL.nil ?_
            refine NQ.next (ρ := [(32, _)]) ⟨rfl, rfl, rfl, rfl, rfl, rfl, rfl, rfl, rfl, rfl, rfl, trivial⟩ ?_
            exact ⟨_, ⟨v17, og17, k + 1, rfl, rfl, hU2, osE ho17 (by first | exact stepT_min (by simp only [zat]; omega) (by simp only [zat]; omega) rfl | exact stepT_n1 (by simp only [zat]; omega) | exact stepT_n2 (by simp only [zat]; omega)), (by first | exact hg2_17 | exact OgR.weak hg2_17), bxE hb11 (by first | rfl | (simp_all; done) | (simp_all; omega)), (by first | omega | assumption | (simp_all; done) | (simp_all; omega))⟩, by omega⟩
          try simp only [decide_eq_true_eq, decide_eq_false_iff_not, Bool.not_eq_true', Bool.not_eq_false', Bool.not_eq_eq_eq_not, Bool.not_true, Bool.not_false, Int.not_lt, Int.not_le, Classical.not_not, beq_iff_eq, beq_eq_false_iff_ne] at hc11
          refine WL.pureG rfl rfl rfl rfl rfl (PV.move rfl) ?_
          refine WL.pureG rfl rfl rfl rfl rfl (PV.neq rfl rfl) ?_
          refine WL.pure rfl rfl rfl (PV.pickT rfl rfl) ?_
          refine WL.nilS ?_
          refine CW.cond rfl (fun hc12 => ?_) (fun hc12 => ?_)
          · skip
            try simp only [decide_eq_true_eq, decide_eq_false_iff_not, Bool.not_eq_true', Bool.not_eq_false', Bool.not_eq_eq_eq_not, Bool.not_true, Bool.not_false, Int.not_lt, Int.not_le, Classical.not_not, beq_iff_eq, beq_eq_false_iff_ne] at hc12
            refine CW.draw T.mixed (by kernel_rfl) (fun _ _ _ _ _ h => h) (fun w8 w9 => Upd none w8 w9) 19 (.take 0 (.take 1 (.take 2 (.take 3 (.take 4 (.take 6 (.take 7 (.take 8 (.take 9 (.take 10 (.take 14 (.take 15 (.take 16 (.must 5 (.must 11 (.take 12 (.take 13 (.take 17 (.take 18 (.must 19 .done)))))))))))))))))))) (by kernel_rfl) (fun w31 hXd => ?_)
            have hB := hB.trans hXd
            have hb1 := hb1.up hXd
            have hb2 := hb2.up hXd
            have hb11 := hb11.up hXd
            have ho17 := ho17.up hXd
            have hU0 := hU0.ext hXd
            have hU1 := hU1.ext hXd
            have hU2 := hU2.ext hXd
            have hBr := hB
            have hS : Upd none w31 w31 := Ext.toUpd (Ext.refl _)
            refine HP.take rfl rfl rfl rfl hS (fun wS hS1 => (by first | exact PV.fieldAddr T.fl27_1 rfl (by first | assumption | exact Bx.cells (by assumption)) | exact PV.fieldAddrP T.fl27_1 rfl rfl)) ?_
            refine HP.take rfl rfl rfl rfl hS (fun wS hS1 => (by first | exact PV.load0 T.na22 rfl (by first | exact Cells.up (by assumption) (hBr.trans hS1) | exact Bx.cells (Bx.updD (by assumption) hS1 (Dj.nlR _)) | exact Cells.upd (by assumption) hS1 (by simp)) (Ext.refl _) rfl | exact PV.load1 T.na22 rfl (by first | exact Cells.up (by assumption) (hBr.trans hS1) | exact Bx.cells (Bx.updD (by assumption) hS1 (Dj.nlR _)) | exact Cells.upd (by assumption) hS1 (by simp)) (Ext.refl _) rfl)) ?_
            refine HP.take rfl rfl rfl rfl hS (fun wS hS1 => (by first | exact PV.loadA T.ag27 rfl (by first | exact Cells.up (by assumption) (hBr.trans hS1) | exact Bx.cells (Bx.updD (by assumption) hS1 (Dj.nlR _)) | exact Cells.upd (by assumption) hS1 (by simp)) (Ext.refl _) rfl | exact PV.loadP (ds := [_, _]) T.ag27 rfl (by first | exact Cells.up (by assumption) (hBr.trans hS1) | exact Bx.cells (Bx.updD (by assumption) hS1 (Dj.nlR _)) | exact Cells.upd (by assumption) hS1 (by simp)) (Ext.refl _) rfl rfl)) ?_
            refine HP.take rfl rfl rfl rfl hS (fun wS hS1 => PV.move rfl) ?_
            refine HP.take rfl rfl rfl rfl hS (fun wS hS1 => PV.move rfl) ?_
            refine HP.take rfl rfl rfl rfl hS (fun wS hS1 => (by first | exact PV.fieldAddr T.fl27_1 rfl (by first | assumption | exact Bx.cells (by assumption)) | exact PV.fieldAddrP T.fl27_1 rfl rfl)) ?_
            refine HP.take rfl rfl rfl rfl hS (fun wS hS1 => (by first | exact PV.load0 T.na22 rfl (by first | exact Cells.up (by assumption) (hBr.trans hS1) | exact Bx.cells (Bx.updD (by assumption) hS1 (Dj.nlR _)) | exact Cells.upd (by assumption) hS1 (by simp)) (Ext.refl _) rfl | exact PV.load1 T.na22 rfl (by first | exact Cells.up (by assumption) (hBr.trans hS1) | exact Bx.cells (Bx.updD (by assumption) hS1 (Dj.nlR _)) | exact Cells.upd (by assumption) hS1 (by simp)) (Ext.refl _) rfl)) ?_
            refine HP.take rfl rfl rfl rfl hS (fun wS hS1 => (by first | exact PV.loadA T.ag27 rfl (by first | exact Cells.up (by assumption) (hBr.trans hS1) | exact Bx.cells (Bx.updD (by assumption) hS1 (Dj.nlR _)) | exact Cells.upd (by assumption) hS1 (by simp)) (Ext.refl _) rfl | exact PV.loadP (ds := [_, _]) T.ag27 rfl (by first | exact Cells.up (by assumption) (hBr.trans hS1) | exact Bx.cells (Bx.updD (by assumption) hS1 (Dj.nlR _)) | exact Cells.upd (by assumption) hS1 (by simp)) (Ext.refl _) rfl rfl)) ?_
            refine HP.take rfl rfl rfl rfl hS (fun wS hS1 => PV.move rfl) ?_
            refine HP.take rfl rfl rfl rfl hS (fun wS hS1 => PV.move rfl) ?_
            refine HP.take rfl rfl rfl rfl hS (fun wS hS1 => PV.move rfl) ?_
            refine HP.take rfl rfl rfl rfl hS (fun wS hS1 => PV.move rfl) ?_
            refine HP.take rfl rfl rfl rfl hS (fun wS hS1 => PV.addW rfl rfl) ?_
            refine HP.must rfl rfl (OpK.callR rfl T.cf65 rfl (c_impl_Zone_at (by first | assumption | omega | (simp only [marks_len, marksB_len]; omega)) (by first | assumption | omega | (simp only [marks_len, marksB_len]; omega)) (by first | assumption | omega | (simp only [marks_len, marksB_len]; omega)) (by first | assumption | exact Rd.up (by assumption) hB | exact Osl.rd (by assumption) | exact Osn.rdR (by assumption))) (fun w32 hXw32 => ?_))
            refine ⟨Upd.trans hS hXw32, ?_⟩
            have hS := Upd.trans hS hXw32
            have hB := hB.trans hXw32
            have hb1 := hb1.up hXw32
            have hb2 := hb2.up hXw32
            have hb11 := hb11.up hXw32
            have ho17 := ho17.up hXw32
            have hU0 := hU0.ext hXw32
            have hU1 := hU1.ext hXw32
            have hU2 := hU2.ext hXw32
            refine HP.must rfl rfl (OpK.callR rfl T.cf65 rfl (c_impl_Zone_at (by first | assumption | omega | (simp only [marks_len, marksB_len]; omega)) (by first | assumption | omega | (simp only [marks_len, marksB_len]; omega)) (by first | assumption | omega | (simp only [marks_len, marksB_len]; omega)) (by first | assumption | exact Rd.up (by assumption) hB | exact Osl.rd (by assumption) | exact Osn.rdR (by assumption))) (fun w33 hXw33 => ?_))
            refine ⟨Upd.trans hS hXw33, ?_⟩
            have hS := Upd.trans hS hXw33
            have hB := hB.trans hXw33
            have hb1 := hb1.up hXw33
            have hb2 := hb2.up hXw33
            have hb11 := hb11.up hXw33
            have ho17 := ho17.up hXw33
            have hU0 := hU0.ext hXw33
            have hU1 := hU1.ext hXw33
            have hU2 := hU2.ext hXw33
            first
              | refine HP.atO (wb := w31) (x := .tmp 64) (y := .tmp 68) (f := VI) (0) rfl rfl (by assumption) (by have hix := idx_lt (c := a0) (i := i) (k := k) (n := xa1.length) (by omega) (by omega) (by omega) (by omega); omega) (fun p7 hpp7 hcp7 => ?_)
              | refine HP.atOZ (wb := w31) (x := .tmp 64) (y := .tmp 68) (f := VI) (0) rfl rfl (by assumption) (by have hix := idx_lt (c := a0) (i := i) (k := k) (n := xa1.length) (by omega) (by omega) (by omega) (by omega); omega) (fun p7 hpp7 hzp7 hcp7 => ?_)
            refine HP.take rfl rfl rfl rfl hS (fun wS hS1 => (by first | exact PV.indexAddr hpp7 rfl rfl T.sl22 | exact PV.indexAddr hpp7 rfl (by rw [← hzp7]; rfl) T.sl22)) ?_
            refine HP.take rfl rfl rfl rfl hS (fun wS hS1 => (by first | exact PV.load0 T.na2 rfl (by first | exact Cells.up (by assumption) (hBr.trans hS1) | exact Bx.cells (Bx.updD (by assumption) hS1 (Dj.nlR _)) | exact Cells.upd (by assumption) hS1 (by simp)) (Ext.refl _) rfl | exact PV.load1 T.na2 rfl (by first | exact Cells.up (by assumption) (hBr.trans hS1) | exact Bx.cells (Bx.updD (by assumption) hS1 (Dj.nlR _)) | exact Cells.upd (by assumption) hS1 (by simp)) (Ext.refl _) rfl)) ?_
            refine HP.take rfl rfl rfl rfl hS (fun wS hS1 => PV.min2 rfl rfl) ?_
            first
              | refine HP.atO (wb := w31) (x := .tmp 58) (y := .tmp 62) (f := VI) (0) rfl rfl (by assumption) (by have hix := idx_lt (c := a0) (i := i) (k := k) (n := xa1.length) (by omega) (by omega) (by omega) (by omega); omega) (fun p8 hpp8 hcp8 => ?_)
              | refine HP.atOZ (wb := w31) (x := .tmp 58) (y := .tmp 62) (f := VI) (0) rfl rfl (by assumption) (by have hix := idx_lt (c := a0) (i := i) (k := k) (n := xa1.length) (by omega) (by omega) (by omega) (by omega); omega) (fun p8 hpp8 hzp8 hcp8 => ?_)
            refine HP.take rfl rfl rfl rfl hS (fun wS hS1 => (by first | exact PV.indexAddr hpp8 rfl rfl T.sl22 | exact PV.indexAddr hpp8 rfl (by rw [← hzp8]; rfl) T.sl22)) ?_
            refine HP.last rfl rfl (OpK.storeS VI T.sz2 rfl rfl rfl hpp8 ho17 (fun w34 hXw34 ho17 => ?_))
            have hB := hB.updL hXw34 hl17
            have hb1 := hb1.updD hXw34 hd1_17
            have hb2 := hb2.updD hXw34 hd2_17
            have hb11 := hb11.updD hXw34 hd11_17
            have hU0 := hU0.step hXw34 hk0_17
            have hU1 := hU1.step hXw34 hk1_17
            have hU2 := hU2.step hXw34 hk2_17
            refine HP.done ?_
            refine NQ.block ?_
            refine NQ.then ?_
            refine CW.reg ?_
            refine WL.pure rfl rfl rfl (PV.add rfl rfl (by constructor <;> omega)) ?_
            refine WL.pure rfl rfl rfl (PV.move rfl) ?_
            refine WL.nil ?_
            refine NQ.next (ρ := [(32, _)]) ⟨rfl, rfl, rfl, rfl, rfl, rfl, rfl, rfl, rfl, rfl, rfl, trivial⟩ ?_
            exact ⟨_, ⟨v17, og17, k + 1, rfl, rfl, hU2, osE ho17 (by first | exact stepT_min (by simp only [zat]; omega) (by simp only [zat]; omega) rfl | exact stepT_n1 (by simp only [zat]; omega) | exact stepT_n2 (by simp only [zat]; omega)), (by first | exact hg2_17 | exact OgR.weak hg2_17), bxE hb11 (by first | rfl | (simp_all; done) | (simp_all; omega)), (by first | omega | assumption | (simp_all; done) | (simp_all; omega))⟩, by omega⟩
          try simp only [decide_eq_true_eq, decide_eq_false_iff_not, Bool.not_eq_true', Bool.not_eq_false', Bool.not_eq_eq_eq_not, Bool.not_true, Bool.not_false, Int.not_lt, Int.not_le, Classical.not_not, beq_iff_eq, beq_eq_false_iff_ne] at hc12
          refine CW.skip ?_
          refine NQ.block ?_
          refine NQ.then ?_
          refine CW.reg ?_
          refine WL.pure rfl rfl rfl (PV.add rfl rfl (by constructor <;> omega)) ?_
          refine WL.pure rfl rfl rfl (PV.move rfl) ?_
          refine WL.nil ?_
          refine NQ.next (ρ := [(32, _)]) ⟨rfl, rfl, rfl, rfl, rfl, rfl, rfl, rfl, rfl, rfl, rfl, trivial⟩ ?_
          exact ⟨_, ⟨v17, og17, k + 1, rfl, rfl, hU2, osE ho17 (by first | exact stepT_min (by simp only [zat]; omega) (by simp only [zat]; omega) rfl | exact stepT_n1 (by simp only [zat]; omega) | exact stepT_n2 (by simp only [zat]; omega)), (by first | exact hg2_17 | exact OgR.weak hg2_17), bxE hb11 (by first | rfl | (simp_all; done) | (simp_all; omega)), (by first | omega | assumption | (simp_all; done) | (simp_all; omega))⟩, by omega⟩
        try simp only [decide_eq_true_eq, decide_eq_false_iff_not, Bool.not_eq_true', Bool.not_eq_false', Bool.not_eq_eq_eq_not, Bool.not_true, Bool.not_false, Int.not_lt, Int.not_le, Classical.not_not, beq_iff_eq, beq_eq_false_iff_ne] at hc10
        refine CW.exit ?_
        refine XQ.then ?_
        refine XQ.then ?_
        refine XQ.here ?_
        refine NQ.block ?_
        refine NQ.then ?_
        refine CW.reg ?_
        refine WL.pure rfl rfl rfl (PV.add rfl rfl (by constructor <;> omega)) ?_
        refine WL.pure rfl rfl rfl (PV.move rfl) ?_
        refine WL.nil ?_
        refine NQ.next (ρ := [(27, _)]) ⟨rfl, rfl, rfl, rfl, rfl, rfl, rfl, rfl, trivial⟩ ?_
        exact ⟨_, ⟨v17, og17, i + 1, rfl, rfl, hU1, osE ho17 (by exact passT_succ (by omega)), (by first | exact hg1_17 | exact OgR.weak hg1_17), bxE hb11 (by first | rfl | (simp_all; done) | (simp_all; omega)), (by first | omega | assumption | (simp_all; done) | (simp_all; omega))⟩, by omega⟩
      try simp only [decide_eq_true_eq, decide_eq_false_iff_not, Bool.not_eq_true', Bool.not_eq_false', Bool.not_eq_eq_eq_not, Bool.not_true, Bool.not_false, Int.not_lt, Int.not_le, Classical.not_not, beq_iff_eq, beq_eq_false_iff_ne] at hc9
      refine CW.exit ?_
      refine XQ.then ?_
      refine XQ.then ?_
      refine XQ.here ?_
      refine NQ.block ?_
      refine NQ.then ?_
      refine CW.reg ?_
      refine WL.pure rfl rfl rfl (PV.add rfl rfl (by constructor <;> omega)) ?_
      refine WL.pure rfl rfl rfl (PV.move rfl) ?_
      refine WL.nil ?_
      refine NQ.next (ρ := [(22, _)]) ⟨rfl, rfl, rfl, rfl, rfl, trivial⟩ ?_
      exact ⟨_, ⟨v15, og15, j + 1, rfl, rfl, hU0, osE ho15 (by exact allT_succ (by omega)), (by first | exact hg0_15 | exact OgR.weak hg0_15), bxE hb11 (by first | rfl | (simp_all; done) | (simp_all; omega)), (by first | omega | assumption | (simp_all; done) | (simp_all; omega))⟩, by omega⟩
    try simp only [decide_eq_true_eq, decide_eq_false_iff_not, Bool.not_eq_true', Bool.not_eq_false', Bool.not_eq_eq_eq_not, Bool.not_true, Bool.not_false, Int.not_lt, Int.not_le, Classical.not_not, beq_iff_eq, beq_eq_false_iff_ne] at hc8
    refine CW.exit ?_
    refine XQ.then ?_
    refine XQ.then ?_
    refine XQ.here ?_
    refine NQ.then ?_
    refine CW.seq ?_
    refine CW.seq ?_
    refine CW.reg ?_
    obtain rfl : j = (a0 + 1).toNat := (by omega)
    refine WL.pure rfl rfl rfl ((by first | exact PV.loadA T.ag27 rfl (by first | exact Cells.up (by assumption) hB | exact Bx.cells (by assumption) | assumption) (Ext.refl _) rfl | exact PV.loadP (ds := [_, _]) T.ag27 rfl (by first | exact Cells.up (by assumption) hB | exact Bx.cells (by assumption) | assumption) (Ext.refl _) rfl rfl)) ?_
    refine WL.op rfl (OpK.callR rfl T.cf30 rfl (c_impl_ValidZone (by first | assumption | exact Rd.up (by assumption) hB | exact Osl.rd (by assumption) | exact Osn.rdR (by assumption))) (fun w35 hXw35 => ?_))
    have hB := hB.trans hXw35
    have hb1 := hb1.up hXw35
    have hb2 := hb2.up hXw35
    have hb11 := hb11.up hXw35
    have ho13 := ho13.up hXw35
    refine WL.pure rfl rfl rfl (PV.not rfl) ?_
    refine WL.nilS ?_
    refine CW.cond rfl (fun hc13 => ?_) (fun hc13 => ?_)
    · skip
      try simp only [decide_eq_true_eq, decide_eq_false_iff_not, Bool.not_eq_true', Bool.not_eq_false', Bool.not_eq_eq_eq_not, Bool.not_true, Bool.not_false, Int.not_lt, Int.not_le, Classical.not_not, beq_iff_eq, beq_eq_false_iff_ne] at hc13
      refine CW.seq ?_
      refine CW.reg ?_
      refine WL.pure rfl rfl rfl (PV.build (ks := []) (os := []) (css := []) (ds := [_, _]) T.bu27 rfl rfl trivial rfl) ?_
      refine WL.op rfl (OpK.storeA T.sz27 rfl rfl rfl rfl (by simp [Value.oneCell'] <;> first | done | (repeat' apply And.intro) <;> first | rfl | exact Osl.oneCell (by assumption) | exact Osn.oneCell (by assumption) | exact Rd.oneCell (by assumption) | assumption) hb2 (fun w36 hXw36 hb2 => ?_))
      have hB := hB.updL hXw36 hl2
      have hb1 := hb1.updD hXw36 hd1_2
      have hb11 := hb11.updD hXw36 (Dj.symm hd2_11)
      have ho13 := ho13.updD hXw36 (Dj.symm hd2_13)
      refine WL.pure rfl rfl rfl (PV.assign rfl) ?_
      refine WL.nilS ?_
      refine CW.ret ?_
      refine RQ.then ?_
      refine RQ.rc1 T.ag27 rfl (by first | exact Cells.up (by assumption) hB | exact Bx.cells (by assumption) | assumption) rfl rfl ?_
      refine ⟨hB, (.slice none 0 0), none, ?_, osE (Osl.nil _ _) ?_, Lo.nl _⟩
      · skip
        first | (exact tE2 (by rw [onI_no (by first | exact tightB_n1 (by assumption) | exact tightB_n2 (by unfold tightL; assumption))]) (bE (Bool.eq_false_iff.2 (by first | exact tightB_n1 (by assumption) | exact tightB_n2 (by unfold tightL; assumption))).symm)) | (exact tE2 (by rw [onI_no (by first | exact tightB_n1 (by assumption) | exact tightB_n2 (by unfold tightL; assumption))]; rfl) (bE (Bool.eq_false_iff.2 (by first | exact tightB_n1 (by assumption) | exact tightB_n2 (by unfold tightL; assumption))).symm)) | (exact tE2 (by rw [onI_yes (tightB_yes (by assumption) (by unfold tightL; assumption))]) (bE (tightB_yes (by assumption) (by unfold tightL; assumption)).symm)) | (exact tE2 (by rw [onI_yes (tightB_yes (by assumption) (by unfold tightL; assumption))]; rfl) (bE (tightB_yes (by assumption) (by unfold tightL; assumption)).symm))
      · skip
        first | (rw [onT_no (by first | exact tightB_n1 (by assumption) | exact tightB_n2 (by unfold tightL; assumption))]; done) | (rw [onT_yes (tightB_yes (by assumption) (by unfold tightL; assumption))]; first | done | rfl)
    try simp only [decide_eq_true_eq, decide_eq_false_iff_not, Bool.not_eq_true', Bool.not_eq_false', Bool.not_eq_eq_eq_not, Bool.not_true, Bool.not_false, Int.not_lt, Int.not_le, Classical.not_not, beq_iff_eq, beq_eq_false_iff_ne] at hc13
    refine CW.skipS ?_
    refine CW.seq ?_
    refine CW.reg ?_
    refine WL.pure rfl rfl rfl ((by first | exact PV.loadA T.ag27 rfl (by first | exact Cells.up (by assumption) hB | exact Bx.cells (by assumption) | assumption) (Ext.refl _) rfl | exact PV.loadP (ds := [_, _]) T.ag27 rfl (by first | exact Cells.up (by assumption) hB | exact Bx.cells (by assumption) | assumption) (Ext.refl _) rfl rfl)) ?_
    refine WL.op rfl (OpK.storeA T.sz27 rfl rfl rfl rfl (by simp [Value.oneCell'] <;> first | done | (repeat' apply And.intro) <;> first | rfl | exact Osl.oneCell (by assumption) | exact Osn.oneCell (by assumption) | exact Rd.oneCell (by assumption) | assumption) hb2 (fun w37 hXw37 hb2 => ?_))
    have hB := hB.updL hXw37 hl2
    have hb1 := hb1.updD hXw37 hd1_2
    have hb11 := hb11.updD hXw37 (Dj.symm hd2_11)
    have ho13 := ho13.updD hXw37 (Dj.symm hd2_13)
    refine WL.pure rfl rfl rfl (PV.assign rfl) ?_
    refine WL.nilS ?_
    refine CW.ret ?_
    refine RQ.rc1 T.ag27 rfl (by first | exact Cells.up (by assumption) hB | exact Bx.cells (by assumption) | assumption) rfl rfl ?_
    refine ⟨hB, v13, og13, ?_, osE ho13 ?_, hl13⟩
    · skip
      first | (exact tE2 (by rw [onI_no (by first | exact tightB_n1 (by assumption) | exact tightB_n2 (by unfold tightL; assumption))]) (bE (Bool.eq_false_iff.2 (by first | exact tightB_n1 (by assumption) | exact tightB_n2 (by unfold tightL; assumption))).symm)) | (exact tE2 (by rw [onI_no (by first | exact tightB_n1 (by assumption) | exact tightB_n2 (by unfold tightL; assumption))]; rfl) (bE (Bool.eq_false_iff.2 (by first | exact tightB_n1 (by assumption) | exact tightB_n2 (by unfold tightL; assumption))).symm)) | (exact tE2 (by rw [onI_yes (tightB_yes (by assumption) (by unfold tightL; assumption))]) (bE (tightB_yes (by assumption) (by unfold tightL; assumption)).symm)) | (exact tE2 (by rw [onI_yes (tightB_yes (by assumption) (by unfold tightL; assumption))]; rfl) (bE (tightB_yes (by assumption) (by unfold tightL; assumption)).symm))
    · skip
      first | (rw [onT_no (by first | exact tightB_n1 (by assumption) | exact tightB_n2 (by unfold tightL; assumption))]; done) | (rw [onT_yes (tightB_yes (by assumption) (by unfold tightL; assumption))]; first | done | rfl)
theorem c_impl_IsPartZone {w : World} {a0 : Int} {va1 : Value} {xa1 : List Int} {y0 : Int} {vy1 : Value} {xy1 : List Int}  (ha1 : Rd EI w va1 xa1) (hy1 : Rd EI w vy1 xy1) : Calls Try.prog 53 #[.agg #[.int .i64 a0, va1], .agg #[.int .i64 y0, vy1]] w (Ret1 (RQt (.tuple #[.bool (decide (canP a0 xa1 y0 xy1 ∧ partV (onT (tightB a0 xa1) (tightL a0 xa1)) xy1)), .bool (decide (canP a0 xa1 y0 xy1))]) w)) := by
  have hB : Ext w w := Ext.refl w
  have hla1 := ha1.leI; have hly1 := hy1.leI
  refine callsOf (vs := [_, _]) Try.func53 rfl Try.ntmps53 rfl rfl ?_
  refine CW.seq ?_
  refine CW.reg ?_
  refine WL.op rfl (OpK.box rfl rfl (by first | rfl | exact Rd.cells1 (by assumption) | exact Osl.cells1 (by assumption) | exact Osn.cells1 (by assumption)) (fun b1 w1 hXw1 hb1 hge1 => ?_))
  have hl1 := Lo.new hB hge1
  have hB := hB.trans hXw1
  refine WL.op rfl (OpK.box rfl rfl (by first | rfl | exact Rd.cells1 (by assumption) | exact Osl.cells1 (by assumption) | exact Osn.cells1 (by assumption)) (fun b2 w2 hXw2 hb2 hge2 => ?_))
  have hl2 := Lo.new hB hge2
  have hd1_2 := Dj.new hb1.ltO hge2
  have hB := hB.trans hXw2
  have hb1 := hb1.up hXw2
  refine WL.pure rfl rfl rfl (PV.assign rfl) ?_
  refine WL.pure rfl rfl rfl (PV.assign rfl) ?_
  refine WL.nilS ?_
  refine CW.seq ?_
  refine CW.reg ?_
  refine WL.pure rfl rfl rfl ((by first | exact PV.loadA T.ag27 rfl (by first | exact Cells.up (by assumption) hB | exact Bx.cells (by assumption) | assumption) (Ext.refl _) rfl | exact PV.loadP (ds := [_, _]) T.ag27 rfl (by first | exact Cells.up (by assumption) hB | exact Bx.cells (by assumption) | assumption) (Ext.refl _) rfl rfl)) ?_
  refine WL.op rfl (OpK.call rfl T.cf55 rfl (c_impl_TightZone (by first | assumption | exact Rd.up (by assumption) hB | exact Osl.rd (by assumption) | exact Osn.rdR (by assumption))) (fun rv1 w3 hR => ?_))
  obtain ⟨hXw3, v3, og3, rfl, ho3, hq3⟩ := hR
  have hl3 := Lo.up hq3 hB
  have hd1_3 := Dj.lo hb1.ltO hq3
  have hd2_3 := Dj.lo hb2.ltO hq3
  have hB := hB.trans hXw3
  have hb1 := hb1.up hXw3
  have hb2 := hb2.up hXw3
  refine WL.pure rfl rfl rfl (PV.move rfl) ?_
  refine WL.pure rfl rfl rfl (PV.extract rfl rfl) ?_
  refine WL.pure rfl rfl rfl (PV.extract rfl rfl) ?_
  refine WL.op rfl (OpK.alloc rfl T.zv27 rfl (fun b4 w4 hXw4 hb4 hge4 => ?_))
  have hl4 := Lo.new hB hge4
  have hd1_4 := Dj.new hb1.ltO hge4
  have hd2_4 := Dj.new hb2.ltO hge4
  have hd3_4 := Dj.new ho3.ltO hge4
  have hB := hB.trans hXw4
  have hb1 := hb1.up hXw4
  have hb2 := hb2.up hXw4
  have ho3 := ho3.up hXw4
  refine WL.op rfl (OpK.storeA T.sz27 rfl rfl rfl rfl (by simp [Value.oneCell'] <;> first | done | (repeat' apply And.intro) <;> first | rfl | exact Osl.oneCell (by assumption) | exact Osn.oneCell (by assumption) | exact Rd.oneCell (by assumption) | assumption) hb4 (fun w5 hXw5 hb4 => ?_))
  have hB := hB.updL hXw5 hl4
  have hb1 := hb1.updD hXw5 hd1_4
  have hb2 := hb2.updD hXw5 hd2_4
  have ho3 := ho3.updD hXw5 hd3_4
  refine WL.pure rfl rfl rfl (PV.assign rfl) ?_
  refine WL.nilS ?_
  refine CW.seq ?_
  refine CW.seq ?_
  refine CW.reg ?_
  refine WL.pure rfl rfl rfl (PV.move rfl) ?_
  refine WL.pure rfl rfl rfl (PV.not rfl) ?_
  refine WL.pure rfl rfl rfl (PV.move rfl) ?_
  refine WL.split (t := 17) rfl (fun hc1 => ?_) (fun hc1 => ?_)
  · skip
    try simp only [decide_eq_true_eq, decide_eq_false_iff_not, Bool.not_eq_true', Bool.not_eq_false', Bool.not_eq_eq_eq_not, Bool.not_true, Bool.not_false, Int.not_lt, Int.not_le, Classical.not_not, beq_iff_eq, beq_eq_false_iff_ne] at hc1
    refine WL.skip rfl rfl rfl rfl rfl ?_
    refine WL.skip rfl rfl rfl rfl rfl ?_
    refine WL.skip rfl rfl rfl rfl rfl ?_
    refine WL.pure rfl rfl rfl (PV.pickT rfl rfl) ?_
    refine WL.pure rfl rfl rfl (PV.move rfl) ?_
    refine WL.skip rfl rfl rfl rfl rfl ?_
    refine WL.skip rfl rfl rfl rfl rfl ?_
    refine WL.skip rfl rfl rfl rfl rfl ?_
    refine WL.skip rfl rfl rfl rfl rfl ?_
    refine WL.skip rfl rfl rfl rfl rfl ?_
    refine WL.pure rfl rfl rfl (PV.pickT rfl rfl) ?_
    refine WL.nilS ?_
    refine CW.condT rfl ?_
    refine CW.seq ?_
    refine CW.reg ?_
    refine WL.pure rfl rfl rfl (PV.assign rfl) ?_
    refine WL.pure rfl rfl rfl (PV.assign rfl) ?_
    refine WL.nilS ?_
    refine CW.ret ?_
    refine RQ.then ?_
    refine RQ.r2 rfl rfl ?_
    refine ⟨?_, hB⟩
    exact tE2 (bF (fun h => absurd h.1 (by rintro ⟨h1, h2, h3⟩; first | omega | exact absurd h2 (by assumption) | exact absurd h1 (by assumption) | exact absurd (Eq.trans (Eq.symm h1) (by assumption : tightB a0 xa1 = false)) (by decide)))) (bF (by rintro ⟨h1, h2, h3⟩; first | omega | exact absurd h2 (by assumption) | exact absurd h1 (by assumption) | exact absurd (Eq.trans (Eq.symm h1) (by assumption : tightB a0 xa1 = false)) (by decide)))
  try simp only [decide_eq_true_eq, decide_eq_false_iff_not, Bool.not_eq_true', Bool.not_eq_false', Bool.not_eq_eq_eq_not, Bool.not_true, Bool.not_false, Int.not_lt, Int.not_le, Classical.not_not, beq_iff_eq, beq_eq_false_iff_ne] at hc1
  refine WL.pureG rfl rfl rfl rfl rfl ((by first | exact PV.loadA T.ag27 rfl (by first | exact Cells.up (by assumption) hB | exact Bx.cells (by assumption) | assumption) (Ext.refl _) rfl | exact PV.loadP (ds := [_, _]) T.ag27 rfl (by first | exact Cells.up (by assumption) hB | exact Bx.cells (by assumption) | assumption) (Ext.refl _) rfl rfl)) ?_
  refine WL.opG rfl rfl rfl (OpK.callR rfl T.cf30 rfl (c_impl_ValidZone (by first | assumption | exact Rd.up (by assumption) hB | exact Osl.rd (by assumption) | exact Osn.rdR (by assumption))) (fun w6 hXw6 => ?_))
  have hB := hB.trans hXw6
  have hb1 := hb1.up hXw6
  have hb2 := hb2.up hXw6
  have ho3 := ho3.up hXw6
  have hb4 := hb4.up hXw6
  refine WL.pureG rfl rfl rfl rfl rfl (PV.not rfl) ?_
  refine WL.pure rfl rfl rfl (PV.pickF rfl rfl) ?_
  refine WL.pure rfl rfl rfl (PV.move rfl) ?_
  refine WL.split (t := 22) rfl (fun hc2 => ?_) (fun hc2 => ?_)
  · skip
    try simp only [decide_eq_true_eq, decide_eq_false_iff_not, Bool.not_eq_true', Bool.not_eq_false', Bool.not_eq_eq_eq_not, Bool.not_true, Bool.not_false, Int.not_lt, Int.not_le, Classical.not_not, beq_iff_eq, beq_eq_false_iff_ne] at hc2
    refine WL.skip rfl rfl rfl rfl rfl ?_
    refine WL.skip rfl rfl rfl rfl rfl ?_
    refine WL.skip rfl rfl rfl rfl rfl ?_
    refine WL.skip rfl rfl rfl rfl rfl ?_
    refine WL.skip rfl rfl rfl rfl rfl ?_
    refine WL.pure rfl rfl rfl (PV.pickT rfl rfl) ?_
    refine WL.nilS ?_
    refine CW.condT rfl ?_
    refine CW.seq ?_
    refine CW.reg ?_
    refine WL.pure rfl rfl rfl (PV.assign rfl) ?_
    refine WL.pure rfl rfl rfl (PV.assign rfl) ?_
    refine WL.nilS ?_
    refine CW.ret ?_
    refine RQ.then ?_
    refine RQ.r2 rfl rfl ?_
    refine ⟨?_, hB⟩
    exact tE2 (bF (fun h => absurd h.1 (by rintro ⟨h1, h2, h3⟩; first | omega | exact absurd h2 (by assumption) | exact absurd h1 (by assumption) | exact absurd (Eq.trans (Eq.symm h1) (by assumption : tightB a0 xa1 = false)) (by decide)))) (bF (by rintro ⟨h1, h2, h3⟩; first | omega | exact absurd h2 (by assumption) | exact absurd h1 (by assumption) | exact absurd (Eq.trans (Eq.symm h1) (by assumption : tightB a0 xa1 = false)) (by decide)))
  try simp only [decide_eq_true_eq, decide_eq_false_iff_not, Bool.not_eq_true', Bool.not_eq_false', Bool.not_eq_eq_eq_not, Bool.not_true, Bool.not_false, Int.not_lt, Int.not_le, Classical.not_not, beq_iff_eq, beq_eq_false_iff_ne] at hc2
  refine WL.pureG rfl rfl rfl rfl rfl ((by first | exact PV.fieldAddr T.fl27_0 rfl (by first | assumption | exact Bx.cells (by assumption)) | exact PV.fieldAddrP T.fl27_0 rfl rfl)) ?_
  refine WL.pureG rfl rfl rfl rfl rfl ((by first | exact PV.load0 T.na2 rfl (by first | exact Cells.up (by assumption) hB | exact Bx.cells (by assumption) | assumption) (Ext.refl _) rfl | exact PV.load1 T.na2 rfl (by first | exact Cells.up (by assumption) hB | exact Bx.cells (by assumption) | assumption) (Ext.refl _) rfl)) ?_
  refine WL.pureG rfl rfl rfl rfl rfl ((by first | exact PV.fieldAddr T.fl27_0 rfl (by first | assumption | exact Bx.cells (by assumption)) | exact PV.fieldAddrP T.fl27_0 rfl rfl)) ?_
  refine WL.pureG rfl rfl rfl rfl rfl ((by first | exact PV.load0 T.na2 rfl (by first | exact Cells.up (by assumption) hB | exact Bx.cells (by assumption) | assumption) (Ext.refl _) rfl | exact PV.load1 T.na2 rfl (by first | exact Cells.up (by assumption) hB | exact Bx.cells (by assumption) | assumption) (Ext.refl _) rfl)) ?_
  refine WL.pureG rfl rfl rfl rfl rfl (PV.neq rfl rfl) ?_
  refine WL.pure rfl rfl rfl (PV.pickF rfl rfl) ?_
  refine WL.nilS ?_
  refine CW.cond rfl (fun hc3 => ?_) (fun hc3 => ?_)
  · skip
    try simp only [decide_eq_true_eq, decide_eq_false_iff_not, Bool.not_eq_true', Bool.not_eq_false', Bool.not_eq_eq_eq_not, Bool.not_true, Bool.not_false, Int.not_lt, Int.not_le, Classical.not_not, beq_iff_eq, beq_eq_false_iff_ne] at hc3
    refine CW.seq ?_
    refine CW.reg ?_
    refine WL.pure rfl rfl rfl (PV.assign rfl) ?_
    refine WL.pure rfl rfl rfl (PV.assign rfl) ?_
    refine WL.nilS ?_
    refine CW.ret ?_
    refine RQ.then ?_
    refine RQ.r2 rfl rfl ?_
    refine ⟨?_, hB⟩
    exact tE2 (bF (fun h => absurd h.1 (by rintro ⟨h1, h2, h3⟩; first | omega | exact absurd h2 (by assumption) | exact absurd h1 (by assumption) | exact absurd (Eq.trans (Eq.symm h1) (by assumption : tightB a0 xa1 = false)) (by decide)))) (bF (by rintro ⟨h1, h2, h3⟩; first | omega | exact absurd h2 (by assumption) | exact absurd h1 (by assumption) | exact absurd (Eq.trans (Eq.symm h1) (by assumption : tightB a0 xa1 = false)) (by decide)))
  try simp only [decide_eq_true_eq, decide_eq_false_iff_not, Bool.not_eq_true', Bool.not_eq_false', Bool.not_eq_eq_eq_not, Bool.not_true, Bool.not_false, Int.not_lt, Int.not_le, Classical.not_not, beq_iff_eq, beq_eq_false_iff_ne] at hc3
  refine CW.skipS ?_
  refine CW.seq ?_
  refine CW.seq ?_
  refine CW.reg ?_
  have hcp : canP a0 xa1 y0 xy1 := ⟨by assumption, by assumption, by omega⟩; have hpl := canP_len hcp.1 hcp.2.1 hcp.2.2; have hot := onT_tight_len a0 xa1
  refine WL.pure rfl rfl rfl ((by first | exact PV.fieldAddr T.fl27_1 rfl (by first | assumption | exact Bx.cells (by assumption)) | exact PV.fieldAddrP T.fl27_1 rfl rfl)) ?_
  refine WL.pure rfl rfl rfl ((by first | exact PV.load0 T.na22 rfl (by first | exact Cells.up (by assumption) hB | exact Bx.cells (by assumption) | assumption) (Ext.refl _) rfl | exact PV.load1 T.na22 rfl (by first | exact Cells.up (by assumption) hB | exact Bx.cells (by assumption) | assumption) (Ext.refl _) rfl)) ?_
  refine WL.pure rfl rfl rfl ((PV.lenOs rfl ho3 T.sl22)) ?_
  refine WL.pure rfl rfl rfl (PV.move rfl) ?_
  refine WL.nilS ?_
  refine CW.block ?_
  refine CW.loop (σk := [(3, _), (30, _), (31, _)]) (fun ρ wz m => ∃ (k : Nat), ρ = [(32, .int .i64 (k : Nat))] ∧ m = (onT (tightB a0 xa1) (tightL a0 xa1)).length - k ∧ UpdL [] w6 wz ∧ (k ≤ (onT (tightB a0 xa1) (tightL a0 xa1)).length) ∧ (true = true ↔ ∀ q : Nat, q < k → (onT (tightB a0 xa1) (tightL a0 xa1)).getD q 0 ≤ xy1.getD q 0)) (ρ₀ := [(32, _)]) (m₀ := _) ⟨rfl, rfl, rfl, rfl, trivial⟩ ⟨0, rfl, rfl, (UpdL.refl _ _), (by first | omega | rfl | (simp; done) | assumption | (simp_all; done)), (by exact partV_zero True _ _)⟩ ?_
  rintro _ wl1 _ ⟨k, rfl, rfl, hU0, hk, hz⟩
  have hb1 := hb1.loop hU0 trivial
  have hb2 := hb2.loop hU0 trivial
  have ho3 := ho3.loop hU0 trivial
  have hb4 := hb4.loop hU0 trivial
  have hB := hB.loop hU0 trivial
  refine CW.seq ?_
  refine CW.reg ?_
  refine WL.pure rfl rfl rfl (PV.lss rfl rfl) ?_
  refine WL.nilS ?_
  refine CW.seq ?_
  refine CW.cond rfl (fun hc4 => ?_) (fun hc4 => ?_)
  · skip
    try simp only [decide_eq_true_eq, decide_eq_false_iff_not, Bool.not_eq_true', Bool.not_eq_false', Bool.not_eq_eq_eq_not, Bool.not_true, Bool.not_false, Int.not_lt, Int.not_le, Classical.not_not, beq_iff_eq, beq_eq_false_iff_ne] at hc4
    refine CW.skipS ?_
    refine CW.seq ?_
    refine CW.block ?_
    refine CW.seq ?_
    refine CW.reg ?_
    refine WL.pure rfl rfl rfl (PV.move rfl) ?_
    first
      | refine WL.atO (x := .tmp 30) (y := .tmp 32) (f := VI) (0) rfl rfl ho3 (by first | omega | (simp; omega) | (simp_all; omega)) (fun p1 hpp1 hcp1 => ?_)
      | refine WL.atOZ (x := .tmp 30) (y := .tmp 32) (f := VI) (0) rfl rfl ho3 (by first | omega | (simp; omega) | (simp_all; omega)) (fun p1 hpp1 hzp1 hcp1 => ?_)
    refine WL.pure rfl rfl rfl ((by first | exact PV.indexAddr hpp1 rfl rfl T.sl22 | exact PV.indexAddr hpp1 rfl (by rw [← hzp1]; rfl) T.sl22)) ?_
    refine WL.pure rfl rfl rfl ((by first | exact PV.load0 T.na2 rfl (by first | exact Cells.up (by assumption) hB | exact Bx.cells (by assumption) | assumption) (Ext.refl _) rfl | exact PV.load1 T.na2 rfl (by first | exact Cells.up (by assumption) hB | exact Bx.cells (by assumption) | assumption) (Ext.refl _) rfl)) ?_
    refine WL.pure rfl rfl rfl (PV.assign rfl) ?_
    refine WL.pure rfl rfl rfl (PV.assign rfl) ?_
    refine WL.nilS ?_
    refine CW.seq ?_
    refine CW.reg ?_
    refine WL.pure rfl rfl rfl (PV.move rfl) ?_
    refine WL.pure rfl rfl rfl ((by first | exact PV.fieldAddr T.fl27_1 rfl (by first | assumption | exact Bx.cells (by assumption)) | exact PV.fieldAddrP T.fl27_1 rfl rfl)) ?_
    refine WL.pure rfl rfl rfl ((by first | exact PV.load0 T.na22 rfl (by first | exact Cells.up (by assumption) hB | exact Bx.cells (by assumption) | assumption) (Ext.refl _) rfl | exact PV.load1 T.na22 rfl (by first | exact Cells.up (by assumption) hB | exact Bx.cells (by assumption) | assumption) (Ext.refl _) rfl)) ?_
    refine WL.pure rfl rfl rfl (PV.move rfl) ?_
    first
      | refine WL.at (x := .tmp 39) (y := .tmp 40) (E := EI) (0) rfl rfl (by assumption) (by first | omega | (simp; omega) | (simp_all; omega)) (fun p2 csp2 hpp2 hcp2 hq => ?_)
      | refine WL.atZ (x := .tmp 39) (y := .tmp 40) (E := EI) (0) rfl rfl (by assumption) (by first | omega | (simp; omega) | (simp_all; omega)) (fun p2 csp2 hpp2 hzp2 hcp2 hq => ?_)
    cases hq
    refine WL.pure rfl rfl rfl ((by first | exact PV.indexAddr hpp2 rfl rfl T.sl22 | exact PV.indexAddr hpp2 rfl (by rw [← hzp2]; rfl) T.sl22)) ?_
    refine WL.pure rfl rfl rfl ((by first | exact PV.load0 T.na2 rfl (by first | exact Cells.up (by assumption) hB | exact Bx.cells (by assumption) | assumption) (Ext.refl _) rfl | exact PV.load1 T.na2 rfl (by first | exact Cells.up (by assumption) hB | exact Bx.cells (by assumption) | assumption) (Ext.refl _) rfl)) ?_
    refine WL.pure rfl rfl rfl (PV.gtr rfl rfl) ?_
    refine WL.nilS ?_
    refine CW.cond rfl (fun hc5 => ?_) (fun hc5 => ?_)
    · skip
      try simp only [decide_eq_true_eq, decide_eq_false_iff_not, Bool.not_eq_true', Bool.not_eq_false', Bool.not_eq_eq_eq_not, Bool.not_true, Bool.not_false, Int.not_lt, Int.not_le, Classical.not_not, beq_iff_eq, beq_eq_false_iff_ne] at hc5
      refine CW.seq ?_
      refine CW.reg ?_
      refine WL.pure rfl rfl rfl (PV.assign rfl) ?_
      refine WL.pure rfl rfl rfl (PV.assign rfl) ?_
      refine WL.nilS ?_
      refine CW.ret ?_
      refine RQ.block ?_
      refine RQ.then ?_
      refine RQ.then ?_
      refine RQ.block ?_
      refine RQ.then ?_
      refine RQ.r2 rfl rfl ?_
      refine ⟨?_, hB⟩
      exact tE2 (bF (fun h => by have h9 := h.2 k (by omega); omega)) (bT hcp)
    try simp only [decide_eq_true_eq, decide_eq_false_iff_not, Bool.not_eq_true', Bool.not_eq_false', Bool.not_eq_eq_eq_not, Bool.not_true, Bool.not_false, Int.not_lt, Int.not_le, Classical.not_not, beq_iff_eq, beq_eq_false_iff_ne] at hc5
    refine CW.skip ?_
    refine NQ.block ?_
    refine NQ.then ?_
    refine CW.reg ?_
    refine WL.pure rfl rfl rfl (PV.add rfl rfl (by constructor <;> omega)) ?_
    refine WL.pure rfl rfl rfl (PV.move rfl) ?_
    refine WL.nil ?_
    refine NQ.next (ρ := [(32, _)]) ⟨rfl, rfl, rfl, rfl, trivial⟩ ?_
    exact ⟨_, ⟨k + 1, rfl, rfl, hU0, (by first | omega | assumption | (simp_all; done) | (simp_all; omega)), (by exact partV_yes hz (by omega))⟩, by omega⟩
  try simp only [decide_eq_true_eq, decide_eq_false_iff_not, Bool.not_eq_true', Bool.not_eq_false', Bool.not_eq_eq_eq_not, Bool.not_true, Bool.not_false, Int.not_lt, Int.not_le, Classical.not_not, beq_iff_eq, beq_eq_false_iff_ne] at hc4
  refine CW.exit ?_
  refine XQ.then ?_
  refine XQ.then ?_
  refine XQ.here ?_
  refine NQ.then ?_
  refine CW.seq ?_
  refine CW.reg ?_
  refine WL.pure rfl rfl rfl (PV.assign rfl) ?_
  refine WL.pure rfl rfl rfl (PV.assign rfl) ?_
  refine WL.nilS ?_
  refine CW.ret ?_
  refine RQ.r2 rfl rfl ?_
  refine ⟨?_, hB⟩
  exact tE2 (bT ⟨hcp, fun q hq => hz.1 rfl q (by omega)⟩) (bT hcp)
theorem c_laws_eqInt64S {w : World} {va vb : Value} {xs ys : List Int} (ha : Rd EI w va xs) (hb : Rd EI w vb ys) : Calls Try.prog 36 #[va, vb] w (Ret1 (RQt (.bool (decide (xs = ys))) w)) := by
  have hB : Ext w w := Ext.refl w
  have hla := ha.leI; have hlb := hb.leI
  refine callsOf (vs := [_, _]) Try.func36 rfl Try.ntmps36 rfl rfl ?_
  refine CW.seq ?_
  refine CW.reg ?_
  refine WL.pure rfl rfl rfl (PV.assign rfl) ?_
  refine WL.nilS ?_
  refine CW.seq ?_
  refine CW.seq ?_
  refine CW.reg ?_
  refine WL.pure rfl rfl rfl (PV.move rfl) ?_
  refine WL.pure rfl rfl rfl ((by first | exact PV.len rfl (by assumption) T.sl22 | exact PV.lenOs rfl (by assumption) T.sl22)) ?_
  refine WL.pure rfl rfl rfl (PV.move rfl) ?_
  refine WL.pure rfl rfl rfl ((by first | exact PV.len rfl (by assumption) T.sl22 | exact PV.lenOs rfl (by assumption) T.sl22)) ?_
  refine WL.pure rfl rfl rfl (PV.neq rfl rfl) ?_
  refine WL.nilS ?_
  refine CW.cond rfl (fun hc1 => ?_) (fun hc1 => ?_)
  · skip
    try simp only [decide_eq_true_eq, decide_eq_false_iff_not, Bool.not_eq_true', Bool.not_eq_false', Bool.not_eq_eq_eq_not, Bool.not_true, Bool.not_false, Int.not_lt, Int.not_le, Classical.not_not, beq_iff_eq, beq_eq_false_iff_ne] at hc1
    refine CW.seq ?_
    refine CW.reg ?_
    refine WL.pure rfl rfl rfl (PV.assign rfl) ?_
    refine WL.nilS ?_
    refine CW.ret ?_
    refine RQ.then ?_
    refine RQ.r1 rfl ?_
    refine ⟨?_, hB⟩
    first | exact bT (eq_of_takes (by omega) (by omega) he) | exact bF (by rintro rfl; simp_all)
  try simp only [decide_eq_true_eq, decide_eq_false_iff_not, Bool.not_eq_true', Bool.not_eq_false', Bool.not_eq_eq_eq_not, Bool.not_true, Bool.not_false, Int.not_lt, Int.not_le, Classical.not_not, beq_iff_eq, beq_eq_false_iff_ne] at hc1
  refine CW.skipS ?_
  refine CW.seq ?_
  refine CW.seq ?_
  refine CW.reg ?_
  refine WL.pure rfl rfl rfl (PV.assign rfl) ?_
  refine WL.nilS ?_
  refine CW.block ?_
  refine CW.loop (σk := [(0, _), (1, _)]) (fun ρ wz m => ∃ (k : Nat), ρ = [(5, .int .i64 (k : Nat))] ∧ m = xs.length - k ∧ UpdL [] w wz ∧ (k ≤ xs.length) ∧ (xs.take k = ys.take k)) (ρ₀ := [(5, _)]) (m₀ := _) ⟨rfl, rfl, rfl, trivial⟩ ⟨0, rfl, rfl, (UpdL.refl _ _), (by first | omega | rfl | (simp; done) | assumption | (simp_all; done)), (by first | omega | rfl | (simp; done) | assumption | (simp_all; done))⟩ ?_
  rintro _ wl1 _ ⟨k, rfl, rfl, hU0, hk, he⟩
  have hB := hB.loop hU0 trivial
  refine CW.seq ?_
  refine CW.seq ?_
  refine CW.reg ?_
  refine WL.pure rfl rfl rfl (PV.move rfl) ?_
  refine WL.pure rfl rfl rfl (PV.move rfl) ?_
  refine WL.pure rfl rfl rfl ((by first | exact PV.len rfl (by assumption) T.sl22 | exact PV.lenOs rfl (by assumption) T.sl22)) ?_
  refine WL.pure rfl rfl rfl (PV.lss rfl rfl) ?_
  refine WL.nilS ?_
  refine CW.cond rfl (fun hc2 => ?_) (fun hc2 => ?_)
  · skip
    try simp only [decide_eq_true_eq, decide_eq_false_iff_not, Bool.not_eq_true', Bool.not_eq_false', Bool.not_eq_eq_eq_not, Bool.not_true, Bool.not_false, Int.not_lt, Int.not_le, Classical.not_not, beq_iff_eq, beq_eq_false_iff_ne] at hc2
    refine CW.skipS ?_
    refine CW.seq ?_
    refine CW.block ?_
    refine CW.seq ?_
    refine CW.draw T.mixed (by kernel_rfl) (fun _ _ _ _ _ h => h) (fun w8 w9 => Upd none w8 w9) 9 (.take 0 (.take 1 (.take 2 (.take 3 (.take 4 (.take 5 (.take 6 (.take 7 (.take 8 .done))))))))) (by kernel_rfl) (fun w1 hXd => ?_)
    have hB := hB.trans hXd
    have hU0 := hU0.ext hXd
    have hBr := hB
    have hS : Upd none w1 w1 := Ext.toUpd (Ext.refl _)
    refine HP.take rfl rfl rfl rfl hS (fun wS hS1 => PV.move rfl) ?_
    refine HP.take rfl rfl rfl rfl hS (fun wS hS1 => PV.move rfl) ?_
    first
      | refine HP.at (x := .tmp 17) (y := .tmp 18) (E := EI) (0) rfl rfl (by assumption) (by first | omega | (simp; omega) | (simp_all; omega)) (fun p1 csp1 hpp1 hcp1 hq => ?_)
      | refine HP.atZ (x := .tmp 17) (y := .tmp 18) (E := EI) (0) rfl rfl (by assumption) (by first | omega | (simp; omega) | (simp_all; omega)) (fun p1 csp1 hpp1 hzp1 hcp1 hq => ?_)
    cases hq
    refine HP.take rfl rfl rfl rfl hS (fun wS hS1 => (by first | exact PV.indexAddr hpp1 rfl rfl T.sl22 | exact PV.indexAddr hpp1 rfl (by rw [← hzp1]; rfl) T.sl22)) ?_
    refine HP.take rfl rfl rfl rfl hS (fun wS hS1 => (by first | exact PV.load0 T.na2 rfl (by first | exact Cells.up (by assumption) (hBr.trans hS1) | exact Bx.cells (Bx.updD (by assumption) hS1 (Dj.nlR _)) | exact Cells.upd (by assumption) hS1 (by simp)) (Ext.refl _) rfl | exact PV.load1 T.na2 rfl (by first | exact Cells.up (by assumption) (hBr.trans hS1) | exact Bx.cells (Bx.updD (by assumption) hS1 (Dj.nlR _)) | exact Cells.upd (by assumption) hS1 (by simp)) (Ext.refl _) rfl)) ?_
    refine HP.take rfl rfl rfl rfl hS (fun wS hS1 => PV.move rfl) ?_
    refine HP.take rfl rfl rfl rfl hS (fun wS hS1 => PV.move rfl) ?_
    first
      | refine HP.at (x := .tmp 21) (y := .tmp 22) (E := EI) (0) rfl rfl (by assumption) (by first | omega | (simp; omega) | (simp_all; omega)) (fun p2 csp2 hpp2 hcp2 hq => ?_)
      | refine HP.atZ (x := .tmp 21) (y := .tmp 22) (E := EI) (0) rfl rfl (by assumption) (by first | omega | (simp; omega) | (simp_all; omega)) (fun p2 csp2 hpp2 hzp2 hcp2 hq => ?_)
    cases hq
    refine HP.take rfl rfl rfl rfl hS (fun wS hS1 => (by first | exact PV.indexAddr hpp2 rfl rfl T.sl22 | exact PV.indexAddr hpp2 rfl (by rw [← hzp2]; rfl) T.sl22)) ?_
    refine HP.take rfl rfl rfl rfl hS (fun wS hS1 => (by first | exact PV.load0 T.na2 rfl (by first | exact Cells.up (by assumption) (hBr.trans hS1) | exact Bx.cells (Bx.updD (by assumption) hS1 (Dj.nlR _)) | exact Cells.upd (by assumption) hS1 (by simp)) (Ext.refl _) rfl | exact PV.load1 T.na2 rfl (by first | exact Cells.up (by assumption) (hBr.trans hS1) | exact Bx.cells (Bx.updD (by assumption) hS1 (Dj.nlR _)) | exact Cells.upd (by assumption) hS1 (by simp)) (Ext.refl _) rfl)) ?_
    refine HP.take rfl rfl rfl rfl hS (fun wS hS1 => PV.neq rfl rfl) ?_
    refine HP.doneS ?_
    refine CW.cond rfl (fun hc3 => ?_) (fun hc3 => ?_)
    · skip
      try simp only [decide_eq_true_eq, decide_eq_false_iff_not, Bool.not_eq_true', Bool.not_eq_false', Bool.not_eq_eq_eq_not, Bool.not_true, Bool.not_false, Int.not_lt, Int.not_le, Classical.not_not, beq_iff_eq, beq_eq_false_iff_ne] at hc3
      refine CW.seq ?_
      refine CW.reg ?_
      refine WL.pure rfl rfl rfl (PV.assign rfl) ?_
      refine WL.nilS ?_
      refine CW.ret ?_
      refine RQ.block ?_
      refine RQ.then ?_
      refine RQ.then ?_
      refine RQ.block ?_
      refine RQ.then ?_
      refine RQ.r1 rfl ?_
      refine ⟨?_, hB⟩
      first | exact bT (eq_of_takes (by omega) (by omega) he) | exact bF (by rintro rfl; simp_all)
    try simp only [decide_eq_true_eq, decide_eq_false_iff_not, Bool.not_eq_true', Bool.not_eq_false', Bool.not_eq_eq_eq_not, Bool.not_true, Bool.not_false, Int.not_lt, Int.not_le, Classical.not_not, beq_iff_eq, beq_eq_false_iff_ne] at hc3
    refine CW.skip ?_
    refine NQ.block ?_
    refine NQ.then ?_
    refine CW.reg ?_
    refine WL.pure rfl rfl rfl (PV.move rfl) ?_
    refine WL.pure rfl rfl rfl (PV.add rfl rfl (by constructor <;> omega)) ?_
    refine WL.pure rfl rfl rfl (PV.assign rfl) ?_
    refine WL.nil ?_
    refine NQ.next (ρ := [(5, _)]) ⟨rfl, rfl, rfl, trivial⟩ ?_
    exact ⟨_, ⟨k + 1, rfl, rfl, hU0, (by first | omega | assumption | (simp_all; done) | (simp_all; omega)), (by exact take_eq_succ (by omega) (by omega) he (by assumption))⟩, by omega⟩
  try simp only [decide_eq_true_eq, decide_eq_false_iff_not, Bool.not_eq_true', Bool.not_eq_false', Bool.not_eq_eq_eq_not, Bool.not_true, Bool.not_false, Int.not_lt, Int.not_le, Classical.not_not, beq_iff_eq, beq_eq_false_iff_ne] at hc2
  refine CW.exit ?_
  refine XQ.then ?_
  refine XQ.then ?_
  refine XQ.here ?_
  refine NQ.then ?_
  refine CW.seq ?_
  refine CW.reg ?_
  refine WL.pure rfl rfl rfl (PV.assign rfl) ?_
  refine WL.nilS ?_
  refine CW.ret ?_
  refine RQ.r1 rfl ?_
  refine ⟨?_, hB⟩
  first | exact bT (eq_of_takes (by omega) (by omega) he) | exact bF (by rintro rfl; simp_all)
theorem c_laws_eqZone {w : World} {a0 : Int} {va1 : Value} {xa1 : List Int} {b0 : Int} {vb1 : Value} {xb1 : List Int}  (ha1 : Rd EI w va1 xa1) (hb1 : Rd EI w vb1 xb1) : Calls Try.prog 19 #[.agg #[.int .i64 a0, va1], .agg #[.int .i64 b0, vb1]] w (Ret1 (RQt (.bool (decide (a0 = b0 ∧ xa1 = xb1))) w)) := by
  have hB : Ext w w := Ext.refl w
  have hla1 := ha1.leI; have hlb1 := hb1.leI
  refine callsOf (vs := [_, _]) Try.func19 rfl Try.ntmps19 rfl rfl ?_
  refine CW.seq ?_
  refine CW.reg ?_
  refine WL.op rfl (OpK.box rfl rfl (by first | rfl | exact Rd.cells1 (by assumption) | exact Osl.cells1 (by assumption) | exact Osn.cells1 (by assumption)) (fun b1 w1 hXw1 hb1 hge1 => ?_))
  have hl1 := Lo.new hB hge1
  have hB := hB.trans hXw1
  refine WL.op rfl (OpK.box rfl rfl (by first | rfl | exact Rd.cells1 (by assumption) | exact Osl.cells1 (by assumption) | exact Osn.cells1 (by assumption)) (fun b2 w2 hXw2 hb2 hge2 => ?_))
  have hl2 := Lo.new hB hge2
  have hd1_2 := Dj.new hb1.ltO hge2
  have hB := hB.trans hXw2
  have hb1 := hb1.up hXw2
  refine WL.pure rfl rfl rfl (PV.assign rfl) ?_
  refine WL.nilS ?_
  refine CW.seq ?_
  refine CW.seq ?_
  refine CW.reg ?_
  refine WL.pure rfl rfl rfl ((by first | exact PV.fieldAddr T.fl27_0 rfl (by first | assumption | exact Bx.cells (by assumption)) | exact PV.fieldAddrP T.fl27_0 rfl rfl)) ?_
  refine WL.pure rfl rfl rfl ((by first | exact PV.load0 T.na2 rfl (by first | exact Cells.up (by assumption) hB | exact Bx.cells (by assumption) | assumption) (Ext.refl _) rfl | exact PV.load1 T.na2 rfl (by first | exact Cells.up (by assumption) hB | exact Bx.cells (by assumption) | assumption) (Ext.refl _) rfl)) ?_
  refine WL.pure rfl rfl rfl ((by first | exact PV.fieldAddr T.fl27_0 rfl (by first | assumption | exact Bx.cells (by assumption)) | exact PV.fieldAddrP T.fl27_0 rfl rfl)) ?_
  refine WL.pure rfl rfl rfl ((by first | exact PV.load0 T.na2 rfl (by first | exact Cells.up (by assumption) hB | exact Bx.cells (by assumption) | assumption) (Ext.refl _) rfl | exact PV.load1 T.na2 rfl (by first | exact Cells.up (by assumption) hB | exact Bx.cells (by assumption) | assumption) (Ext.refl _) rfl)) ?_
  refine WL.pure rfl rfl rfl (PV.neq rfl rfl) ?_
  refine WL.nilS ?_
  refine CW.cond rfl (fun hc1 => ?_) (fun hc1 => ?_)
  · skip
    try simp only [decide_eq_true_eq, decide_eq_false_iff_not, Bool.not_eq_true', Bool.not_eq_false', Bool.not_eq_eq_eq_not, Bool.not_true, Bool.not_false, Int.not_lt, Int.not_le, Classical.not_not, beq_iff_eq, beq_eq_false_iff_ne] at hc1
    refine CW.seq ?_
    refine CW.reg ?_
    refine WL.pure rfl rfl rfl (PV.assign rfl) ?_
    refine WL.nilS ?_
    refine CW.ret ?_
    refine RQ.then ?_
    refine RQ.r1 rfl ?_
    refine ⟨?_, hB⟩
    first | rfl | exact bT (by omega) | exact bF (by omega) | exact bD (by omega) | exact iE (by omega) | (simp_all; done) | (simp_all; omega) | (simp_all; intros; omega)
  try simp only [decide_eq_true_eq, decide_eq_false_iff_not, Bool.not_eq_true', Bool.not_eq_false', Bool.not_eq_eq_eq_not, Bool.not_true, Bool.not_false, Int.not_lt, Int.not_le, Classical.not_not, beq_iff_eq, beq_eq_false_iff_ne] at hc1
  refine CW.skipS ?_
  refine CW.seq ?_
  refine CW.seq ?_
  refine CW.reg ?_
  refine WL.pure rfl rfl rfl ((by first | exact PV.fieldAddr T.fl27_1 rfl (by first | assumption | exact Bx.cells (by assumption)) | exact PV.fieldAddrP T.fl27_1 rfl rfl)) ?_
  refine WL.pure rfl rfl rfl ((by first | exact PV.load0 T.na22 rfl (by first | exact Cells.up (by assumption) hB | exact Bx.cells (by assumption) | assumption) (Ext.refl _) rfl | exact PV.load1 T.na22 rfl (by first | exact Cells.up (by assumption) hB | exact Bx.cells (by assumption) | assumption) (Ext.refl _) rfl)) ?_
  refine WL.pure rfl rfl rfl ((by first | exact PV.fieldAddr T.fl27_1 rfl (by first | assumption | exact Bx.cells (by assumption)) | exact PV.fieldAddrP T.fl27_1 rfl rfl)) ?_
  refine WL.pure rfl rfl rfl ((by first | exact PV.load0 T.na22 rfl (by first | exact Cells.up (by assumption) hB | exact Bx.cells (by assumption) | assumption) (Ext.refl _) rfl | exact PV.load1 T.na22 rfl (by first | exact Cells.up (by assumption) hB | exact Bx.cells (by assumption) | assumption) (Ext.refl _) rfl)) ?_
  refine WL.op rfl (OpK.callR rfl T.cf36 rfl (c_laws_eqInt64S (by first | assumption | exact Rd.up (by assumption) hB | exact Osl.rd (by assumption) | exact Osn.rdR (by assumption)) (by first | assumption | exact Rd.up (by assumption) hB | exact Osl.rd (by assumption) | exact Osn.rdR (by assumption))) (fun w3 hXw3 => ?_))
  have hB := hB.trans hXw3
  have hb1 := hb1.up hXw3
  have hb2 := hb2.up hXw3
  refine WL.pure rfl rfl rfl (PV.not rfl) ?_
  refine WL.nilS ?_
  refine CW.cond rfl (fun hc2 => ?_) (fun hc2 => ?_)
  · skip
    try simp only [decide_eq_true_eq, decide_eq_false_iff_not, Bool.not_eq_true', Bool.not_eq_false', Bool.not_eq_eq_eq_not, Bool.not_true, Bool.not_false, Int.not_lt, Int.not_le, Classical.not_not, beq_iff_eq, beq_eq_false_iff_ne] at hc2
    refine CW.seq ?_
    refine CW.reg ?_
    refine WL.pure rfl rfl rfl (PV.assign rfl) ?_
    refine WL.nilS ?_
    refine CW.ret ?_
    refine RQ.then ?_
    refine RQ.r1 rfl ?_
    refine ⟨?_, hB⟩
    first | rfl | exact bT (by omega) | exact bF (by omega) | exact bD (by omega) | exact iE (by omega) | (simp_all; done) | (simp_all; omega) | (simp_all; intros; omega)
  try simp only [decide_eq_true_eq, decide_eq_false_iff_not, Bool.not_eq_true', Bool.not_eq_false', Bool.not_eq_eq_eq_not, Bool.not_true, Bool.not_false, Int.not_lt, Int.not_le, Classical.not_not, beq_iff_eq, beq_eq_false_iff_ne] at hc2
  refine CW.skipS ?_
  refine CW.seq ?_
  refine CW.reg ?_
  refine WL.pure rfl rfl rfl (PV.assign rfl) ?_
  refine WL.nilS ?_
  refine CW.ret ?_
  refine RQ.r1 rfl ?_
  refine ⟨?_, hB⟩
  first | rfl | exact bT (by omega) | exact bF (by omega) | exact bD (by omega) | exact iE (by omega) | (simp_all; done) | (simp_all; omega) | (simp_all; intros; omega)
theorem c_laws_FnExactIsPartZone {w : World} {a0 : Int} {va1 : Value} {xa1 : List Int} {y0 : Int} {vy1 : Value} {xy1 : List Int}  (ha1 : Rd EI w va1 xa1) (hy1 : Rd EI w vy1 xy1) : Calls Try.prog 13 #[.agg #[.int .i64 a0, va1], .agg #[.int .i64 y0, vy1]] w (Ret1 (RQt (.bool true) w)) := by
  have hB : Ext w w := Ext.refl w
  have hla1 := ha1.leI; have hly1 := hy1.leI
  refine callsOf (vs := [_, _]) Try.func13 rfl Try.ntmps13 rfl rfl ?_
  refine CW.seq ?_
  refine CW.reg ?_
  refine WL.op rfl (OpK.box rfl rfl (by first | rfl | exact Rd.cells1 (by assumption) | exact Osl.cells1 (by assumption) | exact Osn.cells1 (by assumption)) (fun b1 w1 hXw1 hb1 hge1 => ?_))
  have hl1 := Lo.new hB hge1
  have hB := hB.trans hXw1
  refine WL.op rfl (OpK.box rfl rfl (by first | rfl | exact Rd.cells1 (by assumption) | exact Osl.cells1 (by assumption) | exact Osn.cells1 (by assumption)) (fun b2 w2 hXw2 hb2 hge2 => ?_))
  have hl2 := Lo.new hB hge2
  have hd1_2 := Dj.new hb1.ltO hge2
  have hB := hB.trans hXw2
  have hb1 := hb1.up hXw2
  refine WL.pure rfl rfl rfl (PV.assign rfl) ?_
  refine WL.nilS ?_
  refine CW.seq ?_
  refine CW.reg ?_
  refine WL.pure rfl rfl rfl (PV.assign rfl) ?_
  refine WL.nilS ?_
  refine CW.seq ?_
  refine CW.reg ?_
  refine WL.pure rfl rfl rfl ((by first | exact PV.loadA T.ag24 rfl (by first | exact Cells.up (by assumption) hB | exact Bx.cells (by assumption) | assumption) (Ext.refl _) rfl | exact PV.loadP (ds := [_, _]) T.ag24 rfl (by first | exact Cells.up (by assumption) hB | exact Bx.cells (by assumption) | assumption) (Ext.refl _) rfl rfl)) ?_
  refine WL.pure rfl rfl rfl (PV.move rfl) ?_
  refine WL.op rfl (OpK.callR rfl T.cf15 rfl (c_laws_szZone (by first | assumption | exact Rd.up (by assumption) hB | exact Osl.rd (by assumption) | exact Osn.rdR (by assumption)) (by first | assumption | omega | (simp only [marks_len, marksB_len]; omega))) (fun w3 hXw3 => ?_))
  have hB := hB.trans hXw3
  have hb1 := hb1.up hXw3
  have hb2 := hb2.up hXw3
  refine WL.pure rfl rfl rfl (PV.assign rfl) ?_
  refine WL.nilS ?_
  refine CW.seq ?_
  refine CW.seq ?_
  refine CW.reg ?_
  refine WL.pure rfl rfl rfl (PV.move rfl) ?_
  refine WL.pure rfl rfl rfl (PV.lss rfl rfl) ?_
  refine WL.nilS ?_
  refine CW.cond rfl (fun hc1 => ?_) (fun hc1 => ?_)
  · skip
    try simp only [decide_eq_true_eq, decide_eq_false_iff_not, Bool.not_eq_true', Bool.not_eq_false', Bool.not_eq_eq_eq_not, Bool.not_true, Bool.not_false, Int.not_lt, Int.not_le, Classical.not_not, beq_iff_eq, beq_eq_false_iff_ne] at hc1
    refine CW.seq ?_
    refine CW.reg ?_
    refine WL.pure rfl rfl rfl (PV.assign rfl) ?_
    refine WL.nilS ?_
    refine CW.ret ?_
    refine RQ.then ?_
    refine RQ.r1 rfl ?_
    refine ⟨?_, hB⟩
    first | rfl | (exfalso; revert hc1; simp; done) | (exfalso; revert hc1; simp; omega) | (exfalso; omega) | first | rfl | exact bT (by omega) | exact bF (by omega) | exact bD (by omega) | exact iE (by omega) | (simp_all; done) | (simp_all; omega) | (simp_all; intros; omega)
  try simp only [decide_eq_true_eq, decide_eq_false_iff_not, Bool.not_eq_true', Bool.not_eq_false', Bool.not_eq_eq_eq_not, Bool.not_true, Bool.not_false, Int.not_lt, Int.not_le, Classical.not_not, beq_iff_eq, beq_eq_false_iff_ne] at hc1
  refine CW.skipS ?_
  refine CW.seq ?_
  refine CW.reg ?_
  refine WL.pure rfl rfl rfl ((by first | exact PV.loadA T.ag24 rfl (by first | exact Cells.up (by assumption) hB | exact Bx.cells (by assumption) | assumption) (Ext.refl _) rfl | exact PV.loadP (ds := [_, _]) T.ag24 rfl (by first | exact Cells.up (by assumption) hB | exact Bx.cells (by assumption) | assumption) (Ext.refl _) rfl rfl)) ?_
  refine WL.pure rfl rfl rfl (PV.move rfl) ?_
  refine WL.op rfl (OpK.callR rfl T.cf15 rfl (c_laws_szZone (by first | assumption | exact Rd.up (by assumption) hB | exact Osl.rd (by assumption) | exact Osn.rdR (by assumption)) (by first | assumption | omega | (simp only [marks_len, marksB_len]; omega))) (fun w4 hXw4 => ?_))
  have hB := hB.trans hXw4
  have hb1 := hb1.up hXw4
  have hb2 := hb2.up hXw4
  refine WL.pure rfl rfl rfl (PV.assign rfl) ?_
  refine WL.nilS ?_
  refine CW.seq ?_
  refine CW.seq ?_
  refine CW.reg ?_
  refine WL.pure rfl rfl rfl (PV.move rfl) ?_
  refine WL.pure rfl rfl rfl (PV.lss rfl rfl) ?_
  refine WL.nilS ?_
  refine CW.cond rfl (fun hc2 => ?_) (fun hc2 => ?_)
  · skip
    try simp only [decide_eq_true_eq, decide_eq_false_iff_not, Bool.not_eq_true', Bool.not_eq_false', Bool.not_eq_eq_eq_not, Bool.not_true, Bool.not_false, Int.not_lt, Int.not_le, Classical.not_not, beq_iff_eq, beq_eq_false_iff_ne] at hc2
    refine CW.seq ?_
    refine CW.reg ?_
    refine WL.pure rfl rfl rfl (PV.assign rfl) ?_
    refine WL.nilS ?_
    refine CW.ret ?_
    refine RQ.then ?_
    refine RQ.r1 rfl ?_
    refine ⟨?_, hB⟩
    first | rfl | (exfalso; revert hc2; simp; done) | (exfalso; revert hc2; simp; omega) | (exfalso; omega) | first | rfl | exact bT (by omega) | exact bF (by omega) | exact bD (by omega) | exact iE (by omega) | (simp_all; done) | (simp_all; omega) | (simp_all; intros; omega)
  try simp only [decide_eq_true_eq, decide_eq_false_iff_not, Bool.not_eq_true', Bool.not_eq_false', Bool.not_eq_eq_eq_not, Bool.not_true, Bool.not_false, Int.not_lt, Int.not_le, Classical.not_not, beq_iff_eq, beq_eq_false_iff_ne] at hc2
  refine CW.skipS ?_
  refine CW.seq ?_
  refine CW.draw T.mixed (by kernel_rfl) (fun _ _ _ _ _ h => h) (fun w8 w9 => Upd none w8 w9) 10 (.take 0 (.take 2 (.must 1 (.must 3 (.must 4 (.take 5 (.take 6 (.take 7 (.take 8 (.take 9 .done)))))))))) (by kernel_rfl) (fun w5 hXd => ?_)
  have hB := hB.trans hXd
  have hb1 := hb1.up hXd
  have hb2 := hb2.up hXd
  have hBr := hB
  have hS : Upd none w5 w5 := Ext.toUpd (Ext.refl _)
  refine HP.take rfl rfl rfl rfl hS (fun wS hS1 => (by first | exact PV.loadA T.ag24 rfl (by first | exact Cells.up (by assumption) (hBr.trans hS1) | exact Bx.cells (Bx.updD (by assumption) hS1 (Dj.nlR _)) | exact Cells.upd (by assumption) hS1 (by simp)) (Ext.refl _) rfl | exact PV.loadP (ds := [_, _]) T.ag24 rfl (by first | exact Cells.up (by assumption) (hBr.trans hS1) | exact Bx.cells (Bx.updD (by assumption) hS1 (Dj.nlR _)) | exact Cells.upd (by assumption) hS1 (by simp)) (Ext.refl _) rfl rfl)) ?_
  refine HP.take rfl rfl rfl rfl hS (fun wS hS1 => (by first | exact PV.loadA T.ag24 rfl (by first | exact Cells.up (by assumption) (hBr.trans hS1) | exact Bx.cells (Bx.updD (by assumption) hS1 (Dj.nlR _)) | exact Cells.upd (by assumption) hS1 (by simp)) (Ext.refl _) rfl | exact PV.loadP (ds := [_, _]) T.ag24 rfl (by first | exact Cells.up (by assumption) (hBr.trans hS1) | exact Bx.cells (Bx.updD (by assumption) hS1 (Dj.nlR _)) | exact Cells.upd (by assumption) hS1 (by simp)) (Ext.refl _) rfl rfl)) ?_
  refine HP.must rfl rfl (OpK.call rfl T.cf17 rfl (c_laws_toZone (by first | assumption | exact Rd.up (by assumption) hB | exact Osl.rd (by assumption) | exact Osn.rdR (by assumption)) (by first | assumption | omega | (simp only [marks_len, marksB_len]; omega))) (fun rv1 w6 hR => ?_))
  obtain ⟨hXw6, v3, og3, rfl, ho3, hq3⟩ := hR
  have hl3 := Lo.up hq3 hB
  have hv3 := Lo.up hq3 hS
  have hd1_3 := Dj.lo hb1.ltO hq3
  have hd2_3 := Dj.lo hb2.ltO hq3
  refine ⟨Upd.trans hS hXw6, ?_⟩
  have hS := Upd.trans hS hXw6
  have hB := hB.trans hXw6
  have hb1 := hb1.up hXw6
  have hb2 := hb2.up hXw6
  refine HP.must rfl rfl (OpK.call rfl T.cf17 rfl (c_laws_toZone (by first | assumption | exact Rd.up (by assumption) hB | exact Osl.rd (by assumption) | exact Osn.rdR (by assumption)) (by first | assumption | omega | (simp only [marks_len, marksB_len]; omega))) (fun rv2 w7 hR => ?_))
  obtain ⟨hXw7, v4, og4, rfl, ho4, hq4⟩ := hR
  have hl4 := Lo.up hq4 hB
  have hv4 := Lo.up hq4 hS
  have hd1_4 := Dj.lo hb1.ltO hq4
  have hd2_4 := Dj.lo hb2.ltO hq4
  have hd3_4 := Dj.lo ho3.ltO hq4
  refine ⟨Upd.trans hS hXw7, ?_⟩
  have hS := Upd.trans hS hXw7
  have hB := hB.trans hXw7
  have hb1 := hb1.up hXw7
  have hb2 := hb2.up hXw7
  have ho3 := ho3.up hXw7
  refine HP.must rfl rfl (OpK.callR rfl T.cf52 rfl (c_spec_IsPartZone (by first | assumption | exact Rd.up (by assumption) hB | exact Osl.rd (by assumption) | exact Osn.rdR (by assumption)) (by first | assumption | exact Rd.up (by assumption) hB | exact Osl.rd (by assumption) | exact Osn.rdR (by assumption))) (fun w8 hXw8 => ?_))
  refine ⟨Upd.trans hS hXw8, ?_⟩
  have hS := Upd.trans hS hXw8
  have hB := hB.trans hXw8
  have hb1 := hb1.up hXw8
  have hb2 := hb2.up hXw8
  have ho3 := ho3.up hXw8
  have ho4 := ho4.up hXw8
  refine HP.take rfl rfl rfl rfl hS (fun wS hS1 => PV.move rfl) ?_
  refine HP.take rfl rfl rfl rfl hS (fun wS hS1 => PV.extract rfl rfl) ?_
  refine HP.take rfl rfl rfl rfl hS (fun wS hS1 => PV.extract rfl rfl) ?_
  refine HP.take rfl rfl rfl rfl hS (fun wS hS1 => PV.assign rfl) ?_
  refine HP.take rfl rfl rfl rfl hS (fun wS hS1 => PV.assign rfl) ?_
  refine HP.doneS ?_
  refine CW.seq ?_
  refine CW.reg ?_
  refine WL.pure rfl rfl rfl ((by first | exact PV.loadA T.ag24 rfl (by first | exact Cells.up (by assumption) hB | exact Bx.cells (by assumption) | assumption) (Ext.refl _) rfl | exact PV.loadP (ds := [_, _]) T.ag24 rfl (by first | exact Cells.up (by assumption) hB | exact Bx.cells (by assumption) | assumption) (Ext.refl _) rfl rfl)) ?_
  refine WL.op rfl (OpK.call rfl T.cf17 rfl (c_laws_toZone (by first | assumption | exact Rd.up (by assumption) hB | exact Osl.rd (by assumption) | exact Osn.rdR (by assumption)) (by first | assumption | omega | (simp only [marks_len, marksB_len]; omega))) (fun rv3 w9 hR => ?_))
  obtain ⟨hXw9, v5, og5, rfl, ho5, hq5⟩ := hR
  have hl5 := Lo.up hq5 hB
  have hd1_5 := Dj.lo hb1.ltO hq5
  have hd2_5 := Dj.lo hb2.ltO hq5
  have hd3_5 := Dj.lo ho3.ltO hq5
  have hd4_5 := Dj.lo ho4.ltO hq5
  have hB := hB.trans hXw9
  have hb1 := hb1.up hXw9
  have hb2 := hb2.up hXw9
  have ho3 := ho3.up hXw9
  have ho4 := ho4.up hXw9
  refine WL.op rfl (OpK.alloc rfl T.zv27 rfl (fun b6 w10 hXw10 hb6 hge6 => ?_))
  have hl6 := Lo.new hB hge6
  have hd1_6 := Dj.new hb1.ltO hge6
  have hd2_6 := Dj.new hb2.ltO hge6
  have hd3_6 := Dj.new ho3.ltO hge6
  have hd4_6 := Dj.new ho4.ltO hge6
  have hd5_6 := Dj.new ho5.ltO hge6
  have hB := hB.trans hXw10
  have hb1 := hb1.up hXw10
  have hb2 := hb2.up hXw10
  have ho3 := ho3.up hXw10
  have ho4 := ho4.up hXw10
  have ho5 := ho5.up hXw10
  refine WL.op rfl (OpK.storeA T.sz27 rfl rfl rfl rfl (by simp [Value.oneCell'] <;> first | done | (repeat' apply And.intro) <;> first | rfl | exact Osl.oneCell (by assumption) | exact Osn.oneCell (by assumption) | exact Rd.oneCell (by assumption) | assumption) hb6 (fun w11 hXw11 hb6 => ?_))
  have hB := hB.updL hXw11 hl6
  have hb1 := hb1.updD hXw11 hd1_6
  have hb2 := hb2.updD hXw11 hd2_6
  have ho3 := ho3.updD hXw11 hd3_6
  have ho4 := ho4.updD hXw11 hd4_6
  have ho5 := ho5.updD hXw11 hd5_6
  refine WL.nilS ?_
  refine CW.seq ?_
  refine CW.reg ?_
  refine WL.pure rfl rfl rfl ((by first | exact PV.loadA T.ag24 rfl (by first | exact Cells.up (by assumption) hB | exact Bx.cells (by assumption) | assumption) (Ext.refl _) rfl | exact PV.loadP (ds := [_, _]) T.ag24 rfl (by first | exact Cells.up (by assumption) hB | exact Bx.cells (by assumption) | assumption) (Ext.refl _) rfl rfl)) ?_
  refine WL.op rfl (OpK.call rfl T.cf17 rfl (c_laws_toZone (by first | assumption | exact Rd.up (by assumption) hB | exact Osl.rd (by assumption) | exact Osn.rdR (by assumption)) (by first | assumption | omega | (simp only [marks_len, marksB_len]; omega))) (fun rv4 w12 hR => ?_))
  obtain ⟨hXw12, v7, og7, rfl, ho7, hq7⟩ := hR
  have hl7 := Lo.up hq7 hB
  have hd1_7 := Dj.lo hb1.ltO hq7
  have hd2_7 := Dj.lo hb2.ltO hq7
  have hd3_7 := Dj.lo ho3.ltO hq7
  have hd4_7 := Dj.lo ho4.ltO hq7
  have hd5_7 := Dj.lo ho5.ltO hq7
  have hd6_7 := Dj.lo hb6.ltO hq7
  have hB := hB.trans hXw12
  have hb1 := hb1.up hXw12
  have hb2 := hb2.up hXw12
  have ho3 := ho3.up hXw12
  have ho4 := ho4.up hXw12
  have ho5 := ho5.up hXw12
  have hb6 := hb6.up hXw12
  refine WL.op rfl (OpK.alloc rfl T.zv27 rfl (fun b8 w13 hXw13 hb8 hge8 => ?_))
  have hl8 := Lo.new hB hge8
  have hd1_8 := Dj.new hb1.ltO hge8
  have hd2_8 := Dj.new hb2.ltO hge8
  have hd3_8 := Dj.new ho3.ltO hge8
  have hd4_8 := Dj.new ho4.ltO hge8
  have hd5_8 := Dj.new ho5.ltO hge8
  have hd6_8 := Dj.new hb6.ltO hge8
  have hd7_8 := Dj.new ho7.ltO hge8
  have hB := hB.trans hXw13
  have hb1 := hb1.up hXw13
  have hb2 := hb2.up hXw13
  have ho3 := ho3.up hXw13
  have ho4 := ho4.up hXw13
  have ho5 := ho5.up hXw13
  have hb6 := hb6.up hXw13
  have ho7 := ho7.up hXw13
  refine WL.op rfl (OpK.storeA T.sz27 rfl rfl rfl rfl (by simp [Value.oneCell'] <;> first | done | (repeat' apply And.intro) <;> first | rfl | exact Osl.oneCell (by assumption) | exact Osn.oneCell (by assumption) | exact Rd.oneCell (by assumption) | assumption) hb8 (fun w14 hXw14 hb8 => ?_))
  have hB := hB.updL hXw14 hl8
  have hb1 := hb1.updD hXw14 hd1_8
  have hb2 := hb2.updD hXw14 hd2_8
  have ho3 := ho3.updD hXw14 hd3_8
  have ho4 := ho4.updD hXw14 hd4_8
  have ho5 := ho5.updD hXw14 hd5_8
  have hb6 := hb6.updD hXw14 hd6_8
  have ho7 := ho7.updD hXw14 hd7_8
  refine WL.nilS ?_
  refine CW.seq ?_
  refine CW.reg ?_
  refine WL.pure rfl rfl rfl ((by first | exact PV.loadA T.ag27 rfl (by first | exact Cells.up (by assumption) hB | exact Bx.cells (by assumption) | assumption) (Ext.refl _) rfl | exact PV.loadP (ds := [_, _]) T.ag27 rfl (by first | exact Cells.up (by assumption) hB | exact Bx.cells (by assumption) | assumption) (Ext.refl _) rfl rfl)) ?_
  refine WL.pure rfl rfl rfl ((by first | exact PV.loadA T.ag27 rfl (by first | exact Cells.up (by assumption) hB | exact Bx.cells (by assumption) | assumption) (Ext.refl _) rfl | exact PV.loadP (ds := [_, _]) T.ag27 rfl (by first | exact Cells.up (by assumption) hB | exact Bx.cells (by assumption) | assumption) (Ext.refl _) rfl rfl)) ?_
  refine WL.op rfl (OpK.callR rfl T.cf53 rfl (c_impl_IsPartZone (by first | assumption | exact Rd.up (by assumption) hB | exact Osl.rd (by assumption) | exact Osn.rdR (by assumption)) (by first | assumption | exact Rd.up (by assumption) hB | exact Osl.rd (by assumption) | exact Osn.rdR (by assumption))) (fun w15 hXw15 => ?_))
  have hB := hB.trans hXw15
  have hb1 := hb1.up hXw15
  have hb2 := hb2.up hXw15
  have ho3 := ho3.up hXw15
  have ho4 := ho4.up hXw15
  have ho5 := ho5.up hXw15
  have hb6 := hb6.up hXw15
  have ho7 := ho7.up hXw15
  have hb8 := hb8.up hXw15
  refine WL.pure rfl rfl rfl (PV.move rfl) ?_
  refine WL.pure rfl rfl rfl (PV.extract rfl rfl) ?_
  refine WL.pure rfl rfl rfl (PV.extract rfl rfl) ?_
  refine WL.pure rfl rfl rfl (PV.assign rfl) ?_
  refine WL.pure rfl rfl rfl (PV.assign rfl) ?_
  refine WL.nilS ?_
  refine CW.seq ?_
  refine CW.seq ?_
  refine CW.reg ?_
  refine WL.pure rfl rfl rfl (PV.move rfl) ?_
  refine WL.pure rfl rfl rfl (PV.move rfl) ?_
  refine WL.pure rfl rfl rfl (PV.neqB T.bl4 rfl rfl) ?_
  refine WL.pure rfl rfl rfl (PV.move rfl) ?_
  refine WL.split (t := 43) rfl (fun hc3 => ?_) (fun hc3 => ?_)
  · skip
    try simp only [decide_eq_true_eq, decide_eq_false_iff_not, Bool.not_eq_true', Bool.not_eq_false', Bool.not_eq_eq_eq_not, Bool.not_true, Bool.not_false, Int.not_lt, Int.not_le, Classical.not_not, beq_iff_eq, beq_eq_false_iff_ne] at hc3
    refine WL.skip rfl rfl rfl rfl rfl ?_
    refine WL.skip rfl rfl rfl rfl rfl ?_
    refine WL.skip rfl rfl rfl rfl rfl ?_
    refine WL.pure rfl rfl rfl (PV.pickT rfl rfl) ?_
    refine WL.nilS ?_
    refine CW.condT rfl ?_
    refine CW.seq ?_
    refine CW.reg ?_
    refine WL.pure rfl rfl rfl (PV.assign rfl) ?_
    refine WL.nilS ?_
    refine CW.ret ?_
    refine RQ.then ?_
    refine RQ.r1 rfl ?_
    refine ⟨?_, hB⟩
    first | rfl | (exfalso; revert hc3; simp; done) | (exfalso; revert hc3; simp; omega) | (exfalso; omega) | first | rfl | exact bT (by omega) | exact bF (by omega) | exact bD (by omega) | exact iE (by omega) | (simp_all; done) | (simp_all; omega) | (simp_all; intros; omega)
  try simp only [decide_eq_true_eq, decide_eq_false_iff_not, Bool.not_eq_true', Bool.not_eq_false', Bool.not_eq_eq_eq_not, Bool.not_true, Bool.not_false, Int.not_lt, Int.not_le, Classical.not_not, beq_iff_eq, beq_eq_false_iff_ne] at hc3
  refine WL.pureG rfl rfl rfl rfl rfl (PV.move rfl) ?_
  refine WL.pureG rfl rfl rfl rfl rfl (PV.move rfl) ?_
  refine WL.pureG rfl rfl rfl rfl rfl (PV.neqB T.bl4 rfl rfl) ?_
  refine WL.pure rfl rfl rfl (PV.pickF rfl rfl) ?_
  refine WL.nilS ?_
  refine CW.cond rfl (fun hc4 => ?_) (fun hc4 => ?_)
  · skip
    try simp only [decide_eq_true_eq, decide_eq_false_iff_not, Bool.not_eq_true', Bool.not_eq_false', Bool.not_eq_eq_eq_not, Bool.not_true, Bool.not_false, Int.not_lt, Int.not_le, Classical.not_not, beq_iff_eq, beq_eq_false_iff_ne] at hc4
    refine CW.seq ?_
    refine CW.reg ?_
    refine WL.pure rfl rfl rfl (PV.assign rfl) ?_
    refine WL.nilS ?_
    refine CW.ret ?_
    refine RQ.then ?_
    refine RQ.r1 rfl ?_
    refine ⟨?_, hB⟩
    first | rfl | (exfalso; revert hc4; simp; done) | (exfalso; revert hc4; simp; omega) | (exfalso; omega) | first | rfl | exact bT (by omega) | exact bF (by omega) | exact bD (by omega) | exact iE (by omega) | (simp_all; done) | (simp_all; omega) | (simp_all; intros; omega)
  try simp only [decide_eq_true_eq, decide_eq_false_iff_not, Bool.not_eq_true', Bool.not_eq_false', Bool.not_eq_eq_eq_not, Bool.not_true, Bool.not_false, Int.not_lt, Int.not_le, Classical.not_not, beq_iff_eq, beq_eq_false_iff_ne] at hc4
  refine CW.skipS ?_
  refine CW.seq ?_
  refine CW.seq ?_
  refine CW.draw T.mixed (by kernel_rfl) (fun _ _ _ _ _ h => h) (fun w8 w9 => Upd none w8 w9) 5 (.take 0 (.take 1 (.must 2 (.must 3 (.take 4 .done))))) (by kernel_rfl) (fun w16 hXd => ?_)
  have hB := hB.trans hXd
  have hb1 := hb1.up hXd
  have hb2 := hb2.up hXd
  have ho3 := ho3.up hXd
  have ho4 := ho4.up hXd
  have ho5 := ho5.up hXd
  have hb6 := hb6.up hXd
  have ho7 := ho7.up hXd
  have hb8 := hb8.up hXd
  have hBr := hB
  have hS : Upd none w16 w16 := Ext.toUpd (Ext.refl _)
  refine HP.take rfl rfl rfl rfl hS (fun wS hS1 => (by first | exact PV.loadA T.ag27 rfl (by first | exact Cells.up (by assumption) (hBr.trans hS1) | exact Bx.cells (Bx.updD (by assumption) hS1 (Dj.nlR _)) | exact Cells.upd (by assumption) hS1 (by simp)) (Ext.refl _) rfl | exact PV.loadP (ds := [_, _]) T.ag27 rfl (by first | exact Cells.up (by assumption) (hBr.trans hS1) | exact Bx.cells (Bx.updD (by assumption) hS1 (Dj.nlR _)) | exact Cells.upd (by assumption) hS1 (by simp)) (Ext.refl _) rfl rfl)) ?_
  refine HP.take rfl rfl rfl rfl hS (fun wS hS1 => (by first | exact PV.loadA T.ag24 rfl (by first | exact Cells.up (by assumption) (hBr.trans hS1) | exact Bx.cells (Bx.updD (by assumption) hS1 (Dj.nlR _)) | exact Cells.upd (by assumption) hS1 (by simp)) (Ext.refl _) rfl | exact PV.loadP (ds := [_, _]) T.ag24 rfl (by first | exact Cells.up (by assumption) (hBr.trans hS1) | exact Bx.cells (Bx.updD (by assumption) hS1 (Dj.nlR _)) | exact Cells.upd (by assumption) hS1 (by simp)) (Ext.refl _) rfl rfl)) ?_
  refine HP.must rfl rfl (OpK.call rfl T.cf17 rfl (c_laws_toZone (by first | assumption | exact Rd.up (by assumption) hB | exact Osl.rd (by assumption) | exact Osn.rdR (by assumption)) (by first | assumption | omega | (simp only [marks_len, marksB_len]; omega))) (fun rv5 w17 hR => ?_))
  obtain ⟨hXw17, v9, og9, rfl, ho9, hq9⟩ := hR
  have hl9 := Lo.up hq9 hB
  have hv9 := Lo.up hq9 hS
  have hd1_9 := Dj.lo hb1.ltO hq9
  have hd2_9 := Dj.lo hb2.ltO hq9
  have hd3_9 := Dj.lo ho3.ltO hq9
  have hd4_9 := Dj.lo ho4.ltO hq9
  have hd5_9 := Dj.lo ho5.ltO hq9
  have hd6_9 := Dj.lo hb6.ltO hq9
  have hd7_9 := Dj.lo ho7.ltO hq9
  have hd8_9 := Dj.lo hb8.ltO hq9
  refine ⟨Upd.trans hS hXw17, ?_⟩
  have hS := Upd.trans hS hXw17
  have hB := hB.trans hXw17
  have hb1 := hb1.up hXw17
  have hb2 := hb2.up hXw17
  have ho3 := ho3.up hXw17
  have ho4 := ho4.up hXw17
  have ho5 := ho5.up hXw17
  have hb6 := hb6.up hXw17
  have ho7 := ho7.up hXw17
  have hb8 := hb8.up hXw17
  refine HP.must rfl rfl (OpK.callR rfl T.cf19 rfl (c_laws_eqZone (by first | assumption | exact Rd.up (by assumption) hB | exact Osl.rd (by assumption) | exact Osn.rdR (by assumption)) (by first | assumption | exact Rd.up (by assumption) hB | exact Osl.rd (by assumption) | exact Osn.rdR (by assumption))) (fun w18 hXw18 => ?_))
  refine ⟨Upd.trans hS hXw18, ?_⟩
  have hS := Upd.trans hS hXw18
  have hB := hB.trans hXw18
  have hb1 := hb1.up hXw18
  have hb2 := hb2.up hXw18
  have ho3 := ho3.up hXw18
  have ho4 := ho4.up hXw18
  have ho5 := ho5.up hXw18
  have hb6 := hb6.up hXw18
  have ho7 := ho7.up hXw18
  have hb8 := hb8.up hXw18
  have ho9 := ho9.up hXw18
  refine HP.take rfl rfl rfl rfl hS (fun wS hS1 => PV.not rfl) ?_
  refine HP.doneS ?_
  refine CW.cond rfl (fun hc5 => ?_) (fun hc5 => ?_)
  · skip
    try simp only [decide_eq_true_eq, decide_eq_false_iff_not, Bool.not_eq_true', Bool.not_eq_false', Bool.not_eq_eq_eq_not, Bool.not_true, Bool.not_false, Int.not_lt, Int.not_le, Classical.not_not, beq_iff_eq, beq_eq_false_iff_ne] at hc5
    refine CW.seq ?_
    refine CW.reg ?_
    refine WL.pure rfl rfl rfl (PV.assign rfl) ?_
    refine WL.nilS ?_
    refine CW.ret ?_
    refine RQ.then ?_
    refine RQ.r1 rfl ?_
    refine ⟨?_, hB⟩
    first | rfl | (exfalso; revert hc5; simp; done) | (exfalso; revert hc5; simp; omega) | (exfalso; omega) | first | rfl | exact bT (by omega) | exact bF (by omega) | exact bD (by omega) | exact iE (by omega) | (simp_all; done) | (simp_all; omega) | (simp_all; intros; omega)
  try simp only [decide_eq_true_eq, decide_eq_false_iff_not, Bool.not_eq_true', Bool.not_eq_false', Bool.not_eq_eq_eq_not, Bool.not_true, Bool.not_false, Int.not_lt, Int.not_le, Classical.not_not, beq_iff_eq, beq_eq_false_iff_ne] at hc5
  refine CW.skipS ?_
  refine CW.seq ?_
  refine CW.seq ?_
  refine CW.draw T.mixed (by kernel_rfl) (fun _ _ _ _ _ h => h) (fun w8 w9 => Upd none w8 w9) 5 (.take 0 (.take 1 (.must 2 (.must 3 (.take 4 .done))))) (by kernel_rfl) (fun w19 hXd => ?_)
  have hB := hB.trans hXd
  have hb1 := hb1.up hXd
  have hb2 := hb2.up hXd
  have ho3 := ho3.up hXd
  have ho4 := ho4.up hXd
  have ho5 := ho5.up hXd
  have hb6 := hb6.up hXd
  have ho7 := ho7.up hXd
  have hb8 := hb8.up hXd
  have ho9 := ho9.up hXd
  have hBr := hB
  have hS : Upd none w19 w19 := Ext.toUpd (Ext.refl _)
  refine HP.take rfl rfl rfl rfl hS (fun wS hS1 => (by first | exact PV.loadA T.ag27 rfl (by first | exact Cells.up (by assumption) (hBr.trans hS1) | exact Bx.cells (Bx.updD (by assumption) hS1 (Dj.nlR _)) | exact Cells.upd (by assumption) hS1 (by simp)) (Ext.refl _) rfl | exact PV.loadP (ds := [_, _]) T.ag27 rfl (by first | exact Cells.up (by assumption) (hBr.trans hS1) | exact Bx.cells (Bx.updD (by assumption) hS1 (Dj.nlR _)) | exact Cells.upd (by assumption) hS1 (by simp)) (Ext.refl _) rfl rfl)) ?_
  refine HP.take rfl rfl rfl rfl hS (fun wS hS1 => (by first | exact PV.loadA T.ag24 rfl (by first | exact Cells.up (by assumption) (hBr.trans hS1) | exact Bx.cells (Bx.updD (by assumption) hS1 (Dj.nlR _)) | exact Cells.upd (by assumption) hS1 (by simp)) (Ext.refl _) rfl | exact PV.loadP (ds := [_, _]) T.ag24 rfl (by first | exact Cells.up (by assumption) (hBr.trans hS1) | exact Bx.cells (Bx.updD (by assumption) hS1 (Dj.nlR _)) | exact Cells.upd (by assumption) hS1 (by simp)) (Ext.refl _) rfl rfl)) ?_
  refine HP.must rfl rfl (OpK.call rfl T.cf17 rfl (c_laws_toZone (by first | assumption | exact Rd.up (by assumption) hB | exact Osl.rd (by assumption) | exact Osn.rdR (by assumption)) (by first | assumption | omega | (simp only [marks_len, marksB_len]; omega))) (fun rv6 w20 hR => ?_))
  obtain ⟨hXw20, v10, og10, rfl, ho10, hq10⟩ := hR
  have hl10 := Lo.up hq10 hB
  have hv10 := Lo.up hq10 hS
  have hd1_10 := Dj.lo hb1.ltO hq10
  have hd2_10 := Dj.lo hb2.ltO hq10
  have hd3_10 := Dj.lo ho3.ltO hq10
  have hd4_10 := Dj.lo ho4.ltO hq10
  have hd5_10 := Dj.lo ho5.ltO hq10
  have hd6_10 := Dj.lo hb6.ltO hq10
  have hd7_10 := Dj.lo ho7.ltO hq10
  have hd8_10 := Dj.lo hb8.ltO hq10
  have hd9_10 := Dj.lo ho9.ltO hq10
  refine ⟨Upd.trans hS hXw20, ?_⟩
  have hS := Upd.trans hS hXw20
  have hB := hB.trans hXw20
  have hb1 := hb1.up hXw20
  have hb2 := hb2.up hXw20
  have ho3 := ho3.up hXw20
  have ho4 := ho4.up hXw20
  have ho5 := ho5.up hXw20
  have hb6 := hb6.up hXw20
  have ho7 := ho7.up hXw20
  have hb8 := hb8.up hXw20
  have ho9 := ho9.up hXw20
  refine HP.must rfl rfl (OpK.callR rfl T.cf19 rfl (c_laws_eqZone (by first | assumption | exact Rd.up (by assumption) hB | exact Osl.rd (by assumption) | exact Osn.rdR (by assumption)) (by first | assumption | exact Rd.up (by assumption) hB | exact Osl.rd (by assumption) | exact Osn.rdR (by assumption))) (fun w21 hXw21 => ?_))
  refine ⟨Upd.trans hS hXw21, ?_⟩
  have hS := Upd.trans hS hXw21
  have hB := hB.trans hXw21
  have hb1 := hb1.up hXw21
  have hb2 := hb2.up hXw21
  have ho3 := ho3.up hXw21
  have ho4 := ho4.up hXw21
  have ho5 := ho5.up hXw21
  have hb6 := hb6.up hXw21
  have ho7 := ho7.up hXw21
  have hb8 := hb8.up hXw21
  have ho9 := ho9.up hXw21
  have ho10 := ho10.up hXw21
  refine HP.take rfl rfl rfl rfl hS (fun wS hS1 => PV.not rfl) ?_
  refine HP.doneS ?_
  refine CW.cond rfl (fun hc6 => ?_) (fun hc6 => ?_)
  · skip
    try simp only [decide_eq_true_eq, decide_eq_false_iff_not, Bool.not_eq_true', Bool.not_eq_false', Bool.not_eq_eq_eq_not, Bool.not_true, Bool.not_false, Int.not_lt, Int.not_le, Classical.not_not, beq_iff_eq, beq_eq_false_iff_ne] at hc6
    refine CW.seq ?_
    refine CW.reg ?_
    refine WL.pure rfl rfl rfl (PV.assign rfl) ?_
    refine WL.nilS ?_
    refine CW.ret ?_
    refine RQ.then ?_
    refine RQ.r1 rfl ?_
    refine ⟨?_, hB⟩
    first | rfl | (exfalso; revert hc6; simp; done) | (exfalso; revert hc6; simp; omega) | (exfalso; omega) | first | rfl | exact bT (by omega) | exact bF (by omega) | exact bD (by omega) | exact iE (by omega) | (simp_all; done) | (simp_all; omega) | (simp_all; intros; omega)
  try simp only [decide_eq_true_eq, decide_eq_false_iff_not, Bool.not_eq_true', Bool.not_eq_false', Bool.not_eq_eq_eq_not, Bool.not_true, Bool.not_false, Int.not_lt, Int.not_le, Classical.not_not, beq_iff_eq, beq_eq_false_iff_ne] at hc6
  refine CW.skipS ?_
  refine CW.seq ?_
  refine CW.reg ?_
  refine WL.pure rfl rfl rfl (PV.assign rfl) ?_
  refine WL.nilS ?_
  refine CW.ret ?_
  refine RQ.r1 rfl ?_
  refine ⟨?_, hB⟩
  first | rfl | (exfalso; revert hc6; simp; done) | (exfalso; revert hc6; simp; omega) | (exfalso; omega) | first | rfl | exact bT (by omega) | exact bF (by omega) | exact bD (by omega) | exact iE (by omega) | (simp_all; done) | (simp_all; omega) | (simp_all; intros; omega)

end Go.Proofs.Ytliakkhlgflbcaa
