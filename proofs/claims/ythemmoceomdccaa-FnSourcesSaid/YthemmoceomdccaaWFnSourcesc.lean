/- Walks of the functions that the law FnSources reaches: each says what its function computes. No condition. -/
import Derived.Test.YthemmoceomdccaaProg
import Derived.Test.YthemmoceomdccaaLibM
import Derived.Test.YthemmoceomdccaaPlA
import Derived.Test.YthemmoceomdccaaLibT
import Derived.Test.YthemmoceomdccaaLibV
import Derived.Test.YthemmoceomdccaaPlK
import Derived.Test.YthemmoceomdccaaPlQ
import Derived.Test.YthemmoceomdccaaPlL
import Derived.Test.YthemmoceomdccaaPlO
import Derived.Test.YthemmoceomdccaaPlG
import Derived.Test.YthemmoceomdccaaLibW
import Derived.Test.YthemmoceomdccaaPlSo
import Derived.Test.YthemmoceomdccaaPlFc
import Derived.Test.YthemmoceomdccaaPlDr
import Derived.Test.YthemmoceomdccaaLibY
import Derived.Test.YthemmoceomdccaaPlLs
import Derived.Test.YthemmoceomdccaaPlFs
import Derived.Test.YthemmoceomdccaaWFnSourcesb
namespace Go.Proofs.Ythemmoceomdccaa
open Go Go.WX Go.Proofs
set_option linter.unusedSimpArgs false
set_option linter.unusedVariables false

theorem c_impl_RunChanges {w : World} {va : Value} {cs : List C4} {vw : Value} {xs : List Int} {L : Int} (ha : Rd ECh w va cs) (hw : Rd EI w vw xs) : Calls Try.prog 85 #[va, vw, .int .i64 L] w (Ret1 (fun v w' => Ext w w' ∧ ∃ u og_u, v = .tuple #[u, .bool (rB (runR cs xs L))] ∧ Osl VI w' og_u u (rL (runR cs xs L)) ∧ Lo w og_u)) := by
  have hB : Ext w w := Ext.refl w
  have hla := ha.leI; have hlw := hw.leI
  refine callsOf (vs := [_, _, _]) Try.func85 rfl Try.ntmps85 rfl rfl ?_
  refine CW.seq ?_
  refine CW.reg ?_
  refine WL.pure rfl rfl rfl (PV.assign rfl) ?_
  refine WL.pure rfl rfl rfl (PV.assign rfl) ?_
  refine WL.nilS ?_
  refine CW.seq ?_
  refine CW.seq ?_
  refine CW.reg ?_
  refine WL.pure rfl rfl rfl (PV.move rfl) ?_
  refine WL.pure rfl rfl rfl (PV.move rfl) ?_
  refine WL.op rfl (OpK.callR rfl T.cf176 rfl (c_impl_areChanges (by first | assumption | exact Rd.up (by assumption) hB | exact rdCh (by assumption) (by assumption))) (fun w1 hXw1 => ?_))
  have hB := hB.trans hXw1
  refine WL.pure rfl rfl rfl (PV.not rfl) ?_
  refine WL.pure rfl rfl rfl (PV.move rfl) ?_
  refine WL.split (t := 12) rfl (fun hc1 => ?_) (fun hc1 => ?_)
  · skip
    try simp only [decide_eq_true_eq, decide_eq_false_iff_not, Bool.not_eq_true', Bool.not_eq_false', Bool.not_eq_eq_eq_not, Bool.not_true, Bool.not_false, Int.not_lt, Int.not_le, Classical.not_not, beq_iff_eq, beq_eq_false_iff_ne] at hc1
    refine WL.skip rfl rfl rfl rfl rfl ?_
    refine WL.skip rfl rfl rfl rfl rfl ?_
    refine WL.skip rfl rfl rfl rfl rfl ?_
    refine WL.skip rfl rfl rfl rfl rfl ?_
    refine WL.pure rfl rfl rfl (PV.pickT rfl rfl) ?_
    refine WL.nilS ?_
    refine CW.condT rfl ?_
    refine CW.seq ?_
    refine CW.reg ?_
    refine WL.pure rfl rfl rfl (PV.assign rfl) ?_
    refine WL.pure rfl rfl rfl (PV.assign rfl) ?_
    refine WL.nilS ?_
    refine CW.ret ?_
    refine RQ.then ?_
    refine RQ.r2 rfl rfl ?_
    refine ⟨hB, (.slice none 0 0), none, ?_, osE (Osl.nil _ _) ?_, Lo.nl _⟩
    · skip
      first | (have hR : runR cs xs L = none := (by first | exact runR_n1 (by assumption) | exact runR_n2 (by assumption)); exact tE2 rfl (bE (by rw [hR]; rfl))) | (rw [hyl])
    · skip
      first | (have hR : runR cs xs L = none := (by first | exact runR_n1 (by assumption) | exact runR_n2 (by assumption)); rw [hR]; rfl) | (rw [hyl])
  try simp only [decide_eq_true_eq, decide_eq_false_iff_not, Bool.not_eq_true', Bool.not_eq_false', Bool.not_eq_eq_eq_not, Bool.not_true, Bool.not_false, Int.not_lt, Int.not_le, Classical.not_not, beq_iff_eq, beq_eq_false_iff_ne] at hc1
  refine WL.pureG rfl rfl rfl rfl rfl (PV.move rfl) ?_
  refine WL.pureG rfl rfl rfl rfl rfl (PV.move rfl) ?_
  refine WL.opG rfl rfl rfl (OpK.callR rfl T.cf165 rfl (c_impl_IsLongWord (by first | assumption | exact Rd.up (by assumption) hB | exact Osl.rd (by assumption) | exact Osn.rdR (by assumption) | exact NL.rd (by assumption) | exact rdII (by assumption) (by assumption) | exact Inn.rd (by assumption) (by omega))) (fun w2 hXw2 => ?_))
  have hB := hB.trans hXw2
  refine WL.pureG rfl rfl rfl rfl rfl (PV.not rfl) ?_
  refine WL.pure rfl rfl rfl (PV.pickF rfl rfl) ?_
  refine WL.nilS ?_
  refine CW.cond rfl (fun hc2 => ?_) (fun hc2 => ?_)
  · skip
    try simp only [decide_eq_true_eq, decide_eq_false_iff_not, Bool.not_eq_true', Bool.not_eq_false', Bool.not_eq_eq_eq_not, Bool.not_true, Bool.not_false, Int.not_lt, Int.not_le, Classical.not_not, beq_iff_eq, beq_eq_false_iff_ne] at hc2
    refine CW.seq ?_
    refine CW.reg ?_
    refine WL.pure rfl rfl rfl (PV.assign rfl) ?_
    refine WL.pure rfl rfl rfl (PV.assign rfl) ?_
    refine WL.nilS ?_
    refine CW.ret ?_
    refine RQ.then ?_
    refine RQ.r2 rfl rfl ?_
    refine ⟨hB, (.slice none 0 0), none, ?_, osE (Osl.nil _ _) ?_, Lo.nl _⟩
    · skip
      first | (have hR : runR cs xs L = none := (by first | exact runR_n1 (by assumption) | exact runR_n2 (by assumption)); exact tE2 rfl (bE (by rw [hR]; rfl))) | (rw [hyl])
    · skip
      first | (have hR : runR cs xs L = none := (by first | exact runR_n1 (by assumption) | exact runR_n2 (by assumption)); rw [hR]; rfl) | (rw [hyl])
  try simp only [decide_eq_true_eq, decide_eq_false_iff_not, Bool.not_eq_true', Bool.not_eq_false', Bool.not_eq_eq_eq_not, Bool.not_true, Bool.not_false, Int.not_lt, Int.not_le, Classical.not_not, beq_iff_eq, beq_eq_false_iff_ne] at hc2
  refine CW.skipS ?_
  refine CW.seq ?_
  refine CW.reg ?_
  have hlb := listB_y (by assumption : listB cs L = true); have hoks := hlb.2.2.2; have hlg := longB_y (by assumption : longB xs L = true); have hx24 := hlg.2.1; have hyl := runR_y (by assumption : listB cs L = true) (by assumption : longB xs L = true)
  refine WL.pure rfl rfl rfl (PV.move rfl) ?_
  refine WL.pure rfl rfl rfl (PV.move rfl) ?_
  refine WL.op rfl (OpK.call rfl T.cf178 rfl (c_impl_runChanges (by first | assumption | exact Rd.up (by assumption) hB | exact rdCh (by assumption) (by assumption)) (by first | assumption | exact Rd.up (by assumption) hB | exact Osl.rd (by assumption) | exact Osn.rdR (by assumption) | exact NL.rd (by assumption) | exact rdII (by assumption) (by assumption) | exact Inn.rd (by assumption) (by omega)) (by first | assumption | omega | (simp only [marks_len, marksB_len, marksR_len, sumL_marksS, List.length_take]; omega)) (by first | assumption | (intro k9 h9; simp only [List.length_cons, List.length_nil] at h9; rcases (show k9 = 0 ∨ k9 = 1 by omega) with rfl | rfl <;> first | assumption | (exfalso; omega)))) (fun rv1 w3 hR => ?_))
  obtain ⟨hXw3, v1, og1, rfl, ho1, hq1⟩ := hR
  have hl1 := Lo.up hq1 hB
  have hB := hB.trans hXw3
  refine WL.pure rfl rfl rfl (PV.extract rfl rfl) ?_
  refine WL.pure rfl rfl rfl (PV.extract rfl rfl) ?_
  refine WL.pure rfl rfl rfl (PV.assign rfl) ?_
  refine WL.pure rfl rfl rfl (PV.assign rfl) ?_
  refine WL.nilS ?_
  refine CW.ret ?_
  refine RQ.r2 rfl rfl ?_
  refine ⟨hB, v1, og1, ?_, osE ho1 ?_, hl1⟩
  · skip
    first | (have hR : runR cs xs L = none := (by first | exact runR_n1 (by assumption) | exact runR_n2 (by assumption)); exact tE2 rfl (bE (by rw [hR]; rfl))) | (rw [hyl])
  · skip
    first | (have hR : runR cs xs L = none := (by first | exact runR_n1 (by assumption) | exact runR_n2 (by assumption)); rw [hR]; rfl) | (rw [hyl])
theorem c_laws_b10Ints {w : World} {va vb : Value} {xs ys : List Int} (ha : Rd EI w va xs) (hb : Rd EI w vb ys) : Calls Try.prog 75 #[va, vb] w (Ret1 (RQt (.bool (decide (xs = ys))) w)) := by
  have hB : Ext w w := Ext.refl w
  have hla := ha.leI; have hlb := hb.leI
  refine callsOf (vs := [_, _]) Try.func75 rfl Try.ntmps75 rfl rfl ?_
  refine CW.seq ?_
  refine CW.reg ?_
  refine WL.pure rfl rfl rfl (PV.assign rfl) ?_
  refine WL.nilS ?_
  refine CW.seq ?_
  refine CW.seq ?_
  refine CW.reg ?_
  refine WL.pure rfl rfl rfl (PV.move rfl) ?_
  refine WL.pure rfl rfl rfl ((by first | exact PV.len rfl (by assumption) T.sl28 | exact PV.lenOs rfl (by assumption) T.sl28 | exact PV.len rfl (NL.rd (by assumption)) T.sl28 | exact PV.len rfl (Inn.rd (by assumption) (by omega)) T.sl28)) ?_
  refine WL.pure rfl rfl rfl (PV.move rfl) ?_
  refine WL.pure rfl rfl rfl ((by first | exact PV.len rfl (by assumption) T.sl28 | exact PV.lenOs rfl (by assumption) T.sl28 | exact PV.len rfl (NL.rd (by assumption)) T.sl28 | exact PV.len rfl (Inn.rd (by assumption) (by omega)) T.sl28)) ?_
  refine WL.pure rfl rfl rfl (PV.neq rfl rfl) ?_
  refine WL.nilS ?_
  refine CW.cond rfl (fun hc1 => ?_) (fun hc1 => ?_)
  · skip
    try simp only [decide_eq_true_eq, decide_eq_false_iff_not, Bool.not_eq_true', Bool.not_eq_false', Bool.not_eq_eq_eq_not, Bool.not_true, Bool.not_false, Int.not_lt, Int.not_le, Classical.not_not, beq_iff_eq, beq_eq_false_iff_ne] at hc1
    refine CW.seq ?_
    refine CW.reg ?_
    refine WL.pure rfl rfl rfl (PV.assign rfl) ?_
    refine WL.nilS ?_
    refine CW.ret ?_
    refine RQ.then ?_
    refine RQ.r1 rfl ?_
    refine ⟨?_, hB⟩
    first | exact bT (eq_of_takes (by omega) (by omega) he) | exact bF (by rintro rfl; simp_all)
  try simp only [decide_eq_true_eq, decide_eq_false_iff_not, Bool.not_eq_true', Bool.not_eq_false', Bool.not_eq_eq_eq_not, Bool.not_true, Bool.not_false, Int.not_lt, Int.not_le, Classical.not_not, beq_iff_eq, beq_eq_false_iff_ne] at hc1
  refine CW.skipS ?_
  refine CW.seq ?_
  refine CW.seq ?_
  refine CW.reg ?_
  refine WL.pure rfl rfl rfl (PV.move rfl) ?_
  refine WL.pure rfl rfl rfl ((by first | exact PV.len rfl (by assumption) T.sl28 | exact PV.lenOs rfl (by assumption) T.sl28 | exact PV.len rfl (NL.rd (by assumption)) T.sl28 | exact PV.len rfl (Inn.rd (by assumption) (by omega)) T.sl28)) ?_
  refine WL.pure rfl rfl rfl (PV.move rfl) ?_
  refine WL.nilS ?_
  refine CW.block ?_
  refine CW.loop (σk := [(0, _), (1, _), (12, _)]) (fun ρ wz m => ∃ (k : Nat), ρ = [(13, .int .i64 (k : Nat))] ∧ m = xs.length - k ∧ UpdL [] w wz ∧ (k ≤ xs.length) ∧ (xs.take k = ys.take k)) (ρ₀ := [(13, _)]) (m₀ := _) ⟨rfl, rfl, rfl, rfl, trivial⟩ ⟨0, rfl, rfl, (UpdL.refl _ _), (by first | omega | rfl | (simp; done) | assumption | (simp_all; done)), (by first | omega | rfl | (simp; done) | assumption | (simp_all; done))⟩ ?_
  rintro _ wl1 _ ⟨k, rfl, rfl, hU0, hk, he⟩
  have hB := hB.loop hU0 trivial
  refine CW.seq ?_
  refine CW.reg ?_
  refine WL.pure rfl rfl rfl (PV.lss rfl rfl) ?_
  refine WL.nilS ?_
  refine CW.seq ?_
  refine CW.cond rfl (fun hc2 => ?_) (fun hc2 => ?_)
  · skip
    try simp only [decide_eq_true_eq, decide_eq_false_iff_not, Bool.not_eq_true', Bool.not_eq_false', Bool.not_eq_eq_eq_not, Bool.not_true, Bool.not_false, Int.not_lt, Int.not_le, Classical.not_not, beq_iff_eq, beq_eq_false_iff_ne] at hc2
    refine CW.skipS ?_
    refine CW.seq ?_
    refine CW.block ?_
    refine CW.seq ?_
    refine CW.reg ?_
    refine WL.pure rfl rfl rfl (PV.move rfl) ?_
    refine WL.pure rfl rfl rfl (PV.assign rfl) ?_
    refine WL.nilS ?_
    refine CW.seq ?_
    refine CW.draw T.mixed (by kernel_rfl) (fun _ _ _ _ _ h => h) (fun w8 w9 => Upd none w8 w9) 9 (.take 0 (.take 1 (.take 2 (.take 3 (.take 4 (.take 5 (.take 6 (.take 7 (.take 8 .done))))))))) (by kernel_rfl) (fun w1 hXd => ?_)
    have hB := hB.trans hXd
    have hU0 := hU0.ext hXd
    have hBr := hB
    have hS : Upd none w1 w1 := Ext.toUpd (Ext.refl _)
    refine HP.take rfl rfl rfl rfl hS (fun wS hS1 => PV.move rfl) ?_
    refine HP.take rfl rfl rfl rfl hS (fun wS hS1 => PV.move rfl) ?_
    first
      | refine HP.at (x := .tmp 16) (y := .tmp 17) (E := EI) (0) rfl rfl (by first | assumption | exact Inn.rd (by assumption) (by omega)) (by first | omega | (simp only [List.length_set]; omega) | (simp only [List.length_append, List.length_take, List.length_replicate, List.length_drop]; omega)) (fun p1 csp1 hpp1 hcp1 hq => ?_)
      | refine HP.atZ (x := .tmp 16) (y := .tmp 17) (E := EI) (0) rfl rfl (by first | assumption | exact Inn.rd (by assumption) (by omega)) (by first | omega | (simp only [List.length_set]; omega) | (simp only [List.length_append, List.length_take, List.length_replicate, List.length_drop]; omega)) (fun p1 csp1 hpp1 hzp1 hcp1 hq => ?_)
    cases hq
    refine HP.take rfl rfl rfl rfl hS (fun wS hS1 => (by first | exact PV.indexAddr hpp1 rfl rfl T.sl28 | exact PV.indexAddr hpp1 rfl (by rw [← hzp1]; rfl) T.sl28)) ?_
    refine HP.take rfl rfl rfl rfl hS (fun wS hS1 => (by first | exact PV.load0 T.na2 rfl (by first | exact Cells.up (by assumption) (hBr.trans hS1) | exact Bx.cells (Bx.updD (by assumption) hS1 (Dj.nlR _)) | exact Cells.upd (by assumption) hS1 (by simp)) (Ext.refl _) rfl | exact PV.load1 T.na2 rfl (by first | exact Cells.up (by assumption) (hBr.trans hS1) | exact Bx.cells (Bx.updD (by assumption) hS1 (Dj.nlR _)) | exact Cells.upd (by assumption) hS1 (by simp)) (Ext.refl _) rfl)) ?_
    refine HP.take rfl rfl rfl rfl hS (fun wS hS1 => PV.move rfl) ?_
    refine HP.take rfl rfl rfl rfl hS (fun wS hS1 => PV.move rfl) ?_
    first
      | refine HP.at (x := .tmp 20) (y := .tmp 21) (E := EI) (0) rfl rfl (by first | assumption | exact Inn.rd (by assumption) (by omega)) (by first | omega | (simp only [List.length_set]; omega) | (simp only [List.length_append, List.length_take, List.length_replicate, List.length_drop]; omega)) (fun p2 csp2 hpp2 hcp2 hq => ?_)
      | refine HP.atZ (x := .tmp 20) (y := .tmp 21) (E := EI) (0) rfl rfl (by first | assumption | exact Inn.rd (by assumption) (by omega)) (by first | omega | (simp only [List.length_set]; omega) | (simp only [List.length_append, List.length_take, List.length_replicate, List.length_drop]; omega)) (fun p2 csp2 hpp2 hzp2 hcp2 hq => ?_)
    cases hq
    refine HP.take rfl rfl rfl rfl hS (fun wS hS1 => (by first | exact PV.indexAddr hpp2 rfl rfl T.sl28 | exact PV.indexAddr hpp2 rfl (by rw [← hzp2]; rfl) T.sl28)) ?_
    refine HP.take rfl rfl rfl rfl hS (fun wS hS1 => (by first | exact PV.load0 T.na2 rfl (by first | exact Cells.up (by assumption) (hBr.trans hS1) | exact Bx.cells (Bx.updD (by assumption) hS1 (Dj.nlR _)) | exact Cells.upd (by assumption) hS1 (by simp)) (Ext.refl _) rfl | exact PV.load1 T.na2 rfl (by first | exact Cells.up (by assumption) (hBr.trans hS1) | exact Bx.cells (Bx.updD (by assumption) hS1 (Dj.nlR _)) | exact Cells.upd (by assumption) hS1 (by simp)) (Ext.refl _) rfl)) ?_
    refine HP.take rfl rfl rfl rfl hS (fun wS hS1 => PV.neq rfl rfl) ?_
    refine HP.doneS ?_
    refine CW.cond rfl (fun hc3 => ?_) (fun hc3 => ?_)
    · skip
      try simp only [decide_eq_true_eq, decide_eq_false_iff_not, Bool.not_eq_true', Bool.not_eq_false', Bool.not_eq_eq_eq_not, Bool.not_true, Bool.not_false, Int.not_lt, Int.not_le, Classical.not_not, beq_iff_eq, beq_eq_false_iff_ne] at hc3
      refine CW.seq ?_
      refine CW.reg ?_
      refine WL.pure rfl rfl rfl (PV.assign rfl) ?_
      refine WL.nilS ?_
      refine CW.ret ?_
      refine RQ.block ?_
      refine RQ.then ?_
      refine RQ.then ?_
      refine RQ.block ?_
      refine RQ.then ?_
      refine RQ.r1 rfl ?_
      refine ⟨?_, hB⟩
      first | exact bT (eq_of_takes (by omega) (by omega) he) | exact bF (by rintro rfl; simp_all)
    try simp only [decide_eq_true_eq, decide_eq_false_iff_not, Bool.not_eq_true', Bool.not_eq_false', Bool.not_eq_eq_eq_not, Bool.not_true, Bool.not_false, Int.not_lt, Int.not_le, Classical.not_not, beq_iff_eq, beq_eq_false_iff_ne] at hc3
    refine CW.skip ?_
    refine NQ.block ?_
    refine NQ.then ?_
    refine CW.reg ?_
    refine WL.pure rfl rfl rfl (PV.add rfl rfl (by constructor <;> omega)) ?_
    refine WL.pure rfl rfl rfl (PV.move rfl) ?_
    refine WL.nil ?_
    refine NQ.next (ρ := [(13, _)]) ⟨rfl, rfl, rfl, rfl, trivial⟩ ?_
    exact ⟨_, ⟨k + 1, rfl, rfl, hU0, (by first | omega | assumption | (simp_all; done) | (simp_all; omega)), (by exact take_eq_succ (by omega) (by omega) he (by assumption))⟩, by omega⟩
  try simp only [decide_eq_true_eq, decide_eq_false_iff_not, Bool.not_eq_true', Bool.not_eq_false', Bool.not_eq_eq_eq_not, Bool.not_true, Bool.not_false, Int.not_lt, Int.not_le, Classical.not_not, beq_iff_eq, beq_eq_false_iff_ne] at hc2
  refine CW.exit ?_
  refine XQ.then ?_
  refine XQ.then ?_
  refine XQ.here ?_
  refine NQ.then ?_
  refine CW.seq ?_
  refine CW.reg ?_
  refine WL.pure rfl rfl rfl (PV.assign rfl) ?_
  refine WL.nilS ?_
  refine CW.ret ?_
  refine RQ.r1 rfl ?_
  refine ⟨?_, hB⟩
  first | exact bT (eq_of_takes (by omega) (by omega) he) | exact bF (by rintro rfl; simp_all)
theorem c_impl_OrderWord {w : World} {uc0 uc1 uc2 uc3 : Value} {c : C4} {ud0 ud1 ud2 ud3 : Value} {c2 : C4} {L n : Int} (hch0 : Rd EI w uc0 c.1) (hch1 : Rd EI w uc1 c.2.1) (hch2 : Rd EI w uc2 c.2.2.1) (hch3 : Rd EI w uc3 c.2.2.2) (hdh0 : Rd EI w ud0 c2.1) (hdh1 : Rd EI w ud1 c2.2.1) (hdh2 : Rd EI w ud2 c2.2.2.1) (hdh3 : Rd EI w ud3 c2.2.2.2) : Calls Try.prog 86 #[.agg #[uc0, uc1, uc2, uc3], .agg #[ud0, ud1, ud2, ud3], .int .i64 L, .int .i64 n] w (Ret1 (fun v w' => Ext w w' ∧ ∃ u og_u, v = .tuple #[u, .bool (ordB c c2 L n)] ∧ Osl VI w' og_u u (ordL c c2 L n) ∧ Lo w og_u)) := by
  have hB : Ext w w := Ext.refl w
  have hlc0 := hch0.leI; have hlc1 := hch1.leI; have hlc2 := hch2.leI; have hlc3 := hch3.leI; have hld0 := hdh0.leI; have hld1 := hdh1.leI; have hld2 := hdh2.leI; have hld3 := hdh3.leI
  refine callsOf (vs := [_, _, _, _]) Try.func86 rfl Try.ntmps86 rfl rfl ?_
  refine CW.seq ?_
  refine CW.reg ?_
  refine WL.op rfl (OpK.box rfl rfl (by first | exact Rd.cells1 (by assumption) | exact Osl.cells1 (by assumption) | exact Osn.cells1 (by assumption) | exact Rd.cells1 (NL.rd (by assumption)) | exact Inn.cell1 (by assumption) (by omega) | assumption | rfl) (fun b1 w1 hXw1 hb1 hge1 => ?_))
  have hl1 := Lo.new hB hge1
  have hB := hB.trans hXw1
  refine WL.op rfl (OpK.box rfl rfl (by first | exact Rd.cells1 (by assumption) | exact Osl.cells1 (by assumption) | exact Osn.cells1 (by assumption) | exact Rd.cells1 (NL.rd (by assumption)) | exact Inn.cell1 (by assumption) (by omega) | assumption | rfl) (fun b2 w2 hXw2 hb2 hge2 => ?_))
  have hl2 := Lo.new hB hge2
  have hd1_2 := Dj.new hb1.ltO hge2
  have hB := hB.trans hXw2
  have hb1 := hb1.up hXw2
  refine WL.pure rfl rfl rfl (PV.assign rfl) ?_
  refine WL.pure rfl rfl rfl (PV.assign rfl) ?_
  refine WL.nilS ?_
  refine CW.seq ?_
  refine CW.seq ?_
  refine CW.reg ?_
  refine WL.pure rfl rfl rfl ((by first | exact PV.loadA T.ag107 rfl (by first | exact Cells.up (by assumption) hB | exact Bx.cells (by assumption) | assumption) (Ext.refl _) rfl | exact PV.loadP (ds := [_, _, _, _]) T.ag107 rfl (by first | exact Cells.up (by assumption) hB | exact Bx.cells (by assumption) | assumption) (Ext.refl _) rfl rfl)) ?_
  refine WL.pure rfl rfl rfl (PV.move rfl) ?_
  refine WL.op rfl (OpK.callR rfl T.cf181 rfl (c_impl_ValidChange (by first | assumption | exact Rd.up (by assumption) hB | exact Osl.rd (by assumption) | exact Osn.rdR (by assumption) | exact NL.rd (by assumption) | exact rdII (by assumption) (by assumption) | exact Inn.rd (by assumption) (by omega)) (by first | assumption | exact Rd.up (by assumption) hB | exact Osl.rd (by assumption) | exact Osn.rdR (by assumption) | exact NL.rd (by assumption) | exact rdII (by assumption) (by assumption) | exact Inn.rd (by assumption) (by omega)) (by first | assumption | exact Rd.up (by assumption) hB | exact Osl.rd (by assumption) | exact Osn.rdR (by assumption) | exact NL.rd (by assumption) | exact rdII (by assumption) (by assumption) | exact Inn.rd (by assumption) (by omega)) (by first | assumption | exact Rd.up (by assumption) hB | exact Osl.rd (by assumption) | exact Osn.rdR (by assumption) | exact NL.rd (by assumption) | exact rdII (by assumption) (by assumption) | exact Inn.rd (by assumption) (by omega))) (fun w3 hXw3 => ?_))
  have hB := hB.trans hXw3
  have hb1 := hb1.up hXw3
  have hb2 := hb2.up hXw3
  refine WL.pure rfl rfl rfl (PV.not rfl) ?_
  refine WL.pure rfl rfl rfl (PV.move rfl) ?_
  refine WL.split (t := 20) rfl (fun hc1 => ?_) (fun hc1 => ?_)
  · skip
    try simp only [decide_eq_true_eq, decide_eq_false_iff_not, Bool.not_eq_true', Bool.not_eq_false', Bool.not_eq_eq_eq_not, Bool.not_true, Bool.not_false, Int.not_lt, Int.not_le, Classical.not_not, beq_iff_eq, beq_eq_false_iff_ne] at hc1
    refine WL.skip rfl rfl rfl rfl rfl ?_
    refine WL.skip rfl rfl rfl rfl rfl ?_
    refine WL.skip rfl rfl rfl rfl rfl ?_
    refine WL.skip rfl rfl rfl rfl rfl ?_
    refine WL.pure rfl rfl rfl (PV.pickT rfl rfl) ?_
    refine WL.pure rfl rfl rfl (PV.move rfl) ?_
    refine WL.skip rfl rfl rfl rfl rfl ?_
    refine WL.skip rfl rfl rfl rfl rfl ?_
    refine WL.skip rfl rfl rfl rfl rfl ?_
    refine WL.pure rfl rfl rfl (PV.pickT rfl rfl) ?_
    refine WL.nilS ?_
    refine CW.condT rfl ?_
    refine CW.seq ?_
    refine CW.reg ?_
    refine WL.pure rfl rfl rfl (PV.assign rfl) ?_
    refine WL.pure rfl rfl rfl (PV.assign rfl) ?_
    refine WL.nilS ?_
    refine CW.ret ?_
    refine RQ.then ?_
    refine RQ.r2 rfl rfl ?_
    refine ⟨hB, (.slice none 0 0), none, ?_, osE (Osl.nil _ _) ?_, Lo.nl _⟩
    · skip
      first | (have hO : ordB c c2 L n = false := (by first | exact ord_n1 (by assumption) | exact ord_n2 (by assumption) | exact ord_n3 (by omega) | exact ord_n4 (fun j h => he j (by omega))); exact tE2 rfl (bE hO.symm)) | (have hO := (ord_y (k := k) hV (by omega) he (pO_y (by assumption) (by assumption) (by assumption))); exact tE2 rfl (bE hO.1.symm))
    · skip
      first | (have hO : ordB c c2 L n = false := (by first | exact ord_n1 (by assumption) | exact ord_n2 (by assumption) | exact ord_n3 (by omega) | exact ord_n4 (fun j h => he j (by omega))); exact (ordL_n hO).symm) | (have hO := (ord_y (k := k) hV (by omega) he (pO_y (by assumption) (by assumption) (by assumption))); exact hO.2.symm)
  try simp only [decide_eq_true_eq, decide_eq_false_iff_not, Bool.not_eq_true', Bool.not_eq_false', Bool.not_eq_eq_eq_not, Bool.not_true, Bool.not_false, Int.not_lt, Int.not_le, Classical.not_not, beq_iff_eq, beq_eq_false_iff_ne] at hc1
  refine WL.pureG rfl rfl rfl rfl rfl ((by first | exact PV.loadA T.ag107 rfl (by first | exact Cells.up (by assumption) hB | exact Bx.cells (by assumption) | assumption) (Ext.refl _) rfl | exact PV.loadP (ds := [_, _, _, _]) T.ag107 rfl (by first | exact Cells.up (by assumption) hB | exact Bx.cells (by assumption) | assumption) (Ext.refl _) rfl rfl)) ?_
  refine WL.pureG rfl rfl rfl rfl rfl (PV.move rfl) ?_
  refine WL.opG rfl rfl rfl (OpK.callR rfl T.cf181 rfl (c_impl_ValidChange (by first | assumption | exact Rd.up (by assumption) hB | exact Osl.rd (by assumption) | exact Osn.rdR (by assumption) | exact NL.rd (by assumption) | exact rdII (by assumption) (by assumption) | exact Inn.rd (by assumption) (by omega)) (by first | assumption | exact Rd.up (by assumption) hB | exact Osl.rd (by assumption) | exact Osn.rdR (by assumption) | exact NL.rd (by assumption) | exact rdII (by assumption) (by assumption) | exact Inn.rd (by assumption) (by omega)) (by first | assumption | exact Rd.up (by assumption) hB | exact Osl.rd (by assumption) | exact Osn.rdR (by assumption) | exact NL.rd (by assumption) | exact rdII (by assumption) (by assumption) | exact Inn.rd (by assumption) (by omega)) (by first | assumption | exact Rd.up (by assumption) hB | exact Osl.rd (by assumption) | exact Osn.rdR (by assumption) | exact NL.rd (by assumption) | exact rdII (by assumption) (by assumption) | exact Inn.rd (by assumption) (by omega))) (fun w4 hXw4 => ?_))
  have hB := hB.trans hXw4
  have hb1 := hb1.up hXw4
  have hb2 := hb2.up hXw4
  refine WL.pureG rfl rfl rfl rfl rfl (PV.not rfl) ?_
  refine WL.pure rfl rfl rfl (PV.pickF rfl rfl) ?_
  refine WL.pure rfl rfl rfl (PV.move rfl) ?_
  refine WL.split (t := 26) rfl (fun hc2 => ?_) (fun hc2 => ?_)
  · skip
    try simp only [decide_eq_true_eq, decide_eq_false_iff_not, Bool.not_eq_true', Bool.not_eq_false', Bool.not_eq_eq_eq_not, Bool.not_true, Bool.not_false, Int.not_lt, Int.not_le, Classical.not_not, beq_iff_eq, beq_eq_false_iff_ne] at hc2
    refine WL.skip rfl rfl rfl rfl rfl ?_
    refine WL.skip rfl rfl rfl rfl rfl ?_
    refine WL.skip rfl rfl rfl rfl rfl ?_
    refine WL.pure rfl rfl rfl (PV.pickT rfl rfl) ?_
    refine WL.nilS ?_
    refine CW.condT rfl ?_
    refine CW.seq ?_
    refine CW.reg ?_
    refine WL.pure rfl rfl rfl (PV.assign rfl) ?_
    refine WL.pure rfl rfl rfl (PV.assign rfl) ?_
    refine WL.nilS ?_
    refine CW.ret ?_
    refine RQ.then ?_
    refine RQ.r2 rfl rfl ?_
    refine ⟨hB, (.slice none 0 0), none, ?_, osE (Osl.nil _ _) ?_, Lo.nl _⟩
    · skip
      first | (have hO : ordB c c2 L n = false := (by first | exact ord_n1 (by assumption) | exact ord_n2 (by assumption) | exact ord_n3 (by omega) | exact ord_n4 (fun j h => he j (by omega))); exact tE2 rfl (bE hO.symm)) | (have hO := (ord_y (k := k) hV (by omega) he (pO_y (by assumption) (by assumption) (by assumption))); exact tE2 rfl (bE hO.1.symm))
    · skip
      first | (have hO : ordB c c2 L n = false := (by first | exact ord_n1 (by assumption) | exact ord_n2 (by assumption) | exact ord_n3 (by omega) | exact ord_n4 (fun j h => he j (by omega))); exact (ordL_n hO).symm) | (have hO := (ord_y (k := k) hV (by omega) he (pO_y (by assumption) (by assumption) (by assumption))); exact hO.2.symm)
  try simp only [decide_eq_true_eq, decide_eq_false_iff_not, Bool.not_eq_true', Bool.not_eq_false', Bool.not_eq_eq_eq_not, Bool.not_true, Bool.not_false, Int.not_lt, Int.not_le, Classical.not_not, beq_iff_eq, beq_eq_false_iff_ne] at hc2
  refine WL.pureG rfl rfl rfl rfl rfl (PV.move rfl) ?_
  refine WL.opG rfl rfl rfl (OpK.callR rfl T.cf104 rfl (c_impl_within) (fun w5 hXw5 => ?_))
  have hB := hB.trans hXw5
  have hb1 := hb1.up hXw5
  have hb2 := hb2.up hXw5
  refine WL.pureG rfl rfl rfl rfl rfl (PV.not rfl) ?_
  refine WL.pure rfl rfl rfl (PV.pickF rfl rfl) ?_
  refine WL.nilS ?_
  refine CW.cond rfl (fun hc3 => ?_) (fun hc3 => ?_)
  · skip
    try simp only [decide_eq_true_eq, decide_eq_false_iff_not, Bool.not_eq_true', Bool.not_eq_false', Bool.not_eq_eq_eq_not, Bool.not_true, Bool.not_false, Int.not_lt, Int.not_le, Classical.not_not, beq_iff_eq, beq_eq_false_iff_ne] at hc3
    refine CW.seq ?_
    refine CW.reg ?_
    refine WL.pure rfl rfl rfl (PV.assign rfl) ?_
    refine WL.pure rfl rfl rfl (PV.assign rfl) ?_
    refine WL.nilS ?_
    refine CW.ret ?_
    refine RQ.then ?_
    refine RQ.r2 rfl rfl ?_
    refine ⟨hB, (.slice none 0 0), none, ?_, osE (Osl.nil _ _) ?_, Lo.nl _⟩
    · skip
      first | (have hO : ordB c c2 L n = false := (by first | exact ord_n1 (by assumption) | exact ord_n2 (by assumption) | exact ord_n3 (by omega) | exact ord_n4 (fun j h => he j (by omega))); exact tE2 rfl (bE hO.symm)) | (have hO := (ord_y (k := k) hV (by omega) he (pO_y (by assumption) (by assumption) (by assumption))); exact tE2 rfl (bE hO.1.symm))
    · skip
      first | (have hO : ordB c c2 L n = false := (by first | exact ord_n1 (by assumption) | exact ord_n2 (by assumption) | exact ord_n3 (by omega) | exact ord_n4 (fun j h => he j (by omega))); exact (ordL_n hO).symm) | (have hO := (ord_y (k := k) hV (by omega) he (pO_y (by assumption) (by assumption) (by assumption))); exact hO.2.symm)
  try simp only [decide_eq_true_eq, decide_eq_false_iff_not, Bool.not_eq_true', Bool.not_eq_false', Bool.not_eq_eq_eq_not, Bool.not_true, Bool.not_false, Int.not_lt, Int.not_le, Classical.not_not, beq_iff_eq, beq_eq_false_iff_ne] at hc3
  refine CW.skipS ?_
  refine CW.seq ?_
  refine CW.seq ?_
  refine CW.reg ?_
  refine WL.pure rfl rfl rfl (PV.move rfl) ?_
  refine WL.pure rfl rfl rfl (PV.move rfl) ?_
  have hcv := chB_y (by assumption : chB c L = true); have hok := hcv.1; have hL := hcv.2; have hok2 := (chB_y (by assumption : chB c2 L = true)).1; have hn05 : 0 ≤ n ∧ n ≤ 5 := (by first | assumption | omega); have hV := ordV_y (by assumption : chB c L = true) (by assumption : chB c2 L = true) hn05
  refine WL.op rfl (OpK.call rfl T.cf156 rfl (c_impl_wordsUpTo (by first | assumption | omega | (simp only [marks_len, marksB_len, marksR_len, sumL_marksS, List.length_take]; omega)) (by first | assumption | omega | (simp only [marks_len, marksB_len, marksR_len, sumL_marksS, List.length_take]; omega))) (fun rv1 w6 hR => ?_))
  obtain ⟨hXw6, v3, og3, vs4, os4, rfl, ho3, hq3, hn4, hq4, hd3_4⟩ := hR
  have hl3 := Lo.up hq3 hB
  have hd1_3 := Dj.lo hb1.ltO hq3
  have hd2_3 := Dj.lo hb2.ltO hq3
  have hl4 := LoI.up hq4 hB
  have hlv4 := hn4.lv
  have hd1_4 := DI.lo hb1.ltO hq4
  have hd2_4 := DI.lo hb2.ltO hq4
  have hB := hB.trans hXw6
  have hb1 := hb1.up hXw6
  have hb2 := hb2.up hXw6
  refine WL.pure rfl rfl rfl ((PV.lenOs rfl ho3 T.sl25)) ?_
  refine WL.pure rfl rfl rfl (PV.move rfl) ?_
  refine WL.nilS ?_
  refine CW.block ?_
  refine CW.loop (σk := [(4, _), (5, _), (33, _), (34, _)]) (fun ρ wz m => ∃ (k : Nat), ρ = [(35, .int .i64 (k : Nat))] ∧ m = (wordsP L (n.toNat + 1)).length - k ∧ UpdL [] w6 wz ∧ (k ≤ (wordsP L (n.toNat + 1)).length) ∧ (∀ j : Nat, j < k → pO c c2 (wordsP L (n.toNat + 1)) j = false)) (ρ₀ := [(35, _)]) (m₀ := _) ⟨rfl, rfl, rfl, rfl, rfl, trivial⟩ ⟨0, rfl, rfl, (UpdL.refl _ _), (by first | omega | rfl | (simp; done) | assumption | (simp_all; done)), (by intro j h; omega)⟩ ?_
  rintro _ wl1 _ ⟨k, rfl, rfl, hU0, hk, he⟩
  have hb1 := hb1.loop hU0 trivial
  have hb2 := hb2.loop hU0 trivial
  have ho3 := ho3.loop hU0 trivial
  have hn4 := hn4.loop hU0 trivial
  have hB := hB.loop hU0 trivial
  have hpl := wordsP_len (L := L) (by omega) (n.toNat + 1) (by omega)
  refine CW.seq ?_
  refine CW.reg ?_
  refine WL.pure rfl rfl rfl (PV.lss rfl rfl) ?_
  refine WL.nilS ?_
  refine CW.seq ?_
  refine CW.cond rfl (fun hc4 => ?_) (fun hc4 => ?_)
  · skip
    try simp only [decide_eq_true_eq, decide_eq_false_iff_not, Bool.not_eq_true', Bool.not_eq_false', Bool.not_eq_eq_eq_not, Bool.not_true, Bool.not_false, Int.not_lt, Int.not_le, Classical.not_not, beq_iff_eq, beq_eq_false_iff_ne] at hc4
    refine CW.skipS ?_
    refine CW.seq ?_
    refine CW.block ?_
    refine CW.seq ?_
    refine CW.reg ?_
    first
      | refine WL.atO (x := .tmp 33) (y := .tmp 35) (f := VV) (.slice none 0 0) rfl rfl ho3 (by first | omega | (simp only [List.length_set]; omega) | (simp only [List.length_append, List.length_take, List.length_replicate, List.length_drop]; omega)) (fun p1 hpp1 hcp1 => ?_)
      | refine WL.atOZ (x := .tmp 33) (y := .tmp 35) (f := VV) (.slice none 0 0) rfl rfl ho3 (by first | omega | (simp only [List.length_set]; omega) | (simp only [List.length_append, List.length_take, List.length_replicate, List.length_drop]; omega)) (fun p1 hpp1 hzp1 hcp1 => ?_)
    refine WL.pure rfl rfl rfl ((by first | exact PV.indexAddr hpp1 rfl rfl T.sl25 | exact PV.indexAddr hpp1 rfl (by rw [← hzp1]; rfl) T.sl25)) ?_
    refine WL.pure rfl rfl rfl ((by first | exact PV.load0 T.na28 rfl (by first | exact Cells.up (by assumption) hB | exact Bx.cells (by assumption) | assumption) (Ext.refl _) rfl | exact PV.load1 T.na28 rfl (by first | exact Cells.up (by assumption) hB | exact Bx.cells (by assumption) | assumption) (Ext.refl _) rfl)) ?_
    refine WL.pure rfl rfl rfl (PV.assign rfl) ?_
    refine WL.nilS ?_
    refine CW.seq ?_
    refine CW.reg ?_
    refine WL.pure rfl rfl rfl ((by first | exact PV.loadA T.ag107 rfl (by first | exact Cells.up (by assumption) hB | exact Bx.cells (by assumption) | assumption) (Ext.refl _) rfl | exact PV.loadP (ds := [_, _, _, _]) T.ag107 rfl (by first | exact Cells.up (by assumption) hB | exact Bx.cells (by assumption) | assumption) (Ext.refl _) rfl rfl)) ?_
    refine WL.pure rfl rfl rfl ((by first | exact PV.loadA T.ag107 rfl (by first | exact Cells.up (by assumption) hB | exact Bx.cells (by assumption) | assumption) (Ext.refl _) rfl | exact PV.loadP (ds := [_, _, _, _]) T.ag107 rfl (by first | exact Cells.up (by assumption) hB | exact Bx.cells (by assumption) | assumption) (Ext.refl _) rfl rfl)) ?_
    have hw5 := wordsP_get (L := L) (m := n.toNat) (k := k) (by omega)
    refine WL.op rfl (OpK.buildCh (os := [.tmp 40, .tmp 41]) [[_, _, _, _], [_, _, _, _]] [c, c2] rfl T.sl98 rfl rfl T.zv107 rfl (by intro c hc; simp only [List.mem_cons, List.not_mem_nil, or_false] at hc; rcases hc with rfl | rfl <;> rfl) rfl (by intro w' hw' j c x hj hx; rcases j with _ | _ | j <;> simp at hj hx; all_goals (first | (obtain ⟨rfl, rfl⟩ := And.intro hj hx; exact ECh.mk (Rd.up (by assumption) (Ext.trans hB hw')) (Rd.up (by assumption) (Ext.trans hB hw')) (Rd.up (by assumption) (Ext.trans hB hw')) (Rd.up (by assumption) (Ext.trans hB hw'))) | skip)) rfl (fun v5 w7 hXw7 hr5 => ?_))
    have hB := hB.trans hXw7
    have hb1 := hb1.up hXw7
    have hb2 := hb2.up hXw7
    have ho3 := ho3.up hXw7
    have hn4 := hn4.up hXw7
    have hU0 := hU0.ext hXw7
    refine WL.pure rfl rfl rfl (PV.move rfl) ?_
    refine WL.op rfl (OpK.call rfl T.cf178 rfl (c_impl_runChanges (by first | assumption | exact Rd.up (by assumption) hB | exact rdCh (by assumption) (by assumption)) (by first | assumption | exact Rd.up (by assumption) hB | exact Osl.rd (by assumption) | exact Osn.rdR (by assumption) | exact NL.rd (by assumption) | exact rdII (by assumption) (by assumption) | exact Inn.rd (by assumption) (by omega)) (by first | assumption | omega | (simp only [marks_len, marksB_len, marksR_len, sumL_marksS, List.length_take]; omega)) (by first | assumption | (intro k9 h9; simp only [List.length_cons, List.length_nil] at h9; rcases (show k9 = 0 ∨ k9 = 1 by omega) with rfl | rfl <;> first | assumption | (exfalso; omega)))) (fun rv2 w8 hR => ?_))
    obtain ⟨hXw8, v6, og6, rfl, ho6, hq6⟩ := hR
    have hl6 := Lo.up hq6 hB
    have hd1_6 := Dj.lo hb1.ltO hq6
    have hd2_6 := Dj.lo hb2.ltO hq6
    have hd3_6 := Dj.lo ho3.ltO hq6
    have hd4_6 := DI.fresh hn4 hq6
    have hk0_6 := OkN.lo hU0 hq6
    have hg0_6 := OgR.lo hU0.size hq6
    have hB := hB.trans hXw8
    have hb1 := hb1.up hXw8
    have hb2 := hb2.up hXw8
    have ho3 := ho3.up hXw8
    have hn4 := hn4.up hXw8
    have hr5 := hr5.up hXw8
    have hU0 := hU0.ext hXw8
    refine WL.pure rfl rfl rfl (PV.move rfl) ?_
    refine WL.pure rfl rfl rfl (PV.extract rfl rfl) ?_
    refine WL.pure rfl rfl rfl (PV.extract rfl rfl) ?_
    refine WL.pure rfl rfl rfl (PV.assign rfl) ?_
    refine WL.pure rfl rfl rfl (PV.assign rfl) ?_
    refine WL.nilS ?_
    refine CW.seq ?_
    refine CW.reg ?_
    refine WL.pure rfl rfl rfl ((by first | exact PV.loadA T.ag107 rfl (by first | exact Cells.up (by assumption) hB | exact Bx.cells (by assumption) | assumption) (Ext.refl _) rfl | exact PV.loadP (ds := [_, _, _, _]) T.ag107 rfl (by first | exact Cells.up (by assumption) hB | exact Bx.cells (by assumption) | assumption) (Ext.refl _) rfl rfl)) ?_
    refine WL.pure rfl rfl rfl ((by first | exact PV.loadA T.ag107 rfl (by first | exact Cells.up (by assumption) hB | exact Bx.cells (by assumption) | assumption) (Ext.refl _) rfl | exact PV.loadP (ds := [_, _, _, _]) T.ag107 rfl (by first | exact Cells.up (by assumption) hB | exact Bx.cells (by assumption) | assumption) (Ext.refl _) rfl rfl)) ?_
    refine WL.op rfl (OpK.buildCh (os := [.tmp 48, .tmp 49]) [[_, _, _, _], [_, _, _, _]] [c2, c] rfl T.sl98 rfl rfl T.zv107 rfl (by intro c hc; simp only [List.mem_cons, List.not_mem_nil, or_false] at hc; rcases hc with rfl | rfl <;> rfl) rfl (by intro w' hw' j c x hj hx; rcases j with _ | _ | j <;> simp at hj hx; all_goals (first | (obtain ⟨rfl, rfl⟩ := And.intro hj hx; exact ECh.mk (Rd.up (by assumption) (Ext.trans hB hw')) (Rd.up (by assumption) (Ext.trans hB hw')) (Rd.up (by assumption) (Ext.trans hB hw')) (Rd.up (by assumption) (Ext.trans hB hw'))) | skip)) rfl (fun v7 w9 hXw9 hr7 => ?_))
    have hB := hB.trans hXw9
    have hb1 := hb1.up hXw9
    have hb2 := hb2.up hXw9
    have ho3 := ho3.up hXw9
    have hn4 := hn4.up hXw9
    have hr5 := hr5.up hXw9
    have ho6 := ho6.up hXw9
    have hU0 := hU0.ext hXw9
    refine WL.pure rfl rfl rfl (PV.move rfl) ?_
    refine WL.op rfl (OpK.call rfl T.cf178 rfl (c_impl_runChanges (by first | assumption | exact Rd.up (by assumption) hB | exact rdCh (by assumption) (by assumption)) (by first | assumption | exact Rd.up (by assumption) hB | exact Osl.rd (by assumption) | exact Osn.rdR (by assumption) | exact NL.rd (by assumption) | exact rdII (by assumption) (by assumption) | exact Inn.rd (by assumption) (by omega)) (by first | assumption | omega | (simp only [marks_len, marksB_len, marksR_len, sumL_marksS, List.length_take]; omega)) (by first | assumption | (intro k9 h9; simp only [List.length_cons, List.length_nil] at h9; rcases (show k9 = 0 ∨ k9 = 1 by omega) with rfl | rfl <;> first | assumption | (exfalso; omega)))) (fun rv3 w10 hR => ?_))
    obtain ⟨hXw10, v8, og8, rfl, ho8, hq8⟩ := hR
    have hl8 := Lo.up hq8 hB
    have hd1_8 := Dj.lo hb1.ltO hq8
    have hd2_8 := Dj.lo hb2.ltO hq8
    have hd3_8 := Dj.lo ho3.ltO hq8
    have hd4_8 := DI.fresh hn4 hq8
    have hd6_8 := Dj.lo ho6.ltO hq8
    have hk0_8 := OkN.lo hU0 hq8
    have hg0_8 := OgR.lo hU0.size hq8
    have hB := hB.trans hXw10
    have hb1 := hb1.up hXw10
    have hb2 := hb2.up hXw10
    have ho3 := ho3.up hXw10
    have hn4 := hn4.up hXw10
    have hr5 := hr5.up hXw10
    have ho6 := ho6.up hXw10
    have hr7 := hr7.up hXw10
    have hU0 := hU0.ext hXw10
    refine WL.pure rfl rfl rfl (PV.move rfl) ?_
    refine WL.pure rfl rfl rfl (PV.extract rfl rfl) ?_
    refine WL.pure rfl rfl rfl (PV.extract rfl rfl) ?_
    refine WL.pure rfl rfl rfl (PV.assign rfl) ?_
    refine WL.pure rfl rfl rfl (PV.assign rfl) ?_
    refine WL.nilS ?_
    refine CW.seq ?_
    refine CW.reg ?_
    refine WL.pure rfl rfl rfl (PV.move rfl) ?_
    refine WL.pure rfl rfl rfl (PV.move rfl) ?_
    refine WL.split (t := 56) rfl (fun hc5 => ?_) (fun hc5 => ?_)
    rotate_left
    · skip
      try simp only [decide_eq_true_eq, decide_eq_false_iff_not, Bool.not_eq_true', Bool.not_eq_false', Bool.not_eq_eq_eq_not, Bool.not_true, Bool.not_false, Int.not_lt, Int.not_le, Classical.not_not, beq_iff_eq, beq_eq_false_iff_ne] at hc5
      refine WL.skip rfl rfl rfl rfl rfl ?_
      refine WL.pure rfl rfl rfl (PV.pickF rfl rfl) ?_
      refine WL.pure rfl rfl rfl (PV.move rfl) ?_
      refine WL.skip rfl rfl rfl rfl rfl ?_
      refine WL.skip rfl rfl rfl rfl rfl ?_
      refine WL.skip rfl rfl rfl rfl rfl ?_
      refine WL.skip rfl rfl rfl rfl rfl ?_
      refine WL.pure rfl rfl rfl (PV.pickF rfl rfl) ?_
      refine WL.nilS ?_
      refine CW.condF rfl ?_
      refine CW.skip ?_
      refine NQ.block ?_
      refine NQ.then ?_
      refine CW.reg ?_
      refine WL.pure rfl rfl rfl (PV.add rfl rfl (by constructor <;> omega)) ?_
      refine WL.pure rfl rfl rfl (PV.move rfl) ?_
      refine WL.nil ?_
      refine NQ.next (ρ := [(35, _)]) ⟨rfl, rfl, rfl, rfl, rfl, trivial⟩ ?_
      exact ⟨_, ⟨k + 1, rfl, rfl, hU0, (by first | omega | assumption | (simp_all; done) | (simp_all; omega)), (by intro j h; rcases Nat.lt_succ_iff_lt_or_eq.1 h with h | rfl; exact he j h; first | exact pO_n1 (by assumption) | exact pO_n2 (by assumption) | exact pO_n3 (by assumption))⟩, by omega⟩
    try simp only [decide_eq_true_eq, decide_eq_false_iff_not, Bool.not_eq_true', Bool.not_eq_false', Bool.not_eq_eq_eq_not, Bool.not_true, Bool.not_false, Int.not_lt, Int.not_le, Classical.not_not, beq_iff_eq, beq_eq_false_iff_ne] at hc5
    refine WL.pureG rfl rfl rfl rfl rfl (PV.move rfl) ?_
    refine WL.pure rfl rfl rfl (PV.pickT rfl rfl) ?_
    refine WL.pure rfl rfl rfl (PV.move rfl) ?_
    refine WL.split (t := 59) rfl (fun hc6 => ?_) (fun hc6 => ?_)
    rotate_left
    · skip
      try simp only [decide_eq_true_eq, decide_eq_false_iff_not, Bool.not_eq_true', Bool.not_eq_false', Bool.not_eq_eq_eq_not, Bool.not_true, Bool.not_false, Int.not_lt, Int.not_le, Classical.not_not, beq_iff_eq, beq_eq_false_iff_ne] at hc6
      refine WL.skip rfl rfl rfl rfl rfl ?_
      refine WL.skip rfl rfl rfl rfl rfl ?_
      refine WL.skip rfl rfl rfl rfl rfl ?_
      refine WL.skip rfl rfl rfl rfl rfl ?_
      refine WL.pure rfl rfl rfl (PV.pickF rfl rfl) ?_
      refine WL.nilS ?_
      refine CW.condF rfl ?_
      refine CW.skip ?_
      refine NQ.block ?_
      refine NQ.then ?_
      refine CW.reg ?_
      refine WL.pure rfl rfl rfl (PV.add rfl rfl (by constructor <;> omega)) ?_
      refine WL.pure rfl rfl rfl (PV.move rfl) ?_
      refine WL.nil ?_
      refine NQ.next (ρ := [(35, _)]) ⟨rfl, rfl, rfl, rfl, rfl, trivial⟩ ?_
      exact ⟨_, ⟨k + 1, rfl, rfl, hU0, (by first | omega | assumption | (simp_all; done) | (simp_all; omega)), (by intro j h; rcases Nat.lt_succ_iff_lt_or_eq.1 h with h | rfl; exact he j h; first | exact pO_n1 (by assumption) | exact pO_n2 (by assumption) | exact pO_n3 (by assumption))⟩, by omega⟩
    try simp only [decide_eq_true_eq, decide_eq_false_iff_not, Bool.not_eq_true', Bool.not_eq_false', Bool.not_eq_eq_eq_not, Bool.not_true, Bool.not_false, Int.not_lt, Int.not_le, Classical.not_not, beq_iff_eq, beq_eq_false_iff_ne] at hc6
    refine WL.pureG rfl rfl rfl rfl rfl (PV.move rfl) ?_
    refine WL.pureG rfl rfl rfl rfl rfl (PV.move rfl) ?_
    refine WL.opG rfl rfl rfl (OpK.callR rfl T.cf142 rfl (c_slices_Equal_int64_int64 (by first | assumption | exact Rd.up (by assumption) hB | exact Osl.rd (by assumption) | exact Osn.rdR (by assumption) | exact NL.rd (by assumption) | exact rdII (by assumption) (by assumption) | exact Inn.rd (by assumption) (by omega)) (by first | assumption | exact Rd.up (by assumption) hB | exact Osl.rd (by assumption) | exact Osn.rdR (by assumption) | exact NL.rd (by assumption) | exact rdII (by assumption) (by assumption) | exact Inn.rd (by assumption) (by omega))) (fun w11 hXw11 => ?_))
    have hB := hB.trans hXw11
    have hb1 := hb1.up hXw11
    have hb2 := hb2.up hXw11
    have ho3 := ho3.up hXw11
    have hn4 := hn4.up hXw11
    have hr5 := hr5.up hXw11
    have ho6 := ho6.up hXw11
    have hr7 := hr7.up hXw11
    have ho8 := ho8.up hXw11
    have hU0 := hU0.ext hXw11
    refine WL.pureG rfl rfl rfl rfl rfl (PV.not rfl) ?_
    refine WL.pure rfl rfl rfl (PV.pickT rfl rfl) ?_
    refine WL.nilS ?_
    refine CW.cond rfl (fun hc7 => ?_) (fun hc7 => ?_)
    · skip
      try simp only [decide_eq_true_eq, decide_eq_false_iff_not, Bool.not_eq_true', Bool.not_eq_false', Bool.not_eq_eq_eq_not, Bool.not_true, Bool.not_false, Int.not_lt, Int.not_le, Classical.not_not, beq_iff_eq, beq_eq_false_iff_ne] at hc7
      refine CW.seq ?_
      refine CW.reg ?_
      refine WL.pure rfl rfl rfl (PV.move rfl) ?_
      refine WL.pure rfl rfl rfl (PV.assign rfl) ?_
      refine WL.pure rfl rfl rfl (PV.assign rfl) ?_
      refine WL.nilS ?_
      refine CW.ret ?_
      refine RQ.block ?_
      refine RQ.then ?_
      refine RQ.then ?_
      refine RQ.block ?_
      refine RQ.then ?_
      refine RQ.r2 rfl rfl ?_
      refine ⟨hB, (vs4.getD k (.slice none 0 0)), (os4.getD k none), ?_, osE (Inn.get hn4 k (by omega)) ?_, (hl4 _ (getD_mem (by have := hn4.lo; omega)))⟩
      · skip
        first | (have hO : ordB c c2 L n = false := (by first | exact ord_n1 (by assumption) | exact ord_n2 (by assumption) | exact ord_n3 (by omega) | exact ord_n4 (fun j h => he j (by omega))); exact tE2 rfl (bE hO.symm)) | (have hO := (ord_y (k := k) hV (by omega) he (pO_y (by assumption) (by assumption) (by assumption))); exact tE2 rfl (bE hO.1.symm))
      · skip
        first | (have hO : ordB c c2 L n = false := (by first | exact ord_n1 (by assumption) | exact ord_n2 (by assumption) | exact ord_n3 (by omega) | exact ord_n4 (fun j h => he j (by omega))); exact (ordL_n hO).symm) | (have hO := (ord_y (k := k) hV (by omega) he (pO_y (by assumption) (by assumption) (by assumption))); exact hO.2.symm)
    try simp only [decide_eq_true_eq, decide_eq_false_iff_not, Bool.not_eq_true', Bool.not_eq_false', Bool.not_eq_eq_eq_not, Bool.not_true, Bool.not_false, Int.not_lt, Int.not_le, Classical.not_not, beq_iff_eq, beq_eq_false_iff_ne] at hc7
    refine CW.skip ?_
    refine NQ.block ?_
    refine NQ.then ?_
    refine CW.reg ?_
    refine WL.pure rfl rfl rfl (PV.add rfl rfl (by constructor <;> omega)) ?_
    refine WL.pure rfl rfl rfl (PV.move rfl) ?_
    refine WL.nil ?_
    refine NQ.next (ρ := [(35, _)]) ⟨rfl, rfl, rfl, rfl, rfl, trivial⟩ ?_
    exact ⟨_, ⟨k + 1, rfl, rfl, hU0, (by first | omega | assumption | (simp_all; done) | (simp_all; omega)), (by intro j h; rcases Nat.lt_succ_iff_lt_or_eq.1 h with h | rfl; exact he j h; first | exact pO_n1 (by assumption) | exact pO_n2 (by assumption) | exact pO_n3 (by assumption))⟩, by omega⟩
  try simp only [decide_eq_true_eq, decide_eq_false_iff_not, Bool.not_eq_true', Bool.not_eq_false', Bool.not_eq_eq_eq_not, Bool.not_true, Bool.not_false, Int.not_lt, Int.not_le, Classical.not_not, beq_iff_eq, beq_eq_false_iff_ne] at hc4
  refine CW.exit ?_
  refine XQ.then ?_
  refine XQ.then ?_
  refine XQ.here ?_
  refine NQ.then ?_
  refine CW.seq ?_
  refine CW.reg ?_
  refine WL.pure rfl rfl rfl (PV.assign rfl) ?_
  refine WL.pure rfl rfl rfl (PV.assign rfl) ?_
  refine WL.nilS ?_
  refine CW.ret ?_
  refine RQ.r2 rfl rfl ?_
  refine ⟨hB, (.slice none 0 0), none, ?_, osE (Osl.nil _ _) ?_, Lo.nl _⟩
  · skip
    first | (have hO : ordB c c2 L n = false := (by first | exact ord_n1 (by assumption) | exact ord_n2 (by assumption) | exact ord_n3 (by omega) | exact ord_n4 (fun j h => he j (by omega))); exact tE2 rfl (bE hO.symm)) | (have hO := (ord_y (k := k) hV (by omega) he (pO_y (by assumption) (by assumption) (by assumption))); exact tE2 rfl (bE hO.1.symm))
  · skip
    first | (have hO : ordB c c2 L n = false := (by first | exact ord_n1 (by assumption) | exact ord_n2 (by assumption) | exact ord_n3 (by omega) | exact ord_n4 (fun j h => he j (by omega))); exact (ordL_n hO).symm) | (have hO := (ord_y (k := k) hV (by omega) he (pO_y (by assumption) (by assumption) (by assumption))); exact hO.2.symm)
theorem c_spec_OrderWord {w : World} {uc0 uc1 uc2 uc3 : Value} {c : C4} {ud0 ud1 ud2 ud3 : Value} {c2 : C4} {L n : Int} (hch0 : Rd EI w uc0 c.1) (hch1 : Rd EI w uc1 c.2.1) (hch2 : Rd EI w uc2 c.2.2.1) (hch3 : Rd EI w uc3 c.2.2.2) (hdh0 : Rd EI w ud0 c2.1) (hdh1 : Rd EI w ud1 c2.2.1) (hdh2 : Rd EI w ud2 c2.2.2.1) (hdh3 : Rd EI w ud3 c2.2.2.2) : Calls Try.prog 87 #[.agg #[uc0, uc1, uc2, uc3], .agg #[ud0, ud1, ud2, ud3], .int .i64 L, .int .i64 n] w (Ret1 (fun v w' => Ext w w' ∧ ∃ u og_u, v = .tuple #[u, .bool (ordB c c2 L n)] ∧ Osl VI w' og_u u (ordL c c2 L n) ∧ Lo w og_u)) := by
  have hB : Ext w w := Ext.refl w
  have hlc0 := hch0.leI; have hlc1 := hch1.leI; have hlc2 := hch2.leI; have hlc3 := hch3.leI; have hld0 := hdh0.leI; have hld1 := hdh1.leI; have hld2 := hdh2.leI; have hld3 := hdh3.leI
  refine callsOf (vs := [_, _, _, _]) Try.func87 rfl Try.ntmps87 rfl rfl ?_
  refine CW.seq ?_
  refine CW.reg ?_
  refine WL.op rfl (OpK.box rfl rfl (by first | exact Rd.cells1 (by assumption) | exact Osl.cells1 (by assumption) | exact Osn.cells1 (by assumption) | exact Rd.cells1 (NL.rd (by assumption)) | exact Inn.cell1 (by assumption) (by omega) | assumption | rfl) (fun b1 w1 hXw1 hb1 hge1 => ?_))
  have hl1 := Lo.new hB hge1
  have hB := hB.trans hXw1
  refine WL.op rfl (OpK.box rfl rfl (by first | exact Rd.cells1 (by assumption) | exact Osl.cells1 (by assumption) | exact Osn.cells1 (by assumption) | exact Rd.cells1 (NL.rd (by assumption)) | exact Inn.cell1 (by assumption) (by omega) | assumption | rfl) (fun b2 w2 hXw2 hb2 hge2 => ?_))
  have hl2 := Lo.new hB hge2
  have hd1_2 := Dj.new hb1.ltO hge2
  have hB := hB.trans hXw2
  have hb1 := hb1.up hXw2
  refine WL.pure rfl rfl rfl (PV.assign rfl) ?_
  refine WL.pure rfl rfl rfl (PV.assign rfl) ?_
  refine WL.nilS ?_
  refine CW.seq ?_
  refine CW.seq ?_
  refine CW.reg ?_
  refine WL.pure rfl rfl rfl (PV.move rfl) ?_
  refine WL.op rfl (OpK.callR rfl T.cf182 rfl (c_spec_l05Is (by first | exact Bx.cells (by assumption) | exact Cells.up (by assumption) hB | assumption | exact Cells.add (Bx.cells (by assumption)) _ | exact Cells.add (Cells.up (by assumption) hB) _) (by first | assumption | exact Rd.up (by assumption) hB | exact Osl.rd (by assumption) | exact Osn.rdR (by assumption) | exact NL.rd (by assumption) | exact rdII (by assumption) (by assumption) | exact Inn.rd (by assumption) (by omega)) (by first | assumption | exact Rd.up (by assumption) hB | exact Osl.rd (by assumption) | exact Osn.rdR (by assumption) | exact NL.rd (by assumption) | exact rdII (by assumption) (by assumption) | exact Inn.rd (by assumption) (by omega)) (by first | assumption | exact Rd.up (by assumption) hB | exact Osl.rd (by assumption) | exact Osn.rdR (by assumption) | exact NL.rd (by assumption) | exact rdII (by assumption) (by assumption) | exact Inn.rd (by assumption) (by omega)) (by first | assumption | exact Rd.up (by assumption) hB | exact Osl.rd (by assumption) | exact Osn.rdR (by assumption) | exact NL.rd (by assumption) | exact rdII (by assumption) (by assumption) | exact Inn.rd (by assumption) (by omega))) (fun w3 hXw3 => ?_))
  have hB := hB.trans hXw3
  have hb1 := hb1.up hXw3
  have hb2 := hb2.up hXw3
  refine WL.pure rfl rfl rfl (PV.not rfl) ?_
  refine WL.pure rfl rfl rfl (PV.move rfl) ?_
  refine WL.split (t := 19) rfl (fun hc1 => ?_) (fun hc1 => ?_)
  · skip
    try simp only [decide_eq_true_eq, decide_eq_false_iff_not, Bool.not_eq_true', Bool.not_eq_false', Bool.not_eq_eq_eq_not, Bool.not_true, Bool.not_false, Int.not_lt, Int.not_le, Classical.not_not, beq_iff_eq, beq_eq_false_iff_ne] at hc1
    refine WL.skip rfl rfl rfl rfl rfl ?_
    refine WL.skip rfl rfl rfl rfl rfl ?_
    refine WL.skip rfl rfl rfl rfl rfl ?_
    refine WL.pure rfl rfl rfl (PV.pickT rfl rfl) ?_
    refine WL.pure rfl rfl rfl (PV.move rfl) ?_
    refine WL.skip rfl rfl rfl rfl rfl ?_
    refine WL.skip rfl rfl rfl rfl rfl ?_
    refine WL.skip rfl rfl rfl rfl rfl ?_
    refine WL.pure rfl rfl rfl (PV.pickT rfl rfl) ?_
    refine WL.nilS ?_
    refine CW.condT rfl ?_
    refine CW.seq ?_
    refine CW.reg ?_
    refine WL.pure rfl rfl rfl (PV.assign rfl) ?_
    refine WL.pure rfl rfl rfl (PV.assign rfl) ?_
    refine WL.nilS ?_
    refine CW.ret ?_
    refine RQ.then ?_
    refine RQ.r2 rfl rfl ?_
    refine ⟨hB, (.slice none 0 0), none, ?_, osE (Osl.nil _ _) ?_, Lo.nl _⟩
    · skip
      first | (have hO : ordB c c2 L n = false := (by first | exact ord_n1 (by assumption) | exact ord_n2 (by assumption) | exact ord_n3 (by omega) | exact ord_n4 (fun j h => he j (by omega))); exact tE2 rfl (bE hO.symm)) | (have hO := (ord_y (k := k) hV (by omega) he (pO_y (by assumption) (by assumption) (by assumption))); exact tE2 rfl (bE hO.1.symm))
    · skip
      first | (have hO : ordB c c2 L n = false := (by first | exact ord_n1 (by assumption) | exact ord_n2 (by assumption) | exact ord_n3 (by omega) | exact ord_n4 (fun j h => he j (by omega))); exact (ordL_n hO).symm) | (have hO := (ord_y (k := k) hV (by omega) he (pO_y (by assumption) (by assumption) (by assumption))); exact hO.2.symm)
  try simp only [decide_eq_true_eq, decide_eq_false_iff_not, Bool.not_eq_true', Bool.not_eq_false', Bool.not_eq_eq_eq_not, Bool.not_true, Bool.not_false, Int.not_lt, Int.not_le, Classical.not_not, beq_iff_eq, beq_eq_false_iff_ne] at hc1
  refine WL.pureG rfl rfl rfl rfl rfl (PV.move rfl) ?_
  refine WL.opG rfl rfl rfl (OpK.callR rfl T.cf182 rfl (c_spec_l05Is (by first | exact Bx.cells (by assumption) | exact Cells.up (by assumption) hB | assumption | exact Cells.add (Bx.cells (by assumption)) _ | exact Cells.add (Cells.up (by assumption) hB) _) (by first | assumption | exact Rd.up (by assumption) hB | exact Osl.rd (by assumption) | exact Osn.rdR (by assumption) | exact NL.rd (by assumption) | exact rdII (by assumption) (by assumption) | exact Inn.rd (by assumption) (by omega)) (by first | assumption | exact Rd.up (by assumption) hB | exact Osl.rd (by assumption) | exact Osn.rdR (by assumption) | exact NL.rd (by assumption) | exact rdII (by assumption) (by assumption) | exact Inn.rd (by assumption) (by omega)) (by first | assumption | exact Rd.up (by assumption) hB | exact Osl.rd (by assumption) | exact Osn.rdR (by assumption) | exact NL.rd (by assumption) | exact rdII (by assumption) (by assumption) | exact Inn.rd (by assumption) (by omega)) (by first | assumption | exact Rd.up (by assumption) hB | exact Osl.rd (by assumption) | exact Osn.rdR (by assumption) | exact NL.rd (by assumption) | exact rdII (by assumption) (by assumption) | exact Inn.rd (by assumption) (by omega))) (fun w4 hXw4 => ?_))
  have hB := hB.trans hXw4
  have hb1 := hb1.up hXw4
  have hb2 := hb2.up hXw4
  refine WL.pureG rfl rfl rfl rfl rfl (PV.not rfl) ?_
  refine WL.pure rfl rfl rfl (PV.pickF rfl rfl) ?_
  refine WL.pure rfl rfl rfl (PV.move rfl) ?_
  refine WL.split (t := 24) rfl (fun hc2 => ?_) (fun hc2 => ?_)
  · skip
    try simp only [decide_eq_true_eq, decide_eq_false_iff_not, Bool.not_eq_true', Bool.not_eq_false', Bool.not_eq_eq_eq_not, Bool.not_true, Bool.not_false, Int.not_lt, Int.not_le, Classical.not_not, beq_iff_eq, beq_eq_false_iff_ne] at hc2
    refine WL.skip rfl rfl rfl rfl rfl ?_
    refine WL.skip rfl rfl rfl rfl rfl ?_
    refine WL.skip rfl rfl rfl rfl rfl ?_
    refine WL.pure rfl rfl rfl (PV.pickT rfl rfl) ?_
    refine WL.nilS ?_
    refine CW.condT rfl ?_
    refine CW.seq ?_
    refine CW.reg ?_
    refine WL.pure rfl rfl rfl (PV.assign rfl) ?_
    refine WL.pure rfl rfl rfl (PV.assign rfl) ?_
    refine WL.nilS ?_
    refine CW.ret ?_
    refine RQ.then ?_
    refine RQ.r2 rfl rfl ?_
    refine ⟨hB, (.slice none 0 0), none, ?_, osE (Osl.nil _ _) ?_, Lo.nl _⟩
    · skip
      first | (have hO : ordB c c2 L n = false := (by first | exact ord_n1 (by assumption) | exact ord_n2 (by assumption) | exact ord_n3 (by omega) | exact ord_n4 (fun j h => he j (by omega))); exact tE2 rfl (bE hO.symm)) | (have hO := (ord_y (k := k) hV (by omega) he (pO_y (by assumption) (by assumption) (by assumption))); exact tE2 rfl (bE hO.1.symm))
    · skip
      first | (have hO : ordB c c2 L n = false := (by first | exact ord_n1 (by assumption) | exact ord_n2 (by assumption) | exact ord_n3 (by omega) | exact ord_n4 (fun j h => he j (by omega))); exact (ordL_n hO).symm) | (have hO := (ord_y (k := k) hV (by omega) he (pO_y (by assumption) (by assumption) (by assumption))); exact hO.2.symm)
  try simp only [decide_eq_true_eq, decide_eq_false_iff_not, Bool.not_eq_true', Bool.not_eq_false', Bool.not_eq_eq_eq_not, Bool.not_true, Bool.not_false, Int.not_lt, Int.not_le, Classical.not_not, beq_iff_eq, beq_eq_false_iff_ne] at hc2
  refine WL.pureG rfl rfl rfl rfl rfl (PV.move rfl) ?_
  refine WL.opG rfl rfl rfl (OpK.callR rfl T.cf98 rfl (c_spec_l00In) (fun w5 hXw5 => ?_))
  have hB := hB.trans hXw5
  have hb1 := hb1.up hXw5
  have hb2 := hb2.up hXw5
  refine WL.pureG rfl rfl rfl rfl rfl (PV.not rfl) ?_
  refine WL.pure rfl rfl rfl (PV.pickF rfl rfl) ?_
  refine WL.nilS ?_
  refine CW.cond rfl (fun hc3 => ?_) (fun hc3 => ?_)
  · skip
    try simp only [decide_eq_true_eq, decide_eq_false_iff_not, Bool.not_eq_true', Bool.not_eq_false', Bool.not_eq_eq_eq_not, Bool.not_true, Bool.not_false, Int.not_lt, Int.not_le, Classical.not_not, beq_iff_eq, beq_eq_false_iff_ne] at hc3
    refine CW.seq ?_
    refine CW.reg ?_
    refine WL.pure rfl rfl rfl (PV.assign rfl) ?_
    refine WL.pure rfl rfl rfl (PV.assign rfl) ?_
    refine WL.nilS ?_
    refine CW.ret ?_
    refine RQ.then ?_
    refine RQ.r2 rfl rfl ?_
    refine ⟨hB, (.slice none 0 0), none, ?_, osE (Osl.nil _ _) ?_, Lo.nl _⟩
    · skip
      first | (have hO : ordB c c2 L n = false := (by first | exact ord_n1 (by assumption) | exact ord_n2 (by assumption) | exact ord_n3 (by omega) | exact ord_n4 (fun j h => he j (by omega))); exact tE2 rfl (bE hO.symm)) | (have hO := (ord_y (k := k) hV (by omega) he (pO_y (by assumption) (by assumption) (by assumption))); exact tE2 rfl (bE hO.1.symm))
    · skip
      first | (have hO : ordB c c2 L n = false := (by first | exact ord_n1 (by assumption) | exact ord_n2 (by assumption) | exact ord_n3 (by omega) | exact ord_n4 (fun j h => he j (by omega))); exact (ordL_n hO).symm) | (have hO := (ord_y (k := k) hV (by omega) he (pO_y (by assumption) (by assumption) (by assumption))); exact hO.2.symm)
  try simp only [decide_eq_true_eq, decide_eq_false_iff_not, Bool.not_eq_true', Bool.not_eq_false', Bool.not_eq_eq_eq_not, Bool.not_true, Bool.not_false, Int.not_lt, Int.not_le, Classical.not_not, beq_iff_eq, beq_eq_false_iff_ne] at hc3
  refine CW.skipS ?_
  refine CW.seq ?_
  refine CW.reg ?_
  refine WL.pure rfl rfl rfl (PV.move rfl) ?_
  refine WL.pure rfl rfl rfl (PV.move rfl) ?_
  have hcv := chB_y (by assumption : chB c L = true); have hok := hcv.1; have hL := hcv.2; have hok2 := (chB_y (by assumption : chB c2 L = true)).1; have hn05 : 0 ≤ n ∧ n ≤ 5 := (by first | assumption | omega); have hV := ordV_y (by assumption : chB c L = true) (by assumption : chB c2 L = true) hn05
  refine WL.op rfl (OpK.call rfl T.cf160 rfl (c_spec_l05Words (by first | assumption | omega | (simp only [marks_len, marksB_len, marksR_len, sumL_marksS, List.length_take]; omega)) (by first | assumption | omega | (simp only [marks_len, marksB_len, marksR_len, sumL_marksS, List.length_take]; omega))) (fun rv1 w6 hR => ?_))
  obtain ⟨hXw6, v3, og3, vs4, os4, rfl, ho3, hq3, hn4, hq4, hd3_4⟩ := hR
  have hl3 := Lo.up hq3 hB
  have hd1_3 := Dj.lo hb1.ltO hq3
  have hd2_3 := Dj.lo hb2.ltO hq3
  have hl4 := LoI.up hq4 hB
  have hlv4 := hn4.lv
  have hd1_4 := DI.lo hb1.ltO hq4
  have hd2_4 := DI.lo hb2.ltO hq4
  have hB := hB.trans hXw6
  have hb1 := hb1.up hXw6
  have hb2 := hb2.up hXw6
  refine WL.pure rfl rfl rfl (PV.assign rfl) ?_
  refine WL.nilS ?_
  refine CW.seq ?_
  refine CW.seq ?_
  refine CW.reg ?_
  refine WL.pure rfl rfl rfl (PV.move rfl) ?_
  refine WL.pure rfl rfl rfl ((PV.lenOs rfl ho3 T.sl25)) ?_
  refine WL.pure rfl rfl rfl (PV.move rfl) ?_
  refine WL.nilS ?_
  refine CW.block ?_
  refine CW.loop (σk := [(4, _), (5, _), (10, _), (33, _)]) (fun ρ wz m => ∃ (k : Nat), ρ = [(34, .int .i64 (k : Nat))] ∧ m = (wordsP L (n.toNat + 1)).length - k ∧ UpdL [] w6 wz ∧ (k ≤ (wordsP L (n.toNat + 1)).length) ∧ (∀ j : Nat, j < k → pO c c2 (wordsP L (n.toNat + 1)) j = false)) (ρ₀ := [(34, _)]) (m₀ := _) ⟨rfl, rfl, rfl, rfl, rfl, trivial⟩ ⟨0, rfl, rfl, (UpdL.refl _ _), (by first | omega | rfl | (simp; done) | assumption | (simp_all; done)), (by intro j h; omega)⟩ ?_
  rintro _ wl1 _ ⟨k, rfl, rfl, hU0, hk, he⟩
  have hb1 := hb1.loop hU0 trivial
  have hb2 := hb2.loop hU0 trivial
  have ho3 := ho3.loop hU0 trivial
  have hn4 := hn4.loop hU0 trivial
  have hB := hB.loop hU0 trivial
  have hpl := wordsP_len (L := L) (by omega) (n.toNat + 1) (by omega)
  refine CW.seq ?_
  refine CW.reg ?_
  refine WL.pure rfl rfl rfl (PV.lss rfl rfl) ?_
  refine WL.nilS ?_
  refine CW.seq ?_
  refine CW.cond rfl (fun hc4 => ?_) (fun hc4 => ?_)
  · skip
    try simp only [decide_eq_true_eq, decide_eq_false_iff_not, Bool.not_eq_true', Bool.not_eq_false', Bool.not_eq_eq_eq_not, Bool.not_true, Bool.not_false, Int.not_lt, Int.not_le, Classical.not_not, beq_iff_eq, beq_eq_false_iff_ne] at hc4
    refine CW.skipS ?_
    refine CW.seq ?_
    refine CW.block ?_
    refine CW.seq ?_
    refine CW.reg ?_
    refine WL.pure rfl rfl rfl (PV.move rfl) ?_
    refine WL.pure rfl rfl rfl (PV.assign rfl) ?_
    refine WL.nilS ?_
    refine CW.seq ?_
    refine CW.draw T.mixed (by kernel_rfl) (fun _ _ _ _ _ h => h) (fun w8 w9 => Upd none w8 w9) 13 (.take 0 (.take 1 (.take 3 (.take 4 (.take 5 (.take 6 (.must 2 (.must 7 (.take 8 (.take 9 (.take 10 (.take 11 (.take 12 .done))))))))))))) (by kernel_rfl) (fun w7 hXd => ?_)
    have hB := hB.trans hXd
    have hb1 := hb1.up hXd
    have hb2 := hb2.up hXd
    have ho3 := ho3.up hXd
    have hn4 := hn4.up hXd
    have hU0 := hU0.ext hXd
    have hBr := hB
    have hS : Upd none w7 w7 := Ext.toUpd (Ext.refl _)
    refine HP.take rfl rfl rfl rfl hS (fun wS hS1 => (by first | exact PV.loadA T.ag107 rfl (by first | exact Cells.up (by assumption) (hBr.trans hS1) | exact Bx.cells (Bx.updD (by assumption) hS1 (Dj.nlR _)) | exact Cells.upd (by assumption) hS1 (by simp)) (Ext.refl _) rfl | exact PV.loadP (ds := [_, _, _, _]) T.ag107 rfl (by first | exact Cells.up (by assumption) (hBr.trans hS1) | exact Bx.cells (Bx.updD (by assumption) hS1 (Dj.nlR _)) | exact Cells.upd (by assumption) hS1 (by simp)) (Ext.refl _) rfl rfl)) ?_
    refine HP.take rfl rfl rfl rfl hS (fun wS hS1 => (by first | exact PV.loadA T.ag107 rfl (by first | exact Cells.up (by assumption) (hBr.trans hS1) | exact Bx.cells (Bx.updD (by assumption) hS1 (Dj.nlR _)) | exact Cells.upd (by assumption) hS1 (by simp)) (Ext.refl _) rfl | exact PV.loadP (ds := [_, _, _, _]) T.ag107 rfl (by first | exact Cells.up (by assumption) (hBr.trans hS1) | exact Bx.cells (Bx.updD (by assumption) hS1 (Dj.nlR _)) | exact Cells.upd (by assumption) hS1 (by simp)) (Ext.refl _) rfl rfl)) ?_
    refine HP.take rfl rfl rfl rfl hS (fun wS hS1 => PV.move rfl) ?_
    refine HP.take rfl rfl rfl rfl hS (fun wS hS1 => PV.move rfl) ?_
    first
      | refine HP.atO (wb := w7) (x := .tmp 41) (y := .tmp 42) (f := VV) (.slice none 0 0) rfl rfl (by assumption) (by first | omega | (simp only [List.length_set]; omega) | (simp only [List.length_append, List.length_take, List.length_replicate, List.length_drop]; omega)) (fun p1 hpp1 hcp1 => ?_)
      | refine HP.atOZ (wb := w7) (x := .tmp 41) (y := .tmp 42) (f := VV) (.slice none 0 0) rfl rfl (by assumption) (by first | omega | (simp only [List.length_set]; omega) | (simp only [List.length_append, List.length_take, List.length_replicate, List.length_drop]; omega)) (fun p1 hpp1 hzp1 hcp1 => ?_)
    refine HP.take rfl rfl rfl rfl hS (fun wS hS1 => (by first | exact PV.indexAddr hpp1 rfl rfl T.sl25 | exact PV.indexAddr hpp1 rfl (by rw [← hzp1]; rfl) T.sl25)) ?_
    refine HP.take rfl rfl rfl rfl hS (fun wS hS1 => (by first | exact PV.load0 T.na28 rfl (by first | exact Cells.up (by assumption) (hBr.trans hS1) | exact Bx.cells (Bx.updD (by assumption) hS1 (Dj.nlR _)) | exact Cells.upd (by assumption) hS1 (by simp)) (Ext.refl _) rfl | exact PV.load1 T.na28 rfl (by first | exact Cells.up (by assumption) (hBr.trans hS1) | exact Bx.cells (Bx.updD (by assumption) hS1 (Dj.nlR _)) | exact Cells.upd (by assumption) hS1 (by simp)) (Ext.refl _) rfl)) ?_
    have hw5 := wordsP_get (L := L) (m := n.toNat) (k := k) (by omega)
    refine HP.must rfl rfl (OpK.buildCh (os := [.tmp 38, .tmp 39]) [[_, _, _, _], [_, _, _, _]] [c, c2] rfl T.sl98 rfl rfl T.zv107 rfl (by intro c hc; simp only [List.mem_cons, List.not_mem_nil, or_false] at hc; rcases hc with rfl | rfl <;> rfl) rfl (by intro w' hw' j c x hj hx; rcases j with _ | _ | j <;> simp at hj hx; all_goals (first | (obtain ⟨rfl, rfl⟩ := And.intro hj hx; exact ECh.mk (Rd.up (by assumption) (Ext.trans hB hw')) (Rd.up (by assumption) (Ext.trans hB hw')) (Rd.up (by assumption) (Ext.trans hB hw')) (Rd.up (by assumption) (Ext.trans hB hw'))) | skip)) rfl (fun v5 w8 hXw8 hr5 => ?_))
    refine ⟨Upd.trans hS hXw8, ?_⟩
    have hS := Upd.trans hS hXw8
    have hB := hB.trans hXw8
    have hb1 := hb1.up hXw8
    have hb2 := hb2.up hXw8
    have ho3 := ho3.up hXw8
    have hn4 := hn4.up hXw8
    have hU0 := hU0.ext hXw8
    refine HP.must rfl rfl (OpK.call rfl T.cf180 rfl (c_spec_l05Run (by first | assumption | exact Rd.up (by assumption) hB | exact rdCh (by assumption) (by assumption)) (by first | assumption | exact Rd.up (by assumption) hB | exact Osl.rd (by assumption) | exact Osn.rdR (by assumption) | exact NL.rd (by assumption) | exact rdII (by assumption) (by assumption) | exact Inn.rd (by assumption) (by omega)) (by first | assumption | omega | (simp only [marks_len, marksB_len, marksR_len, sumL_marksS, List.length_take]; omega)) (by first | assumption | (intro k9 h9; simp only [List.length_cons, List.length_nil] at h9; rcases (show k9 = 0 ∨ k9 = 1 by omega) with rfl | rfl <;> first | assumption | (exfalso; omega)))) (fun rv2 w9 hR => ?_))
    obtain ⟨hXw9, v6, og6, rfl, ho6, hq6⟩ := hR
    have hl6 := Lo.up hq6 hB
    have hv6 := Lo.up hq6 hS
    have hd1_6 := Dj.lo hb1.ltO hq6
    have hd2_6 := Dj.lo hb2.ltO hq6
    have hd3_6 := Dj.lo ho3.ltO hq6
    have hd4_6 := DI.fresh hn4 hq6
    have hk0_6 := OkN.lo hU0 hq6
    have hg0_6 := OgR.lo hU0.size hq6
    refine ⟨Upd.trans hS hXw9, ?_⟩
    have hS := Upd.trans hS hXw9
    have hB := hB.trans hXw9
    have hb1 := hb1.up hXw9
    have hb2 := hb2.up hXw9
    have ho3 := ho3.up hXw9
    have hn4 := hn4.up hXw9
    have hr5 := hr5.up hXw9
    have hU0 := hU0.ext hXw9
    refine HP.take rfl rfl rfl rfl hS (fun wS hS1 => PV.move rfl) ?_
    refine HP.take rfl rfl rfl rfl hS (fun wS hS1 => PV.extract rfl rfl) ?_
    refine HP.take rfl rfl rfl rfl hS (fun wS hS1 => PV.extract rfl rfl) ?_
    refine HP.take rfl rfl rfl rfl hS (fun wS hS1 => PV.assign rfl) ?_
    refine HP.take rfl rfl rfl rfl hS (fun wS hS1 => PV.assign rfl) ?_
    refine HP.doneS ?_
    refine CW.seq ?_
    refine CW.draw T.mixed (by kernel_rfl) (fun _ _ _ _ _ h => h) (fun w8 w9 => Upd none w8 w9) 13 (.take 0 (.take 1 (.take 3 (.take 4 (.take 5 (.take 6 (.must 2 (.must 7 (.take 8 (.take 9 (.take 10 (.take 11 (.take 12 .done))))))))))))) (by kernel_rfl) (fun w10 hXd => ?_)
    have hB := hB.trans hXd
    have hb1 := hb1.up hXd
    have hb2 := hb2.up hXd
    have ho3 := ho3.up hXd
    have hn4 := hn4.up hXd
    have hr5 := hr5.up hXd
    have ho6 := ho6.up hXd
    have hU0 := hU0.ext hXd
    have hBr := hB
    have hS : Upd none w10 w10 := Ext.toUpd (Ext.refl _)
    refine HP.take rfl rfl rfl rfl hS (fun wS hS1 => (by first | exact PV.loadA T.ag107 rfl (by first | exact Cells.up (by assumption) (hBr.trans hS1) | exact Bx.cells (Bx.updD (by assumption) hS1 (Dj.nlR _)) | exact Cells.upd (by assumption) hS1 (by simp)) (Ext.refl _) rfl | exact PV.loadP (ds := [_, _, _, _]) T.ag107 rfl (by first | exact Cells.up (by assumption) (hBr.trans hS1) | exact Bx.cells (Bx.updD (by assumption) hS1 (Dj.nlR _)) | exact Cells.upd (by assumption) hS1 (by simp)) (Ext.refl _) rfl rfl)) ?_
    refine HP.take rfl rfl rfl rfl hS (fun wS hS1 => (by first | exact PV.loadA T.ag107 rfl (by first | exact Cells.up (by assumption) (hBr.trans hS1) | exact Bx.cells (Bx.updD (by assumption) hS1 (Dj.nlR _)) | exact Cells.upd (by assumption) hS1 (by simp)) (Ext.refl _) rfl | exact PV.loadP (ds := [_, _, _, _]) T.ag107 rfl (by first | exact Cells.up (by assumption) (hBr.trans hS1) | exact Bx.cells (Bx.updD (by assumption) hS1 (Dj.nlR _)) | exact Cells.upd (by assumption) hS1 (by simp)) (Ext.refl _) rfl rfl)) ?_
    refine HP.take rfl rfl rfl rfl hS (fun wS hS1 => PV.move rfl) ?_
    refine HP.take rfl rfl rfl rfl hS (fun wS hS1 => PV.move rfl) ?_
    first
      | refine HP.atO (wb := w10) (x := .tmp 52) (y := .tmp 53) (f := VV) (.slice none 0 0) rfl rfl (by assumption) (by first | omega | (simp only [List.length_set]; omega) | (simp only [List.length_append, List.length_take, List.length_replicate, List.length_drop]; omega)) (fun p2 hpp2 hcp2 => ?_)
      | refine HP.atOZ (wb := w10) (x := .tmp 52) (y := .tmp 53) (f := VV) (.slice none 0 0) rfl rfl (by assumption) (by first | omega | (simp only [List.length_set]; omega) | (simp only [List.length_append, List.length_take, List.length_replicate, List.length_drop]; omega)) (fun p2 hpp2 hzp2 hcp2 => ?_)
    refine HP.take rfl rfl rfl rfl hS (fun wS hS1 => (by first | exact PV.indexAddr hpp2 rfl rfl T.sl25 | exact PV.indexAddr hpp2 rfl (by rw [← hzp2]; rfl) T.sl25)) ?_
    refine HP.take rfl rfl rfl rfl hS (fun wS hS1 => (by first | exact PV.load0 T.na28 rfl (by first | exact Cells.up (by assumption) (hBr.trans hS1) | exact Bx.cells (Bx.updD (by assumption) hS1 (Dj.nlR _)) | exact Cells.upd (by assumption) hS1 (by simp)) (Ext.refl _) rfl | exact PV.load1 T.na28 rfl (by first | exact Cells.up (by assumption) (hBr.trans hS1) | exact Bx.cells (Bx.updD (by assumption) hS1 (Dj.nlR _)) | exact Cells.upd (by assumption) hS1 (by simp)) (Ext.refl _) rfl)) ?_
    refine HP.must rfl rfl (OpK.buildCh (os := [.tmp 49, .tmp 50]) [[_, _, _, _], [_, _, _, _]] [c2, c] rfl T.sl98 rfl rfl T.zv107 rfl (by intro c hc; simp only [List.mem_cons, List.not_mem_nil, or_false] at hc; rcases hc with rfl | rfl <;> rfl) rfl (by intro w' hw' j c x hj hx; rcases j with _ | _ | j <;> simp at hj hx; all_goals (first | (obtain ⟨rfl, rfl⟩ := And.intro hj hx; exact ECh.mk (Rd.up (by assumption) (Ext.trans hB hw')) (Rd.up (by assumption) (Ext.trans hB hw')) (Rd.up (by assumption) (Ext.trans hB hw')) (Rd.up (by assumption) (Ext.trans hB hw'))) | skip)) rfl (fun v7 w11 hXw11 hr7 => ?_))
    refine ⟨Upd.trans hS hXw11, ?_⟩
    have hS := Upd.trans hS hXw11
    have hB := hB.trans hXw11
    have hb1 := hb1.up hXw11
    have hb2 := hb2.up hXw11
    have ho3 := ho3.up hXw11
    have hn4 := hn4.up hXw11
    have hr5 := hr5.up hXw11
    have ho6 := ho6.up hXw11
    have hU0 := hU0.ext hXw11
    refine HP.must rfl rfl (OpK.call rfl T.cf180 rfl (c_spec_l05Run (by first | assumption | exact Rd.up (by assumption) hB | exact rdCh (by assumption) (by assumption)) (by first | assumption | exact Rd.up (by assumption) hB | exact Osl.rd (by assumption) | exact Osn.rdR (by assumption) | exact NL.rd (by assumption) | exact rdII (by assumption) (by assumption) | exact Inn.rd (by assumption) (by omega)) (by first | assumption | omega | (simp only [marks_len, marksB_len, marksR_len, sumL_marksS, List.length_take]; omega)) (by first | assumption | (intro k9 h9; simp only [List.length_cons, List.length_nil] at h9; rcases (show k9 = 0 ∨ k9 = 1 by omega) with rfl | rfl <;> first | assumption | (exfalso; omega)))) (fun rv3 w12 hR => ?_))
    obtain ⟨hXw12, v8, og8, rfl, ho8, hq8⟩ := hR
    have hl8 := Lo.up hq8 hB
    have hv8 := Lo.up hq8 hS
    have hd1_8 := Dj.lo hb1.ltO hq8
    have hd2_8 := Dj.lo hb2.ltO hq8
    have hd3_8 := Dj.lo ho3.ltO hq8
    have hd4_8 := DI.fresh hn4 hq8
    have hd6_8 := Dj.lo ho6.ltO hq8
    have hk0_8 := OkN.lo hU0 hq8
    have hg0_8 := OgR.lo hU0.size hq8
    refine ⟨Upd.trans hS hXw12, ?_⟩
    have hS := Upd.trans hS hXw12
    have hB := hB.trans hXw12
    have hb1 := hb1.up hXw12
    have hb2 := hb2.up hXw12
    have ho3 := ho3.up hXw12
    have hn4 := hn4.up hXw12
    have hr5 := hr5.up hXw12
    have ho6 := ho6.up hXw12
    have hr7 := hr7.up hXw12
    have hU0 := hU0.ext hXw12
    refine HP.take rfl rfl rfl rfl hS (fun wS hS1 => PV.move rfl) ?_
    refine HP.take rfl rfl rfl rfl hS (fun wS hS1 => PV.extract rfl rfl) ?_
    refine HP.take rfl rfl rfl rfl hS (fun wS hS1 => PV.extract rfl rfl) ?_
    refine HP.take rfl rfl rfl rfl hS (fun wS hS1 => PV.assign rfl) ?_
    refine HP.take rfl rfl rfl rfl hS (fun wS hS1 => PV.assign rfl) ?_
    refine HP.doneS ?_
    refine CW.seq ?_
    refine CW.reg ?_
    refine WL.pure rfl rfl rfl (PV.move rfl) ?_
    refine WL.pure rfl rfl rfl (PV.move rfl) ?_
    refine WL.split (t := 60) rfl (fun hc5 => ?_) (fun hc5 => ?_)
    rotate_left
    · skip
      try simp only [decide_eq_true_eq, decide_eq_false_iff_not, Bool.not_eq_true', Bool.not_eq_false', Bool.not_eq_eq_eq_not, Bool.not_true, Bool.not_false, Int.not_lt, Int.not_le, Classical.not_not, beq_iff_eq, beq_eq_false_iff_ne] at hc5
      refine WL.skip rfl rfl rfl rfl rfl ?_
      refine WL.pure rfl rfl rfl (PV.pickF rfl rfl) ?_
      refine WL.pure rfl rfl rfl (PV.move rfl) ?_
      refine WL.skip rfl rfl rfl rfl rfl ?_
      refine WL.skip rfl rfl rfl rfl rfl ?_
      refine WL.skip rfl rfl rfl rfl rfl ?_
      refine WL.skip rfl rfl rfl rfl rfl ?_
      refine WL.pure rfl rfl rfl (PV.pickF rfl rfl) ?_
      refine WL.nilS ?_
      refine CW.condF rfl ?_
      refine CW.skip ?_
      refine NQ.block ?_
      refine NQ.then ?_
      refine CW.reg ?_
      refine WL.pure rfl rfl rfl (PV.add rfl rfl (by constructor <;> omega)) ?_
      refine WL.pure rfl rfl rfl (PV.move rfl) ?_
      refine WL.nil ?_
      refine NQ.next (ρ := [(34, _)]) ⟨rfl, rfl, rfl, rfl, rfl, trivial⟩ ?_
      exact ⟨_, ⟨k + 1, rfl, rfl, hU0, (by first | omega | assumption | (simp_all; done) | (simp_all; omega)), (by intro j h; rcases Nat.lt_succ_iff_lt_or_eq.1 h with h | rfl; exact he j h; first | exact pO_n1 (by assumption) | exact pO_n2 (by assumption) | exact pO_n3 (by assumption))⟩, by omega⟩
    try simp only [decide_eq_true_eq, decide_eq_false_iff_not, Bool.not_eq_true', Bool.not_eq_false', Bool.not_eq_eq_eq_not, Bool.not_true, Bool.not_false, Int.not_lt, Int.not_le, Classical.not_not, beq_iff_eq, beq_eq_false_iff_ne] at hc5
    refine WL.pureG rfl rfl rfl rfl rfl (PV.move rfl) ?_
    refine WL.pure rfl rfl rfl (PV.pickT rfl rfl) ?_
    refine WL.pure rfl rfl rfl (PV.move rfl) ?_
    refine WL.split (t := 63) rfl (fun hc6 => ?_) (fun hc6 => ?_)
    rotate_left
    · skip
      try simp only [decide_eq_true_eq, decide_eq_false_iff_not, Bool.not_eq_true', Bool.not_eq_false', Bool.not_eq_eq_eq_not, Bool.not_true, Bool.not_false, Int.not_lt, Int.not_le, Classical.not_not, beq_iff_eq, beq_eq_false_iff_ne] at hc6
      refine WL.skip rfl rfl rfl rfl rfl ?_
      refine WL.skip rfl rfl rfl rfl rfl ?_
      refine WL.skip rfl rfl rfl rfl rfl ?_
      refine WL.skip rfl rfl rfl rfl rfl ?_
      refine WL.pure rfl rfl rfl (PV.pickF rfl rfl) ?_
      refine WL.nilS ?_
      refine CW.condF rfl ?_
      refine CW.skip ?_
      refine NQ.block ?_
      refine NQ.then ?_
      refine CW.reg ?_
      refine WL.pure rfl rfl rfl (PV.add rfl rfl (by constructor <;> omega)) ?_
      refine WL.pure rfl rfl rfl (PV.move rfl) ?_
      refine WL.nil ?_
      refine NQ.next (ρ := [(34, _)]) ⟨rfl, rfl, rfl, rfl, rfl, trivial⟩ ?_
      exact ⟨_, ⟨k + 1, rfl, rfl, hU0, (by first | omega | assumption | (simp_all; done) | (simp_all; omega)), (by intro j h; rcases Nat.lt_succ_iff_lt_or_eq.1 h with h | rfl; exact he j h; first | exact pO_n1 (by assumption) | exact pO_n2 (by assumption) | exact pO_n3 (by assumption))⟩, by omega⟩
    try simp only [decide_eq_true_eq, decide_eq_false_iff_not, Bool.not_eq_true', Bool.not_eq_false', Bool.not_eq_eq_eq_not, Bool.not_true, Bool.not_false, Int.not_lt, Int.not_le, Classical.not_not, beq_iff_eq, beq_eq_false_iff_ne] at hc6
    refine WL.pureG rfl rfl rfl rfl rfl (PV.move rfl) ?_
    refine WL.pureG rfl rfl rfl rfl rfl (PV.move rfl) ?_
    refine WL.opG rfl rfl rfl (OpK.callR rfl T.cf172 rfl (c_spec_l00Same (by first | assumption | exact Rd.up (by assumption) hB | exact Osl.rd (by assumption) | exact Osn.rdR (by assumption) | exact NL.rd (by assumption) | exact rdII (by assumption) (by assumption) | exact Inn.rd (by assumption) (by omega)) (by first | assumption | exact Rd.up (by assumption) hB | exact Osl.rd (by assumption) | exact Osn.rdR (by assumption) | exact NL.rd (by assumption) | exact rdII (by assumption) (by assumption) | exact Inn.rd (by assumption) (by omega))) (fun w13 hXw13 => ?_))
    have hB := hB.trans hXw13
    have hb1 := hb1.up hXw13
    have hb2 := hb2.up hXw13
    have ho3 := ho3.up hXw13
    have hn4 := hn4.up hXw13
    have hr5 := hr5.up hXw13
    have ho6 := ho6.up hXw13
    have hr7 := hr7.up hXw13
    have ho8 := ho8.up hXw13
    have hU0 := hU0.ext hXw13
    refine WL.pureG rfl rfl rfl rfl rfl (PV.not rfl) ?_
    refine WL.pure rfl rfl rfl (PV.pickT rfl rfl) ?_
    refine WL.nilS ?_
    refine CW.cond rfl (fun hc7 => ?_) (fun hc7 => ?_)
    · skip
      try simp only [decide_eq_true_eq, decide_eq_false_iff_not, Bool.not_eq_true', Bool.not_eq_false', Bool.not_eq_eq_eq_not, Bool.not_true, Bool.not_false, Int.not_lt, Int.not_le, Classical.not_not, beq_iff_eq, beq_eq_false_iff_ne] at hc7
      refine CW.seq ?_
      refine CW.reg ?_
      refine WL.pure rfl rfl rfl (PV.move rfl) ?_
      refine WL.pure rfl rfl rfl (PV.move rfl) ?_
      first
        | refine WL.atO (x := .tmp 69) (y := .tmp 70) (f := VV) (.slice none 0 0) rfl rfl ho3 (by first | omega | (simp only [List.length_set]; omega) | (simp only [List.length_append, List.length_take, List.length_replicate, List.length_drop]; omega)) (fun p3 hpp3 hcp3 => ?_)
        | refine WL.atOZ (x := .tmp 69) (y := .tmp 70) (f := VV) (.slice none 0 0) rfl rfl ho3 (by first | omega | (simp only [List.length_set]; omega) | (simp only [List.length_append, List.length_take, List.length_replicate, List.length_drop]; omega)) (fun p3 hpp3 hzp3 hcp3 => ?_)
      refine WL.pure rfl rfl rfl ((by first | exact PV.indexAddr hpp3 rfl rfl T.sl25 | exact PV.indexAddr hpp3 rfl (by rw [← hzp3]; rfl) T.sl25)) ?_
      refine WL.pure rfl rfl rfl ((by first | exact PV.load0 T.na28 rfl (by first | exact Cells.up (by assumption) hB | exact Bx.cells (by assumption) | assumption) (Ext.refl _) rfl | exact PV.load1 T.na28 rfl (by first | exact Cells.up (by assumption) hB | exact Bx.cells (by assumption) | assumption) (Ext.refl _) rfl)) ?_
      refine WL.pure rfl rfl rfl (PV.assign rfl) ?_
      refine WL.pure rfl rfl rfl (PV.assign rfl) ?_
      refine WL.nilS ?_
      refine CW.ret ?_
      refine RQ.block ?_
      refine RQ.then ?_
      refine RQ.then ?_
      refine RQ.block ?_
      refine RQ.then ?_
      refine RQ.r2 rfl rfl ?_
      refine ⟨hB, (vs4.getD k (.slice none 0 0)), (os4.getD k none), ?_, osE (Inn.get hn4 k (by omega)) ?_, (hl4 _ (getD_mem (by have := hn4.lo; omega)))⟩
      · skip
        first | (have hO : ordB c c2 L n = false := (by first | exact ord_n1 (by assumption) | exact ord_n2 (by assumption) | exact ord_n3 (by omega) | exact ord_n4 (fun j h => he j (by omega))); exact tE2 rfl (bE hO.symm)) | (have hO := (ord_y (k := k) hV (by omega) he (pO_y (by assumption) (by assumption) (by assumption))); exact tE2 rfl (bE hO.1.symm))
      · skip
        first | (have hO : ordB c c2 L n = false := (by first | exact ord_n1 (by assumption) | exact ord_n2 (by assumption) | exact ord_n3 (by omega) | exact ord_n4 (fun j h => he j (by omega))); exact (ordL_n hO).symm) | (have hO := (ord_y (k := k) hV (by omega) he (pO_y (by assumption) (by assumption) (by assumption))); exact hO.2.symm)
    try simp only [decide_eq_true_eq, decide_eq_false_iff_not, Bool.not_eq_true', Bool.not_eq_false', Bool.not_eq_eq_eq_not, Bool.not_true, Bool.not_false, Int.not_lt, Int.not_le, Classical.not_not, beq_iff_eq, beq_eq_false_iff_ne] at hc7
    refine CW.skip ?_
    refine NQ.block ?_
    refine NQ.then ?_
    refine CW.reg ?_
    refine WL.pure rfl rfl rfl (PV.add rfl rfl (by constructor <;> omega)) ?_
    refine WL.pure rfl rfl rfl (PV.move rfl) ?_
    refine WL.nil ?_
    refine NQ.next (ρ := [(34, _)]) ⟨rfl, rfl, rfl, rfl, rfl, trivial⟩ ?_
    exact ⟨_, ⟨k + 1, rfl, rfl, hU0, (by first | omega | assumption | (simp_all; done) | (simp_all; omega)), (by intro j h; rcases Nat.lt_succ_iff_lt_or_eq.1 h with h | rfl; exact he j h; first | exact pO_n1 (by assumption) | exact pO_n2 (by assumption) | exact pO_n3 (by assumption))⟩, by omega⟩
  try simp only [decide_eq_true_eq, decide_eq_false_iff_not, Bool.not_eq_true', Bool.not_eq_false', Bool.not_eq_eq_eq_not, Bool.not_true, Bool.not_false, Int.not_lt, Int.not_le, Classical.not_not, beq_iff_eq, beq_eq_false_iff_ne] at hc4
  refine CW.exit ?_
  refine XQ.then ?_
  refine XQ.then ?_
  refine XQ.here ?_
  refine NQ.then ?_
  refine CW.seq ?_
  refine CW.reg ?_
  refine WL.pure rfl rfl rfl (PV.assign rfl) ?_
  refine WL.pure rfl rfl rfl (PV.assign rfl) ?_
  refine WL.nilS ?_
  refine CW.ret ?_
  refine RQ.r2 rfl rfl ?_
  refine ⟨hB, (.slice none 0 0), none, ?_, osE (Osl.nil _ _) ?_, Lo.nl _⟩
  · skip
    first | (have hO : ordB c c2 L n = false := (by first | exact ord_n1 (by assumption) | exact ord_n2 (by assumption) | exact ord_n3 (by omega) | exact ord_n4 (fun j h => he j (by omega))); exact tE2 rfl (bE hO.symm)) | (have hO := (ord_y (k := k) hV (by omega) he (pO_y (by assumption) (by assumption) (by assumption))); exact tE2 rfl (bE hO.1.symm))
  · skip
    first | (have hO : ordB c c2 L n = false := (by first | exact ord_n1 (by assumption) | exact ord_n2 (by assumption) | exact ord_n3 (by omega) | exact ord_n4 (fun j h => he j (by omega))); exact (ordL_n hO).symm) | (have hO := (ord_y (k := k) hV (by omega) he (pO_y (by assumption) (by assumption) (by assumption))); exact hO.2.symm)
theorem c_impl_arePlain_1 {w : World} {uc0 uc1 uc2 uc3 : Value} {c : C4}  (hch0 : Rd EI w uc0 c.1) (hch1 : Rd EI w uc1 c.2.1) (hch2 : Rd EI w uc2 c.2.2.1) (hch3 : Rd EI w uc3 c.2.2.2) (hok : okC c) : Calls Try.prog 212 #[.agg #[uc0, uc1, uc2, uc3]] w (Ret1 (RQt (.bool (decide (0 < (c.1.length : Int) + (c.2.2.2.length : Int)))) w)) := by
  have hB : Ext w w := Ext.refl w
  have hlc0 := hch0.leI; have hlc1 := hch1.leI; have hlc2 := hch2.leI; have hlc3 := hch3.leI; have hok0 := hok.1; have hok1 := hok.2.1; have hok2 := hok.2.2.1; have hok3 := hok.2.2.2
  refine callsOf (vs := [_]) Try.func212 rfl Try.ntmps212 rfl rfl ?_
  refine CW.seq ?_
  refine CW.reg ?_
  refine WL.op rfl (OpK.box rfl rfl (by first | exact Rd.cells1 (by assumption) | exact Osl.cells1 (by assumption) | exact Osn.cells1 (by assumption) | exact Rd.cells1 (NL.rd (by assumption)) | exact Inn.cell1 (by assumption) (by omega) | assumption | rfl) (fun b1 w1 hXw1 hb1 hge1 => ?_))
  have hl1 := Lo.new hB hge1
  have hB := hB.trans hXw1
  refine WL.pure rfl rfl rfl (PV.assign rfl) ?_
  refine WL.nilS ?_
  refine CW.seq ?_
  refine CW.reg ?_
  refine WL.pure rfl rfl rfl ((by first | exact PV.fieldAddr T.fl107_0 rfl (by first | assumption | exact Bx.cells (by assumption)) | exact PV.fieldAddrP T.fl107_0 rfl rfl)) ?_
  refine WL.pure rfl rfl rfl ((by first | exact PV.load0 T.na28 rfl (by first | exact Cells.up (by assumption) hB | exact Bx.cells (by assumption) | assumption) (Ext.refl _) rfl | exact PV.load1 T.na28 rfl (by first | exact Cells.up (by assumption) hB | exact Bx.cells (by assumption) | assumption) (Ext.refl _) rfl)) ?_
  refine WL.pure rfl rfl rfl ((by first | exact PV.len rfl (by assumption) T.sl28 | exact PV.lenOs rfl (by assumption) T.sl28 | exact PV.len rfl (NL.rd (by assumption)) T.sl28 | exact PV.len rfl (Inn.rd (by assumption) (by omega)) T.sl28)) ?_
  refine WL.pure rfl rfl rfl ((by first | exact PV.fieldAddr T.fl107_3 rfl (by first | assumption | exact Bx.cells (by assumption)) | exact PV.fieldAddrP T.fl107_3 rfl rfl)) ?_
  refine WL.pure rfl rfl rfl ((by first | exact PV.load0 T.na28 rfl (by first | exact Cells.up (by assumption) hB | exact Bx.cells (by assumption) | assumption) (Ext.refl _) rfl | exact PV.load1 T.na28 rfl (by first | exact Cells.up (by assumption) hB | exact Bx.cells (by assumption) | assumption) (Ext.refl _) rfl)) ?_
  refine WL.pure rfl rfl rfl ((by first | exact PV.len rfl (by assumption) T.sl28 | exact PV.lenOs rfl (by assumption) T.sl28 | exact PV.len rfl (NL.rd (by assumption)) T.sl28 | exact PV.len rfl (Inn.rd (by assumption) (by omega)) T.sl28)) ?_
  refine WL.pure rfl rfl rfl (PV.add rfl rfl (by constructor <;> omega)) ?_
  refine WL.pure rfl rfl rfl (PV.gtr rfl rfl) ?_
  refine WL.pure rfl rfl rfl (PV.assign rfl) ?_
  refine WL.nilS ?_
  refine CW.ret ?_
  refine RQ.r1 rfl ?_
  refine ⟨?_, hB⟩
  first | rfl | exact bT (by omega) | exact bF (by omega) | exact bD (by omega) | exact iE (by omega) | (simp_all; done) | (simp_all; omega) | (simp_all; intros; omega)
theorem c_impl_Change_first {w : World} {uc0 uc1 uc2 uc3 : Value} {c : C4} {vw : Value} {xs : List Int}  (hch0 : Rd EI w uc0 c.1) (hch1 : Rd EI w uc1 c.2.1) (hch2 : Rd EI w uc2 c.2.2.1) (hch3 : Rd EI w uc3 c.2.2.2) (hw : Rd EI w vw xs) (hok : okC c) (hwn : xs.length ≤ 10000) : Calls Try.prog 221 #[.agg #[uc0, uc1, uc2, uc3], vw] w (Ret1 (RQt (.int .i64 (firstI c xs)) w)) := by
  have hB : Ext w w := Ext.refl w
  have hlc0 := hch0.leI; have hlc1 := hch1.leI; have hlc2 := hch2.leI; have hlc3 := hch3.leI; have hlw := hw.leI
  refine callsOf (vs := [_, _]) Try.func221 rfl Try.ntmps221 rfl rfl ?_
  refine CW.seq ?_
  refine CW.reg ?_
  refine WL.op rfl (OpK.box rfl rfl (by first | exact Rd.cells1 (by assumption) | exact Osl.cells1 (by assumption) | exact Osn.cells1 (by assumption) | exact Rd.cells1 (NL.rd (by assumption)) | exact Inn.cell1 (by assumption) (by omega) | assumption | rfl) (fun b1 w1 hXw1 hb1 hge1 => ?_))
  have hl1 := Lo.new hB hge1
  have hB := hB.trans hXw1
  refine WL.pure rfl rfl rfl (PV.assign rfl) ?_
  refine WL.nilS ?_
  refine CW.seq ?_
  refine CW.seq ?_
  refine CW.reg ?_
  refine WL.pure rfl rfl rfl (PV.move rfl) ?_
  refine WL.pure rfl rfl rfl ((by first | exact PV.len rfl (by assumption) T.sl28 | exact PV.lenOs rfl (by assumption) T.sl28 | exact PV.len rfl (NL.rd (by assumption)) T.sl28 | exact PV.len rfl (Inn.rd (by assumption) (by omega)) T.sl28)) ?_
  refine WL.pure rfl rfl rfl (PV.move rfl) ?_
  refine WL.nilS ?_
  refine CW.block ?_
  refine CW.loop (σk := [(1, _), (2, _), (7, _)]) (fun ρ wz m => ∃ (k : Nat), ρ = [(8, .int .i64 (k : Nat))] ∧ m = xs.length - k ∧ UpdL [] w1 wz ∧ (k ≤ xs.length) ∧ (∀ j : Nat, j < k → fitsB c xs (j : Int) = false)) (ρ₀ := [(8, _)]) (m₀ := _) ⟨rfl, rfl, rfl, rfl, trivial⟩ ⟨0, rfl, rfl, (UpdL.refl _ _), (by first | omega | rfl | (simp; done) | assumption | (simp_all; done)), (by intro j h; omega)⟩ ?_
  rintro _ wl1 _ ⟨k, rfl, rfl, hU0, hk, he⟩
  have hb1 := hb1.loop hU0 trivial
  have hB := hB.loop hU0 trivial
  refine CW.seq ?_
  refine CW.reg ?_
  refine WL.pure rfl rfl rfl (PV.lss rfl rfl) ?_
  refine WL.nilS ?_
  refine CW.seq ?_
  refine CW.cond rfl (fun hc1 => ?_) (fun hc1 => ?_)
  · skip
    try simp only [decide_eq_true_eq, decide_eq_false_iff_not, Bool.not_eq_true', Bool.not_eq_false', Bool.not_eq_eq_eq_not, Bool.not_true, Bool.not_false, Int.not_lt, Int.not_le, Classical.not_not, beq_iff_eq, beq_eq_false_iff_ne] at hc1
    refine CW.skipS ?_
    refine CW.seq ?_
    refine CW.block ?_
    refine CW.seq ?_
    refine CW.reg ?_
    refine WL.pure rfl rfl rfl (PV.move rfl) ?_
    refine WL.pure rfl rfl rfl (PV.assign rfl) ?_
    refine WL.nilS ?_
    refine CW.seq ?_
    refine CW.reg ?_
    refine WL.pure rfl rfl rfl ((by first | exact PV.loadA T.ag107 rfl (by first | exact Cells.up (by assumption) hB | exact Bx.cells (by assumption) | assumption) (Ext.refl _) rfl | exact PV.loadP (ds := [_, _, _, _]) T.ag107 rfl (by first | exact Cells.up (by assumption) hB | exact Bx.cells (by assumption) | assumption) (Ext.refl _) rfl rfl)) ?_
    refine WL.pure rfl rfl rfl (PV.move rfl) ?_
    refine WL.pure rfl rfl rfl (PV.move rfl) ?_
    refine WL.op rfl (OpK.callR rfl T.cf187 rfl (c_impl_Change_fits (by first | assumption | exact Rd.up (by assumption) hB | exact Osl.rd (by assumption) | exact Osn.rdR (by assumption) | exact NL.rd (by assumption) | exact rdII (by assumption) (by assumption) | exact Inn.rd (by assumption) (by omega)) (by first | assumption | exact Rd.up (by assumption) hB | exact Osl.rd (by assumption) | exact Osn.rdR (by assumption) | exact NL.rd (by assumption) | exact rdII (by assumption) (by assumption) | exact Inn.rd (by assumption) (by omega)) (by first | assumption | exact Rd.up (by assumption) hB | exact Osl.rd (by assumption) | exact Osn.rdR (by assumption) | exact NL.rd (by assumption) | exact rdII (by assumption) (by assumption) | exact Inn.rd (by assumption) (by omega)) (by first | assumption | exact Rd.up (by assumption) hB | exact Osl.rd (by assumption) | exact Osn.rdR (by assumption) | exact NL.rd (by assumption) | exact rdII (by assumption) (by assumption) | exact Inn.rd (by assumption) (by omega)) (by first | assumption | exact Rd.up (by assumption) hB | exact Osl.rd (by assumption) | exact Osn.rdR (by assumption) | exact NL.rd (by assumption) | exact rdII (by assumption) (by assumption) | exact Inn.rd (by assumption) (by omega)) (by first | assumption | omega | (simp only [marks_len, marksB_len, marksR_len, sumL_marksS, List.length_take]; omega)) (by first | assumption | omega | (simp only [marks_len, marksB_len, marksR_len, sumL_marksS, List.length_take]; omega))) (fun w2 hXw2 => ?_))
    have hB := hB.trans hXw2
    have hb1 := hb1.up hXw2
    have hU0 := hU0.ext hXw2
    refine WL.nilS ?_
    refine CW.cond rfl (fun hc2 => ?_) (fun hc2 => ?_)
    · skip
      try simp only [decide_eq_true_eq, decide_eq_false_iff_not, Bool.not_eq_true', Bool.not_eq_false', Bool.not_eq_eq_eq_not, Bool.not_true, Bool.not_false, Int.not_lt, Int.not_le, Classical.not_not, beq_iff_eq, beq_eq_false_iff_ne] at hc2
      refine CW.seq ?_
      refine CW.reg ?_
      refine WL.pure rfl rfl rfl (PV.move rfl) ?_
      refine WL.pure rfl rfl rfl (PV.assign rfl) ?_
      refine WL.nilS ?_
      refine CW.ret ?_
      refine RQ.block ?_
      refine RQ.then ?_
      refine RQ.then ?_
      refine RQ.block ?_
      refine RQ.then ?_
      refine RQ.r1 rfl ?_
      refine ⟨?_, hB⟩
      first | exact iE (idxB_at (by omega) he (by assumption)) | exact iE (idxB_no (fun j h => he j (by omega)))
    try simp only [decide_eq_true_eq, decide_eq_false_iff_not, Bool.not_eq_true', Bool.not_eq_false', Bool.not_eq_eq_eq_not, Bool.not_true, Bool.not_false, Int.not_lt, Int.not_le, Classical.not_not, beq_iff_eq, beq_eq_false_iff_ne] at hc2
    refine CW.skip ?_
    refine NQ.block ?_
    refine NQ.then ?_
    refine CW.reg ?_
    refine WL.pure rfl rfl rfl (PV.add rfl rfl (by constructor <;> omega)) ?_
    refine WL.pure rfl rfl rfl (PV.move rfl) ?_
    refine WL.nil ?_
    refine NQ.next (ρ := [(8, _)]) ⟨rfl, rfl, rfl, rfl, trivial⟩ ?_
    exact ⟨_, ⟨k + 1, rfl, rfl, hU0, (by first | omega | assumption | (simp_all; done) | (simp_all; omega)), (by intro j h; rcases Nat.lt_succ_iff_lt_or_eq.1 h with h | rfl; exact he j h; assumption)⟩, by omega⟩
  try simp only [decide_eq_true_eq, decide_eq_false_iff_not, Bool.not_eq_true', Bool.not_eq_false', Bool.not_eq_eq_eq_not, Bool.not_true, Bool.not_false, Int.not_lt, Int.not_le, Classical.not_not, beq_iff_eq, beq_eq_false_iff_ne] at hc1
  refine CW.exit ?_
  refine XQ.then ?_
  refine XQ.then ?_
  refine XQ.here ?_
  refine NQ.then ?_
  refine CW.seq ?_
  refine CW.reg ?_
  refine WL.pure rfl rfl rfl (PV.assign rfl) ?_
  refine WL.nilS ?_
  refine CW.ret ?_
  refine RQ.r1 rfl ?_
  refine ⟨?_, hB⟩
  first | exact iE (idxB_at (by omega) he (by assumption)) | exact iE (idxB_no (fun j h => he j (by omega)))
theorem c_impl_changeOften_1 {w : World} {uc0 uc1 uc2 uc3 : Value} {c : C4} {pw : Addr} {vw : Value} {xs : List Int}  (hch0 : Rd EI w uc0 c.1) (hch1 : Rd EI w uc1 c.2.1) (hch2 : Rd EI w uc2 c.2.2.1) (hch3 : Rd EI w uc3 c.2.2.2) (hbw : Cells w pw [vw]) (hw : Rd EI w vw xs) (hok : okC c) (hwn : xs.length ≤ 10000) : Calls Try.prog 220 #[.agg #[uc0, uc1, uc2, uc3], .pointer (some pw)] w (Ret1 (RQt (.bool (decide (0 ≤ firstI c xs))) w)) := by
  have hB : Ext w w := Ext.refl w
  have hlc0 := hch0.leI; have hlc1 := hch1.leI; have hlc2 := hch2.leI; have hlc3 := hch3.leI; have hlw := hw.leI
  refine callsOf (vs := [_, _]) Try.func220 rfl Try.ntmps220 rfl rfl ?_
  refine CW.seq ?_
  refine CW.reg ?_
  refine WL.op rfl (OpK.box rfl rfl (by first | exact Rd.cells1 (by assumption) | exact Osl.cells1 (by assumption) | exact Osn.cells1 (by assumption) | exact Rd.cells1 (NL.rd (by assumption)) | exact Inn.cell1 (by assumption) (by omega) | assumption | rfl) (fun b1 w1 hXw1 hb1 hge1 => ?_))
  have hl1 := Lo.new hB hge1
  have hB := hB.trans hXw1
  refine WL.pure rfl rfl rfl (PV.assign rfl) ?_
  refine WL.nilS ?_
  refine CW.seq ?_
  refine CW.reg ?_
  refine WL.pure rfl rfl rfl ((by first | exact PV.loadA T.ag107 rfl (by first | exact Cells.up (by assumption) hB | exact Bx.cells (by assumption) | assumption) (Ext.refl _) rfl | exact PV.loadP (ds := [_, _, _, _]) T.ag107 rfl (by first | exact Cells.up (by assumption) hB | exact Bx.cells (by assumption) | assumption) (Ext.refl _) rfl rfl)) ?_
  refine WL.pure rfl rfl rfl ((by first | exact PV.load0 T.na28 rfl (by first | exact Cells.up (by assumption) hB | exact Bx.cells (by assumption) | assumption) (Ext.refl _) rfl | exact PV.load1 T.na28 rfl (by first | exact Cells.up (by assumption) hB | exact Bx.cells (by assumption) | assumption) (Ext.refl _) rfl)) ?_
  refine WL.op rfl (OpK.callR rfl T.cf221 rfl (c_impl_Change_first (by first | assumption | exact Rd.up (by assumption) hB | exact Osl.rd (by assumption) | exact Osn.rdR (by assumption) | exact NL.rd (by assumption) | exact rdII (by assumption) (by assumption) | exact Inn.rd (by assumption) (by omega)) (by first | assumption | exact Rd.up (by assumption) hB | exact Osl.rd (by assumption) | exact Osn.rdR (by assumption) | exact NL.rd (by assumption) | exact rdII (by assumption) (by assumption) | exact Inn.rd (by assumption) (by omega)) (by first | assumption | exact Rd.up (by assumption) hB | exact Osl.rd (by assumption) | exact Osn.rdR (by assumption) | exact NL.rd (by assumption) | exact rdII (by assumption) (by assumption) | exact Inn.rd (by assumption) (by omega)) (by first | assumption | exact Rd.up (by assumption) hB | exact Osl.rd (by assumption) | exact Osn.rdR (by assumption) | exact NL.rd (by assumption) | exact rdII (by assumption) (by assumption) | exact Inn.rd (by assumption) (by omega)) (by first | assumption | exact Rd.up (by assumption) hB | exact Osl.rd (by assumption) | exact Osn.rdR (by assumption) | exact NL.rd (by assumption) | exact rdII (by assumption) (by assumption) | exact Inn.rd (by assumption) (by omega)) (by first | assumption | omega | (simp only [marks_len, marksB_len, marksR_len, sumL_marksS, List.length_take]; omega)) (by first | assumption | omega | (simp only [marks_len, marksB_len, marksR_len, sumL_marksS, List.length_take]; omega))) (fun w2 hXw2 => ?_))
  have hB := hB.trans hXw2
  have hb1 := hb1.up hXw2
  refine WL.pure rfl rfl rfl (PV.geq rfl rfl) ?_
  refine WL.pure rfl rfl rfl (PV.assign rfl) ?_
  refine WL.nilS ?_
  refine CW.ret ?_
  refine RQ.r1 rfl ?_
  refine ⟨?_, hB⟩
  first | rfl | exact bT (by omega) | exact bF (by omega) | exact bD (by omega) | exact iE (by omega) | (simp_all; done) | (simp_all; omega) | (simp_all; intros; omega)
theorem c_slices_IndexFunc_impl_Change_impl_Change_impl_changeOften_1 {w : World} {va : Value} {cs : List C4} {pw : Addr} {vw : Value} {xs : List Int}  (ha : Rd ECh w va cs) (hbw : Cells w pw [vw]) (hw : Rd EI w vw xs) (hwn : xs.length ≤ 10000) (hoks : ∀ k : Nat, k < cs.length → okC (cs.getD k d4)) : Calls Try.prog 219 #[va, .func (.func 220) #[] #[.pointer (some pw)]] w (Ret1 (RQt (.int .i64 (stepI cs xs)) w)) := by
  have hB : Ext w w := Ext.refl w
  have hla := ha.leI; have hlw := hw.leI
  refine callsOf (vs := [_, _]) Try.func219 rfl Try.ntmps219 rfl rfl ?_
  refine CW.seq ?_
  refine CW.reg ?_
  refine WL.pure rfl rfl rfl (PV.assign rfl) ?_
  refine WL.nilS ?_
  refine CW.seq ?_
  refine CW.seq ?_
  refine CW.reg ?_
  refine WL.pure rfl rfl rfl (PV.move rfl) ?_
  refine WL.pure rfl rfl rfl ((by first | exact PV.len rfl (by assumption) T.sl98 | exact PV.lenOs rfl (by assumption) T.sl98 | exact PV.len rfl (NL.rd (by assumption)) T.sl98 | exact PV.len rfl (Inn.rd (by assumption) (by omega)) T.sl98)) ?_
  refine WL.pure rfl rfl rfl (PV.move rfl) ?_
  refine WL.nilS ?_
  refine CW.block ?_
  refine CW.loop (σk := [(0, _), (1, _), (7, _)]) (fun ρ wz m => ∃ (k : Nat), ρ = [(8, .int .i64 (k : Nat))] ∧ m = cs.length - k ∧ UpdL [] w wz ∧ (k ≤ cs.length) ∧ (∀ j : Nat, j < k → decide (0 ≤ firstI (cs.getD j d4) xs) = false)) (ρ₀ := [(8, _)]) (m₀ := _) ⟨rfl, rfl, rfl, rfl, trivial⟩ ⟨0, rfl, rfl, (UpdL.refl _ _), (by first | omega | rfl | (simp; done) | assumption | (simp_all; done)), (by intro j h; omega)⟩ ?_
  rintro _ wl1 _ ⟨k, rfl, rfl, hU0, hk, he⟩
  have hB := hB.loop hU0 trivial
  refine CW.seq ?_
  refine CW.reg ?_
  refine WL.pure rfl rfl rfl (PV.lss rfl rfl) ?_
  refine WL.nilS ?_
  refine CW.seq ?_
  refine CW.cond rfl (fun hc1 => ?_) (fun hc1 => ?_)
  · skip
    try simp only [decide_eq_true_eq, decide_eq_false_iff_not, Bool.not_eq_true', Bool.not_eq_false', Bool.not_eq_eq_eq_not, Bool.not_true, Bool.not_false, Int.not_lt, Int.not_le, Classical.not_not, beq_iff_eq, beq_eq_false_iff_ne] at hc1
    refine CW.skipS ?_
    refine CW.seq ?_
    refine CW.block ?_
    refine CW.seq ?_
    refine CW.reg ?_
    refine WL.pure rfl rfl rfl (PV.move rfl) ?_
    refine WL.pure rfl rfl rfl (PV.assign rfl) ?_
    refine WL.nilS ?_
    refine CW.seq ?_
    refine CW.reg ?_
    refine WL.pure rfl rfl rfl (PV.move rfl) ?_
    have hok := hoks k (by omega)
    refine WL.pure rfl rfl rfl (PV.move rfl) ?_
    refine WL.pure rfl rfl rfl (PV.move rfl) ?_
    first
      | refine WL.at (x := .tmp 12) (y := .tmp 13) (E := ECh) (d4) rfl rfl (by first | assumption | exact Inn.rd (by assumption) (by omega)) (by first | omega | (simp only [List.length_set]; omega) | (simp only [List.length_append, List.length_take, List.length_replicate, List.length_drop]; omega)) (fun p1 csp1 hpp1 hcp1 hq => ?_)
      | refine WL.atZ (x := .tmp 12) (y := .tmp 13) (E := ECh) (d4) rfl rfl (by first | assumption | exact Inn.rd (by assumption) (by omega)) (by first | omega | (simp only [List.length_set]; omega) | (simp only [List.length_append, List.length_take, List.length_replicate, List.length_drop]; omega)) (fun p1 csp1 hpp1 hzp1 hcp1 hq => ?_)
    obtain ⟨vq0, vq1, vq2, vq3, rfl, hq0, hq1, hq2, hq3⟩ := ECh.parts hq
    refine WL.pure rfl rfl rfl ((by first | exact PV.indexAddr hpp1 rfl rfl T.sl98 | exact PV.indexAddr hpp1 rfl (by rw [← hzp1]; rfl) T.sl98)) ?_
    refine WL.pure rfl rfl rfl ((by first | exact PV.loadA T.ag107 rfl (by first | exact Cells.up (by assumption) hB | exact Bx.cells (by assumption) | assumption) (Ext.refl _) rfl | exact PV.loadP (ds := [_, _, _, _]) T.ag107 rfl (by first | exact Cells.up (by assumption) hB | exact Bx.cells (by assumption) | assumption) (Ext.refl _) rfl rfl)) ?_
    refine WL.op rfl (OpK.callV rfl T.cf220 rfl rfl (c_impl_changeOften_1 (by first | assumption | exact Rd.up (by assumption) hB | exact Osl.rd (by assumption) | exact Osn.rdR (by assumption) | exact NL.rd (by assumption) | exact rdII (by assumption) (by assumption) | exact Inn.rd (by assumption) (by omega)) (by first | assumption | exact Rd.up (by assumption) hB | exact Osl.rd (by assumption) | exact Osn.rdR (by assumption) | exact NL.rd (by assumption) | exact rdII (by assumption) (by assumption) | exact Inn.rd (by assumption) (by omega)) (by first | assumption | exact Rd.up (by assumption) hB | exact Osl.rd (by assumption) | exact Osn.rdR (by assumption) | exact NL.rd (by assumption) | exact rdII (by assumption) (by assumption) | exact Inn.rd (by assumption) (by omega)) (by first | assumption | exact Rd.up (by assumption) hB | exact Osl.rd (by assumption) | exact Osn.rdR (by assumption) | exact NL.rd (by assumption) | exact rdII (by assumption) (by assumption) | exact Inn.rd (by assumption) (by omega)) (by first | exact Bx.cells (by assumption) | exact Cells.up (by assumption) hB | assumption | exact Cells.add (Bx.cells (by assumption)) _ | exact Cells.add (Cells.up (by assumption) hB) _) (by first | assumption | exact Rd.up (by assumption) hB | exact Osl.rd (by assumption) | exact Osn.rdR (by assumption) | exact NL.rd (by assumption) | exact rdII (by assumption) (by assumption) | exact Inn.rd (by assumption) (by omega)) (by first | assumption | omega | (simp only [marks_len, marksB_len, marksR_len, sumL_marksS, List.length_take]; omega)) (by first | assumption | omega | (simp only [marks_len, marksB_len, marksR_len, sumL_marksS, List.length_take]; omega))) (fun w1 hXw1 => ?_))
    have hB := hB.trans hXw1
    have hU0 := hU0.ext hXw1
    refine WL.nilS ?_
    refine CW.cond rfl (fun hc2 => ?_) (fun hc2 => ?_)
    · skip
      try simp only [decide_eq_true_eq, decide_eq_false_iff_not, Bool.not_eq_true', Bool.not_eq_false', Bool.not_eq_eq_eq_not, Bool.not_true, Bool.not_false, Int.not_lt, Int.not_le, Classical.not_not, beq_iff_eq, beq_eq_false_iff_ne] at hc2
      refine CW.seq ?_
      refine CW.reg ?_
      refine WL.pure rfl rfl rfl (PV.move rfl) ?_
      refine WL.pure rfl rfl rfl (PV.assign rfl) ?_
      refine WL.nilS ?_
      refine CW.ret ?_
      refine RQ.block ?_
      refine RQ.then ?_
      refine RQ.then ?_
      refine RQ.block ?_
      refine RQ.then ?_
      refine RQ.r1 rfl ?_
      refine ⟨?_, hB⟩
      first | exact iE (idxB_at (by omega) he (decide_eq_true (by omega))) | exact iE (idxB_no (fun j h => he j (by omega)))
    try simp only [decide_eq_true_eq, decide_eq_false_iff_not, Bool.not_eq_true', Bool.not_eq_false', Bool.not_eq_eq_eq_not, Bool.not_true, Bool.not_false, Int.not_lt, Int.not_le, Classical.not_not, beq_iff_eq, beq_eq_false_iff_ne] at hc2
    refine CW.skip ?_
    refine NQ.block ?_
    refine NQ.then ?_
    refine CW.reg ?_
    refine WL.pure rfl rfl rfl (PV.add rfl rfl (by constructor <;> omega)) ?_
    refine WL.pure rfl rfl rfl (PV.move rfl) ?_
    refine WL.nil ?_
    refine NQ.next (ρ := [(8, _)]) ⟨rfl, rfl, rfl, rfl, trivial⟩ ?_
    exact ⟨_, ⟨k + 1, rfl, rfl, hU0, (by first | omega | assumption | (simp_all; done) | (simp_all; omega)), (by intro j h; rcases Nat.lt_succ_iff_lt_or_eq.1 h with h | rfl; exact he j h; exact decide_eq_false (by omega))⟩, by omega⟩
  try simp only [decide_eq_true_eq, decide_eq_false_iff_not, Bool.not_eq_true', Bool.not_eq_false', Bool.not_eq_eq_eq_not, Bool.not_true, Bool.not_false, Int.not_lt, Int.not_le, Classical.not_not, beq_iff_eq, beq_eq_false_iff_ne] at hc1
  refine CW.exit ?_
  refine XQ.then ?_
  refine XQ.then ?_
  refine XQ.here ?_
  refine NQ.then ?_
  refine CW.seq ?_
  refine CW.reg ?_
  refine WL.pure rfl rfl rfl (PV.assign rfl) ?_
  refine WL.nilS ?_
  refine CW.ret ?_
  refine RQ.r1 rfl ?_
  refine ⟨?_, hB⟩
  first | exact iE (idxB_at (by omega) he (decide_eq_true (by omega))) | exact iE (idxB_no (fun j h => he j (by omega)))
theorem c_slices_IndexFunc_impl_Change_impl_Change_impl_arePlain_1 {w : World} {va : Value} {cs : List C4}  (ha : Rd ECh w va cs) (hoks : ∀ k : Nat, k < cs.length → okC (cs.getD k d4)) : Calls Try.prog 219 #[va, .func (.func 212) #[] #[]] w (Ret1 (RQt (.int .i64 (idxB (platP cs) cs.length)) w)) := by
  have hB : Ext w w := Ext.refl w
  have hla := ha.leI
  refine callsOf (vs := [_, _]) Try.func219 rfl Try.ntmps219 rfl rfl ?_
  refine CW.seq ?_
  refine CW.reg ?_
  refine WL.pure rfl rfl rfl (PV.assign rfl) ?_
  refine WL.nilS ?_
  refine CW.seq ?_
  refine CW.seq ?_
  refine CW.reg ?_
  refine WL.pure rfl rfl rfl (PV.move rfl) ?_
  refine WL.pure rfl rfl rfl ((by first | exact PV.len rfl (by assumption) T.sl98 | exact PV.lenOs rfl (by assumption) T.sl98 | exact PV.len rfl (NL.rd (by assumption)) T.sl98 | exact PV.len rfl (Inn.rd (by assumption) (by omega)) T.sl98)) ?_
  refine WL.pure rfl rfl rfl (PV.move rfl) ?_
  refine WL.nilS ?_
  refine CW.block ?_
  refine CW.loop (σk := [(0, _), (1, _), (7, _)]) (fun ρ wz m => ∃ (k : Nat), ρ = [(8, .int .i64 (k : Nat))] ∧ m = cs.length - k ∧ UpdL [] w wz ∧ (k ≤ cs.length) ∧ (∀ j : Nat, j < k → platP cs j = false)) (ρ₀ := [(8, _)]) (m₀ := _) ⟨rfl, rfl, rfl, rfl, trivial⟩ ⟨0, rfl, rfl, (UpdL.refl _ _), (by first | omega | rfl | (simp; done) | assumption | (simp_all; done)), (by intro j h; omega)⟩ ?_
  rintro _ wl1 _ ⟨k, rfl, rfl, hU0, hk, he⟩
  have hB := hB.loop hU0 trivial
  refine CW.seq ?_
  refine CW.reg ?_
  refine WL.pure rfl rfl rfl (PV.lss rfl rfl) ?_
  refine WL.nilS ?_
  refine CW.seq ?_
  refine CW.cond rfl (fun hc1 => ?_) (fun hc1 => ?_)
  · skip
    try simp only [decide_eq_true_eq, decide_eq_false_iff_not, Bool.not_eq_true', Bool.not_eq_false', Bool.not_eq_eq_eq_not, Bool.not_true, Bool.not_false, Int.not_lt, Int.not_le, Classical.not_not, beq_iff_eq, beq_eq_false_iff_ne] at hc1
    refine CW.skipS ?_
    refine CW.seq ?_
    refine CW.block ?_
    refine CW.seq ?_
    refine CW.reg ?_
    refine WL.pure rfl rfl rfl (PV.move rfl) ?_
    refine WL.pure rfl rfl rfl (PV.assign rfl) ?_
    refine WL.nilS ?_
    refine CW.seq ?_
    refine CW.reg ?_
    refine WL.pure rfl rfl rfl (PV.move rfl) ?_
    have hok := hoks k (by omega)
    refine WL.pure rfl rfl rfl (PV.move rfl) ?_
    refine WL.pure rfl rfl rfl (PV.move rfl) ?_
    first
      | refine WL.at (x := .tmp 12) (y := .tmp 13) (E := ECh) (d4) rfl rfl (by first | assumption | exact Inn.rd (by assumption) (by omega)) (by first | omega | (simp only [List.length_set]; omega) | (simp only [List.length_append, List.length_take, List.length_replicate, List.length_drop]; omega)) (fun p1 csp1 hpp1 hcp1 hq => ?_)
      | refine WL.atZ (x := .tmp 12) (y := .tmp 13) (E := ECh) (d4) rfl rfl (by first | assumption | exact Inn.rd (by assumption) (by omega)) (by first | omega | (simp only [List.length_set]; omega) | (simp only [List.length_append, List.length_take, List.length_replicate, List.length_drop]; omega)) (fun p1 csp1 hpp1 hzp1 hcp1 hq => ?_)
    obtain ⟨vq0, vq1, vq2, vq3, rfl, hq0, hq1, hq2, hq3⟩ := ECh.parts hq
    refine WL.pure rfl rfl rfl ((by first | exact PV.indexAddr hpp1 rfl rfl T.sl98 | exact PV.indexAddr hpp1 rfl (by rw [← hzp1]; rfl) T.sl98)) ?_
    refine WL.pure rfl rfl rfl ((by first | exact PV.loadA T.ag107 rfl (by first | exact Cells.up (by assumption) hB | exact Bx.cells (by assumption) | assumption) (Ext.refl _) rfl | exact PV.loadP (ds := [_, _, _, _]) T.ag107 rfl (by first | exact Cells.up (by assumption) hB | exact Bx.cells (by assumption) | assumption) (Ext.refl _) rfl rfl)) ?_
    refine WL.op rfl (OpK.callV rfl T.cf212 rfl rfl (c_impl_arePlain_1 (by first | assumption | exact Rd.up (by assumption) hB | exact Osl.rd (by assumption) | exact Osn.rdR (by assumption) | exact NL.rd (by assumption) | exact rdII (by assumption) (by assumption) | exact Inn.rd (by assumption) (by omega)) (by first | assumption | exact Rd.up (by assumption) hB | exact Osl.rd (by assumption) | exact Osn.rdR (by assumption) | exact NL.rd (by assumption) | exact rdII (by assumption) (by assumption) | exact Inn.rd (by assumption) (by omega)) (by first | assumption | exact Rd.up (by assumption) hB | exact Osl.rd (by assumption) | exact Osn.rdR (by assumption) | exact NL.rd (by assumption) | exact rdII (by assumption) (by assumption) | exact Inn.rd (by assumption) (by omega)) (by first | assumption | exact Rd.up (by assumption) hB | exact Osl.rd (by assumption) | exact Osn.rdR (by assumption) | exact NL.rd (by assumption) | exact rdII (by assumption) (by assumption) | exact Inn.rd (by assumption) (by omega)) (by first | assumption | omega | (simp only [marks_len, marksB_len, marksR_len, sumL_marksS, List.length_take]; omega))) (fun w1 hXw1 => ?_))
    have hB := hB.trans hXw1
    have hU0 := hU0.ext hXw1
    refine WL.nilS ?_
    refine CW.cond rfl (fun hc2 => ?_) (fun hc2 => ?_)
    · skip
      try simp only [decide_eq_true_eq, decide_eq_false_iff_not, Bool.not_eq_true', Bool.not_eq_false', Bool.not_eq_eq_eq_not, Bool.not_true, Bool.not_false, Int.not_lt, Int.not_le, Classical.not_not, beq_iff_eq, beq_eq_false_iff_ne] at hc2
      refine CW.seq ?_
      refine CW.reg ?_
      refine WL.pure rfl rfl rfl (PV.move rfl) ?_
      refine WL.pure rfl rfl rfl (PV.assign rfl) ?_
      refine WL.nilS ?_
      refine CW.ret ?_
      refine RQ.block ?_
      refine RQ.then ?_
      refine RQ.then ?_
      refine RQ.block ?_
      refine RQ.then ?_
      refine RQ.r1 rfl ?_
      refine ⟨?_, hB⟩
      first | exact iE (idxB_at (by omega) he (decide_eq_true (by omega))) | exact iE (idxB_no (fun j h => he j (by omega)))
    try simp only [decide_eq_true_eq, decide_eq_false_iff_not, Bool.not_eq_true', Bool.not_eq_false', Bool.not_eq_eq_eq_not, Bool.not_true, Bool.not_false, Int.not_lt, Int.not_le, Classical.not_not, beq_iff_eq, beq_eq_false_iff_ne] at hc2
    refine CW.skip ?_
    refine NQ.block ?_
    refine NQ.then ?_
    refine CW.reg ?_
    refine WL.pure rfl rfl rfl (PV.add rfl rfl (by constructor <;> omega)) ?_
    refine WL.pure rfl rfl rfl (PV.move rfl) ?_
    refine WL.nil ?_
    refine NQ.next (ρ := [(8, _)]) ⟨rfl, rfl, rfl, rfl, trivial⟩ ?_
    exact ⟨_, ⟨k + 1, rfl, rfl, hU0, (by first | omega | assumption | (simp_all; done) | (simp_all; omega)), (by intro j h; rcases Nat.lt_succ_iff_lt_or_eq.1 h with h | rfl; exact he j h; exact decide_eq_false (by omega))⟩, by omega⟩
  try simp only [decide_eq_true_eq, decide_eq_false_iff_not, Bool.not_eq_true', Bool.not_eq_false', Bool.not_eq_eq_eq_not, Bool.not_true, Bool.not_false, Int.not_lt, Int.not_le, Classical.not_not, beq_iff_eq, beq_eq_false_iff_ne] at hc1
  refine CW.exit ?_
  refine XQ.then ?_
  refine XQ.then ?_
  refine XQ.here ?_
  refine NQ.then ?_
  refine CW.seq ?_
  refine CW.reg ?_
  refine WL.pure rfl rfl rfl (PV.assign rfl) ?_
  refine WL.nilS ?_
  refine CW.ret ?_
  refine RQ.r1 rfl ?_
  refine ⟨?_, hB⟩
  first | exact iE (idxB_at (by omega) he (decide_eq_true (by omega))) | exact iE (idxB_no (fun j h => he j (by omega)))
theorem c_slices_ContainsFunc_impl_Change_impl_Change {w : World} {va : Value} {cs : List C4}  (ha : Rd ECh w va cs) (hoks : ∀ k : Nat, k < cs.length → okC (cs.getD k d4)) : Calls Try.prog 211 #[va, .func (.func 212) #[] #[]] w (Ret1 (RQt (.bool (decide (0 ≤ idxB (platP cs) cs.length))) w)) := by
  have hB : Ext w w := Ext.refl w
  have hla := ha.leI
  refine callsOf (vs := [_, _]) Try.func211 rfl Try.ntmps211 rfl rfl ?_
  refine CW.seq ?_
  refine CW.reg ?_
  refine WL.pure rfl rfl rfl (PV.assign rfl) ?_
  refine WL.nilS ?_
  refine CW.seq ?_
  refine CW.reg ?_
  refine WL.pure rfl rfl rfl (PV.move rfl) ?_
  refine WL.pure rfl rfl rfl (PV.move rfl) ?_
  refine WL.op rfl (OpK.callR rfl T.cf219 rfl (c_slices_IndexFunc_impl_Change_impl_Change_impl_arePlain_1 (by first | assumption | exact Rd.up (by assumption) hB | exact rdCh (by assumption) (by assumption)) (by first | assumption | (intro k9 h9; simp only [List.length_cons, List.length_nil] at h9; (obtain rfl : k9 = 0 := (by omega)); assumption))) (fun w1 hXw1 => ?_))
  have hB := hB.trans hXw1
  refine WL.pure rfl rfl rfl (PV.geq rfl rfl) ?_
  refine WL.pure rfl rfl rfl (PV.assign rfl) ?_
  refine WL.nilS ?_
  refine CW.ret ?_
  refine RQ.r1 rfl ?_
  refine ⟨?_, hB⟩
  first | rfl | exact bT (by omega) | exact bF (by omega) | exact bD (by omega) | exact iE (by omega) | (simp_all; done) | (simp_all; omega) | (simp_all; intros; omega)
theorem c_impl_arePlain {w : World} {va : Value} {cs : List C4} {L : Int} (ha : Rd ECh w va cs) : Calls Try.prog 164 #[va, .int .i64 L] w (Ret1 (RQt (.bool (plnB cs L)) w)) := by
  have hB : Ext w w := Ext.refl w
  have hla := ha.leI
  refine callsOf (vs := [_, _]) Try.func164 rfl Try.ntmps164 rfl rfl ?_
  refine CW.seq ?_
  refine CW.reg ?_
  refine WL.pure rfl rfl rfl (PV.assign rfl) ?_
  refine WL.nilS ?_
  refine CW.seq ?_
  refine CW.reg ?_
  refine WL.pure rfl rfl rfl (PV.move rfl) ?_
  refine WL.pure rfl rfl rfl (PV.move rfl) ?_
  refine WL.op rfl (OpK.callR rfl T.cf176 rfl (c_impl_areChanges (by first | assumption | exact Rd.up (by assumption) hB | exact rdCh (by assumption) (by assumption))) (fun w1 hXw1 => ?_))
  have hB := hB.trans hXw1
  refine WL.pure rfl rfl rfl (PV.move rfl) ?_
  refine WL.split (t := 8) rfl (fun hc1 => ?_) (fun hc1 => ?_)
  rotate_left
  · skip
    try simp only [decide_eq_true_eq, decide_eq_false_iff_not, Bool.not_eq_true', Bool.not_eq_false', Bool.not_eq_eq_eq_not, Bool.not_true, Bool.not_false, Int.not_lt, Int.not_le, Classical.not_not, beq_iff_eq, beq_eq_false_iff_ne] at hc1
    refine WL.skip rfl rfl rfl rfl rfl ?_
    refine WL.skip rfl rfl rfl rfl rfl ?_
    refine WL.skip rfl rfl rfl rfl rfl ?_
    refine WL.pure rfl rfl rfl (PV.pickF rfl rfl) ?_
    refine WL.pure rfl rfl rfl (PV.assign rfl) ?_
    refine WL.nilS ?_
    refine CW.ret ?_
    refine RQ.r1 rfl ?_
    refine ⟨?_, hB⟩
    first | exact bE (pln_n1 (by assumption)) | exact bE (pln_e (by assumption))
  try simp only [decide_eq_true_eq, decide_eq_false_iff_not, Bool.not_eq_true', Bool.not_eq_false', Bool.not_eq_eq_eq_not, Bool.not_true, Bool.not_false, Int.not_lt, Int.not_le, Classical.not_not, beq_iff_eq, beq_eq_false_iff_ne] at hc1
  refine WL.pureG rfl rfl rfl rfl rfl (PV.move rfl) ?_
  have hoks := (listB_y (by assumption : listB cs L = true)).2.2.2
  refine WL.opG rfl rfl rfl (OpK.callR rfl T.cf211 rfl (c_slices_ContainsFunc_impl_Change_impl_Change (by first | assumption | exact Rd.up (by assumption) hB | exact rdCh (by assumption) (by assumption)) (by first | assumption | (intro k9 h9; simp only [List.length_cons, List.length_nil] at h9; (obtain rfl : k9 = 0 := (by omega)); assumption))) (fun w2 hXw2 => ?_))
  have hB := hB.trans hXw2
  refine WL.pureG rfl rfl rfl rfl rfl (PV.not rfl) ?_
  refine WL.pure rfl rfl rfl (PV.pickT rfl rfl) ?_
  refine WL.pure rfl rfl rfl (PV.assign rfl) ?_
  refine WL.nilS ?_
  refine CW.ret ?_
  refine RQ.r1 rfl ?_
  refine ⟨?_, hB⟩
  first | exact bE (pln_n1 (by assumption)) | exact bE (pln_e (by assumption))
theorem c_slices_Grow_int64_int64 {w : World} {N : Int} (hN : 0 ≤ N ∧ N ≤ 1048576) : Calls Try.prog 201 #[.slice none 0 0, .int .i64 N] w (Ret1 (fun v w' => Ext w w' ∧ ∃ u og_u, v = u ∧ Osl VI w' og_u u (([] : List Int)) ∧ Lo w og_u)) := by
  have hB : Ext w w := Ext.refl w
  have hnil : Rd EI w (.slice none 0 0) [] := Rd.nil _ _
  refine callsOf (vs := [_, _]) Try.func201 rfl Try.ntmps201 rfl rfl ?_
  refine CW.seq ?_
  refine CW.reg ?_
  refine WL.pure rfl rfl rfl (PV.assign rfl) ?_
  refine WL.nilS ?_
  refine CW.seq ?_
  refine CW.seq ?_
  refine CW.reg ?_
  refine WL.pure rfl rfl rfl (PV.move rfl) ?_
  refine WL.pure rfl rfl rfl (PV.lss rfl rfl) ?_
  refine WL.nilS ?_
  refine CW.cond rfl (fun hc1 => ?_) (fun hc1 => ?_)
  · skip
    try simp only [decide_eq_true_eq, decide_eq_false_iff_not, Bool.not_eq_true', Bool.not_eq_false', Bool.not_eq_eq_eq_not, Bool.not_true, Bool.not_false, Int.not_lt, Int.not_le, Classical.not_not, beq_iff_eq, beq_eq_false_iff_ne] at hc1
    exfalso; omega
  try simp only [decide_eq_true_eq, decide_eq_false_iff_not, Bool.not_eq_true', Bool.not_eq_false', Bool.not_eq_eq_eq_not, Bool.not_true, Bool.not_false, Int.not_lt, Int.not_le, Classical.not_not, beq_iff_eq, beq_eq_false_iff_ne] at hc1
  refine CW.skipS ?_
  refine CW.seq ?_
  refine CW.seq ?_
  refine CW.reg ?_
  refine WL.pure rfl rfl rfl (PV.move rfl) ?_
  refine WL.pure rfl rfl rfl (PV.move rfl) ?_
  refine WL.pure rfl rfl rfl (PV.capNil rfl T.sl28) ?_
  refine WL.pure rfl rfl rfl (PV.move rfl) ?_
  refine WL.pure rfl rfl rfl ((by first | exact PV.len rfl (by assumption) T.sl28 | exact PV.lenOs rfl (by assumption) T.sl28 | exact PV.len rfl (NL.rd (by assumption)) T.sl28 | exact PV.len rfl (Inn.rd (by assumption) (by omega)) T.sl28)) ?_
  simp only [List.length_nil]
  refine WL.pure rfl rfl rfl (PV.sub rfl rfl (by constructor <;> omega)) ?_
  refine WL.pure rfl rfl rfl (PV.sub rfl rfl (by constructor <;> omega)) ?_
  refine WL.pure rfl rfl rfl (PV.assign rfl) ?_
  refine WL.nilS ?_
  refine CW.seq ?_
  refine CW.reg ?_
  refine WL.pure rfl rfl rfl (PV.move rfl) ?_
  refine WL.pure rfl rfl rfl (PV.gtr rfl rfl) ?_
  refine WL.nilS ?_
  refine CW.cond rfl (fun hc2 => ?_) (fun hc2 => ?_)
  · skip
    try simp only [decide_eq_true_eq, decide_eq_false_iff_not, Bool.not_eq_true', Bool.not_eq_false', Bool.not_eq_eq_eq_not, Bool.not_true, Bool.not_false, Int.not_lt, Int.not_le, Classical.not_not, beq_iff_eq, beq_eq_false_iff_ne] at hc2
    refine CW.reg ?_
    refine WL.pure rfl rfl rfl (PV.move rfl) ?_
    refine WL.pure rfl rfl rfl (PV.move rfl) ?_
    refine WL.pure rfl rfl rfl (PV.capNil rfl T.sl28) ?_
    refine WL.pure rfl rfl rfl (PV.sliceNil T.sl28 rfl rfl) ?_
    refine WL.pure rfl rfl rfl (PV.move rfl) ?_
    refine WL.op rfl (OpK.growA rfl T.sl28 T.ik3 T.zv2 rfl rfl rfl rfl (by omega) rfl (fun v1 g1 cs1 w1 hXw1 ho1 hge1 => ?_))
    have hl1 := Lo.new hB hge1
    have hB := hB.trans hXw1
    refine WL.pure rfl rfl rfl (PV.move rfl) ?_
    refine WL.pure rfl rfl rfl ((by first | exact PV.len rfl (by assumption) T.sl28 | exact PV.lenOs rfl (by assumption) T.sl28 | exact PV.len rfl (NL.rd (by assumption)) T.sl28 | exact PV.len rfl (Inn.rd (by assumption) (by omega)) T.sl28)) ?_
    refine WL.slG (x := .tmp 22) (hi := .tmp 24) T.sl28 rfl rfl rfl ho1 (fun u2 huu2 hou2 => ?_)
    refine WL.pure rfl rfl rfl ((huu2 _ _ _ _ _ _)) ?_
    refine WL.pure rfl rfl rfl (PV.assign rfl) ?_
    have ho2 : Osl VI w1 (some g1) u2 [] := hou2
    have hl2 := hl1
    refine WL.nilS ?_
    refine CW.seq ?_
    refine CW.reg ?_
    refine WL.pure rfl rfl rfl (PV.move rfl) ?_
    refine WL.pure rfl rfl rfl (PV.assign rfl) ?_
    refine WL.nilS ?_
    refine CW.ret ?_
    refine RQ.r1 rfl ?_
    refine ⟨hB, u2, (some g1), ?_, osE ho2 ?_, hl2⟩
    · skip
      rfl
    · skip
      rfl
  try simp only [decide_eq_true_eq, decide_eq_false_iff_not, Bool.not_eq_true', Bool.not_eq_false', Bool.not_eq_eq_eq_not, Bool.not_true, Bool.not_false, Int.not_lt, Int.not_le, Classical.not_not, beq_iff_eq, beq_eq_false_iff_ne] at hc2
  refine CW.skipS ?_
  refine CW.seq ?_
  refine CW.reg ?_
  refine WL.pure rfl rfl rfl (PV.move rfl) ?_
  refine WL.pure rfl rfl rfl (PV.assign rfl) ?_
  refine WL.nilS ?_
  refine CW.ret ?_
  refine RQ.r1 rfl ?_
  refine ⟨hB, (.slice none 0 0), none, ?_, osE (Osl.nil _ _) ?_, Lo.nl _⟩
  · skip
    rfl
  · skip
    rfl
theorem c_slices_Concat_int64_int64 {w : World} {va : Value} {xs : List (List Int)} (ha : Rd (ESl EI) w va xs) (hT : xs.flatten.length ≤ 100000) : Calls Try.prog 135 #[va] w (Ret1 (fun v w' => Ext w w' ∧ ∃ u og_u, v = u ∧ Osl VI w' og_u u (xs.flatten) ∧ Lo w og_u)) := by
  have hB : Ext w w := Ext.refl w
  have hla := ha.leI
  refine callsOf (vs := [_]) Try.func135 rfl Try.ntmps135 rfl rfl ?_
  refine CW.seq ?_
  refine CW.reg ?_
  refine WL.pure rfl rfl rfl (PV.assign rfl) ?_
  refine WL.nilS ?_
  refine CW.seq ?_
  refine CW.reg ?_
  refine WL.pure rfl rfl rfl (PV.assign rfl) ?_
  refine WL.nilS ?_
  refine CW.seq ?_
  refine CW.seq ?_
  refine CW.reg ?_
  refine WL.pure rfl rfl rfl (PV.move rfl) ?_
  refine WL.pure rfl rfl rfl ((by first | exact PV.len rfl (by assumption) T.sl25 | exact PV.lenOs rfl (by assumption) T.sl25 | exact PV.len rfl (NL.rd (by assumption)) T.sl25 | exact PV.len rfl (Inn.rd (by assumption) (by omega)) T.sl25)) ?_
  refine WL.pure rfl rfl rfl (PV.move rfl) ?_
  refine WL.nilS ?_
  refine CW.block ?_
  refine CW.loop (σk := [(0, _), (9, _), (10, _)]) (fun ρ wz m => ∃ (k : Nat), ρ = [(3, .int .i64 (((xs.take k).flatten.length : Nat) : Int)), (11, .int .i64 (k : Nat))] ∧ m = xs.length - k ∧ UpdL [] w wz ∧ (k ≤ xs.length)) (ρ₀ := [(3, _), (11, _)]) (m₀ := _) ⟨rfl, rfl, rfl, rfl, rfl, trivial⟩ ⟨0, (by simp), rfl, (UpdL.refl _ _), (by first | omega | rfl | (simp; done) | assumption | (simp_all; done))⟩ ?_
  rintro _ wl1 _ ⟨k, rfl, rfl, hU0, hk⟩
  have hB := hB.loop hU0 trivial
  have hfl := flat_le (xs := xs) k
  refine CW.seq ?_
  refine CW.reg ?_
  refine WL.pure rfl rfl rfl (PV.lss rfl rfl) ?_
  refine WL.nilS ?_
  refine CW.seq ?_
  refine CW.cond rfl (fun hc1 => ?_) (fun hc1 => ?_)
  · skip
    try simp only [decide_eq_true_eq, decide_eq_false_iff_not, Bool.not_eq_true', Bool.not_eq_false', Bool.not_eq_eq_eq_not, Bool.not_true, Bool.not_false, Int.not_lt, Int.not_le, Classical.not_not, beq_iff_eq, beq_eq_false_iff_ne] at hc1
    refine CW.skipS ?_
    refine CW.seq ?_
    refine CW.block ?_
    refine CW.seq ?_
    refine CW.reg ?_
    first
      | refine WL.at (x := .tmp 9) (y := .tmp 11) (E := ESl EI) ([]) rfl rfl (by first | assumption | exact Inn.rd (by assumption) (by omega)) (by first | omega | (simp only [List.length_set]; omega) | (simp only [List.length_append, List.length_take, List.length_replicate, List.length_drop]; omega)) (fun p1 csp1 hpp1 hcp1 hq => ?_)
      | refine WL.atZ (x := .tmp 9) (y := .tmp 11) (E := ESl EI) ([]) rfl rfl (by first | assumption | exact Inn.rd (by assumption) (by omega)) (by first | omega | (simp only [List.length_set]; omega) | (simp only [List.length_append, List.length_take, List.length_replicate, List.length_drop]; omega)) (fun p1 csp1 hpp1 hzp1 hcp1 hq => ?_)
    obtain ⟨vq, rfl, hrq⟩ := hq; have hrql := hrq.leI
    refine WL.pure rfl rfl rfl ((by first | exact PV.indexAddr hpp1 rfl rfl T.sl25 | exact PV.indexAddr hpp1 rfl (by rw [← hzp1]; rfl) T.sl25)) ?_
    refine WL.pure rfl rfl rfl ((by first | exact PV.load0 T.na28 rfl (by first | exact Cells.up (by assumption) hB | exact Bx.cells (by assumption) | assumption) (Ext.refl _) rfl | exact PV.load1 T.na28 rfl (by first | exact Cells.up (by assumption) hB | exact Bx.cells (by assumption) | assumption) (Ext.refl _) rfl)) ?_
    refine WL.pure rfl rfl rfl (PV.assign rfl) ?_
    refine WL.nilS ?_
    refine CW.seq ?_
    refine CW.reg ?_
    have hfs := congrArg List.length (flat_succ (xs := xs) (k := k) (by omega)); rw [List.length_append] at hfs; have hfl1 := flat_le (xs := xs) (k + 1)
    refine WL.pure rfl rfl rfl (PV.move rfl) ?_
    refine WL.pure rfl rfl rfl (PV.move rfl) ?_
    refine WL.pure rfl rfl rfl ((by first | exact PV.len rfl (by assumption) T.sl28 | exact PV.lenOs rfl (by assumption) T.sl28 | exact PV.len rfl (NL.rd (by assumption)) T.sl28 | exact PV.len rfl (Inn.rd (by assumption) (by omega)) T.sl28)) ?_
    refine WL.pure rfl rfl rfl (PV.add rfl rfl (by constructor <;> omega)) ?_
    refine WL.pure rfl rfl rfl (PV.assign rfl) ?_
    refine WL.nilS ?_
    refine CW.seq ?_
    refine CW.reg ?_
    refine WL.pure rfl rfl rfl (PV.move rfl) ?_
    refine WL.pure rfl rfl rfl (PV.lss rfl rfl) ?_
    refine WL.nilS ?_
    refine CW.cond rfl (fun hc2 => ?_) (fun hc2 => ?_)
    · skip
      try simp only [decide_eq_true_eq, decide_eq_false_iff_not, Bool.not_eq_true', Bool.not_eq_false', Bool.not_eq_eq_eq_not, Bool.not_true, Bool.not_false, Int.not_lt, Int.not_le, Classical.not_not, beq_iff_eq, beq_eq_false_iff_ne] at hc2
      exfalso; omega
    try simp only [decide_eq_true_eq, decide_eq_false_iff_not, Bool.not_eq_true', Bool.not_eq_false', Bool.not_eq_eq_eq_not, Bool.not_true, Bool.not_false, Int.not_lt, Int.not_le, Classical.not_not, beq_iff_eq, beq_eq_false_iff_ne] at hc2
    refine CW.skip ?_
    refine NQ.block ?_
    refine NQ.then ?_
    refine CW.reg ?_
    refine WL.pure rfl rfl rfl (PV.add rfl rfl (by constructor <;> omega)) ?_
    refine WL.pure rfl rfl rfl (PV.move rfl) ?_
    refine WL.nil ?_
    refine NQ.next (ρ := [(3, _), (11, _)]) ⟨rfl, rfl, rfl, rfl, rfl, trivial⟩ ?_
    exact ⟨_, ⟨k + 1, (by have e9 : (((xs.take (k + 1)).flatten.length : Nat) : Int) = ((xs.take k).flatten.length : Int) + ((xs.getD k []).length : Int) := (by omega); rw [e9]; rfl), rfl, hU0, (by first | omega | assumption | (simp_all; done) | (simp_all; omega))⟩, by omega⟩
  try simp only [decide_eq_true_eq, decide_eq_false_iff_not, Bool.not_eq_true', Bool.not_eq_false', Bool.not_eq_eq_eq_not, Bool.not_true, Bool.not_false, Int.not_lt, Int.not_le, Classical.not_not, beq_iff_eq, beq_eq_false_iff_ne] at hc1
  refine CW.exit ?_
  refine XQ.then ?_
  refine XQ.then ?_
  refine XQ.here ?_
  refine NQ.then ?_
  refine CW.seq ?_
  refine CW.reg ?_
  refine WL.pure rfl rfl rfl (PV.move rfl) ?_
  refine WL.op rfl (OpK.call rfl T.cf201 rfl (c_slices_Grow_int64_int64 (by first | assumption | omega | (simp only [marks_len, marksB_len, marksR_len, sumL_marksS, List.length_take]; omega))) (fun rv1 w1 hR => ?_))
  obtain ⟨hXw1, v1, og1, rfl, ho1, hq1⟩ := hR
  have hl1 := Lo.up hq1 hB
  have hB := hB.trans hXw1
  refine WL.pure rfl rfl rfl (PV.assign rfl) ?_
  refine WL.nilS ?_
  refine CW.seq ?_
  refine CW.seq ?_
  refine CW.reg ?_
  refine WL.pure rfl rfl rfl (PV.move rfl) ?_
  refine WL.pure rfl rfl rfl ((by first | exact PV.len rfl (by assumption) T.sl25 | exact PV.lenOs rfl (by assumption) T.sl25 | exact PV.len rfl (NL.rd (by assumption)) T.sl25 | exact PV.len rfl (Inn.rd (by assumption) (by omega)) T.sl25)) ?_
  refine WL.pure rfl rfl rfl (PV.move rfl) ?_
  refine WL.nilS ?_
  refine CW.block ?_
  have hlt1 := ho1.ltO
  refine CW.loop (σk := [(25, _), (26, _)]) (fun ρ wz m => ∃ (v2 : Value) (og2 : Option Nat) (k : Nat), ρ = [(6, v2), (27, .int .i64 (k : Nat))] ∧ m = xs.length - k ∧ UpdL [og1] w1 wz ∧ Osl VI wz og2 v2 ((xs.take k).flatten) ∧ OgR w1 og1 og2 ∧ (k ≤ xs.length)) (ρ₀ := [(6, _), (27, _)]) (m₀ := _) ⟨rfl, rfl, rfl, rfl, trivial⟩ ⟨rv1, og1, 0, rfl, rfl, (UpdL.refl _ _), osE ho1 (by simp), OgR.refl _ _, (by first | omega | rfl | (simp; done) | assumption | (simp_all; done))⟩ ?_
  rintro _ wl2 _ ⟨v2, og2, k, rfl, rfl, hU1, ho2, ha2, hk⟩
  have hl2 := Lo.ogr hl1 hB ha2
  have hg1_2 := ha2
  have hk1_2 : OkB [og1] w1 og2 := OkB.ogr (OkB.mem (by simp)) (Nat.le_refl _) ha2
  have hB := hB.loop hU1 ⟨hl1, trivial⟩
  have hfl := flat_le (xs := xs) k
  refine CW.seq ?_
  refine CW.reg ?_
  refine WL.pure rfl rfl rfl (PV.lss rfl rfl) ?_
  refine WL.nilS ?_
  refine CW.seq ?_
  refine CW.cond rfl (fun hc3 => ?_) (fun hc3 => ?_)
  · skip
    try simp only [decide_eq_true_eq, decide_eq_false_iff_not, Bool.not_eq_true', Bool.not_eq_false', Bool.not_eq_eq_eq_not, Bool.not_true, Bool.not_false, Int.not_lt, Int.not_le, Classical.not_not, beq_iff_eq, beq_eq_false_iff_ne] at hc3
    refine CW.skipS ?_
    refine CW.seq ?_
    refine CW.block ?_
    refine CW.seq ?_
    refine CW.reg ?_
    first
      | refine WL.at (x := .tmp 25) (y := .tmp 27) (E := ESl EI) ([]) rfl rfl (by first | assumption | exact Inn.rd (by assumption) (by omega)) (by first | omega | (simp only [List.length_set]; omega) | (simp only [List.length_append, List.length_take, List.length_replicate, List.length_drop]; omega)) (fun p2 csp2 hpp2 hcp2 hq => ?_)
      | refine WL.atZ (x := .tmp 25) (y := .tmp 27) (E := ESl EI) ([]) rfl rfl (by first | assumption | exact Inn.rd (by assumption) (by omega)) (by first | omega | (simp only [List.length_set]; omega) | (simp only [List.length_append, List.length_take, List.length_replicate, List.length_drop]; omega)) (fun p2 csp2 hpp2 hzp2 hcp2 hq => ?_)
    obtain ⟨vq, rfl, hrq⟩ := hq; have hrql := hrq.leI
    refine WL.pure rfl rfl rfl ((by first | exact PV.indexAddr hpp2 rfl rfl T.sl25 | exact PV.indexAddr hpp2 rfl (by rw [← hzp2]; rfl) T.sl25)) ?_
    refine WL.pure rfl rfl rfl ((by first | exact PV.load0 T.na28 rfl (by first | exact Cells.up (by assumption) hB | exact Bx.cells (by assumption) | assumption) (Ext.refl _) rfl | exact PV.load1 T.na28 rfl (by first | exact Cells.up (by assumption) hB | exact Bx.cells (by assumption) | assumption) (Ext.refl _) rfl)) ?_
    refine WL.pure rfl rfl rfl (PV.assign rfl) ?_
    refine WL.nilS ?_
    refine CW.reg ?_
    have hfs := congrArg List.length (flat_succ (xs := xs) (k := k) (by omega)); rw [List.length_append] at hfs; have hfl1 := flat_le (xs := xs) (k + 1)
    refine WL.pure rfl rfl rfl (PV.move rfl) ?_
    refine WL.pure rfl rfl rfl (PV.move rfl) ?_
    refine WL.op rfl (OpK.appendS (f := VI) rfl T.sl28 T.zv2 rfl rfl ho2 rfl (Rd.src (by first | assumption | exact Rd.up (by assumption) hB | exact Inn.rd (by assumption) (by omega)) (fun _ => rfl)) (by first | (simp only [List.length_cons, List.length_nil]; omega) | (omega)) (fun v3 og3 w2 hXw2 ho3 hap3 => ?_))
    have hl3 := Lo.app hl2 hB hap3
    have hk1_3 := OkN.app hU1 hk1_2 hap3
    have hg1_3 := OgR.app hg1_2 hU1.size hap3
    have hB := hB.updL hXw2 hl2
    have hU1 := hU1.step hXw2 hk1_2
    refine WL.pure rfl rfl rfl (PV.assign rfl) ?_
    refine WL.nil ?_
    refine NQ.block ?_
    refine NQ.then ?_
    refine CW.reg ?_
    refine WL.pure rfl rfl rfl (PV.add rfl rfl (by constructor <;> omega)) ?_
    refine WL.pure rfl rfl rfl (PV.move rfl) ?_
    refine WL.nil ?_
    refine NQ.next (ρ := [(6, _), (27, _)]) ⟨rfl, rfl, rfl, rfl, trivial⟩ ?_
    exact ⟨_, ⟨v3, og3, k + 1, rfl, rfl, hU1, osE ho3 (by exact flat_put (by omega)), (by first | exact hg1_3 | exact OgR.weak hg1_3), (by first | omega | assumption | (simp_all; done) | (simp_all; omega))⟩, by omega⟩
  try simp only [decide_eq_true_eq, decide_eq_false_iff_not, Bool.not_eq_true', Bool.not_eq_false', Bool.not_eq_eq_eq_not, Bool.not_true, Bool.not_false, Int.not_lt, Int.not_le, Classical.not_not, beq_iff_eq, beq_eq_false_iff_ne] at hc3
  refine CW.exit ?_
  refine XQ.then ?_
  refine XQ.then ?_
  refine XQ.here ?_
  refine NQ.then ?_
  refine CW.seq ?_
  refine CW.reg ?_
  refine WL.pure rfl rfl rfl (PV.move rfl) ?_
  refine WL.pure rfl rfl rfl (PV.assign rfl) ?_
  refine WL.nilS ?_
  refine CW.ret ?_
  refine RQ.r1 rfl ?_
  refine ⟨hB, v2, og2, ?_, osE ho2 ?_, hl2⟩
  · skip
    rfl
  · skip
    rw [List.take_of_length_le (by omega)]
theorem c_impl_overlaps {w : World} {va : Value} {cs : List C4}  (ha : Rd ECh w va cs) (hoks : ∀ k : Nat, k < cs.length → okC (cs.getD k d4)) (h8 : cs.length ≤ 8) : Calls Try.prog 183 #[va] w (Ret1 (fun v w' => Ext w w' ∧ ∃ (u : Value) (og_u : Option Nat) (vs_u : List O9) (os_u : List (Option Nat)), v = u ∧ (CO w va cs vs_u (ov1 cs cs.length)) ∧ Osn 9 gO w' og_u u vs_u ∧ Lo w og_u ∧ Inn w' os_u (vs_u.map fO) ((ov1 cs cs.length).map (ovW cs)) ∧ LoI w os_u ∧ DI os_u og_u)) := by
  have hB : Ext w w := Ext.refl w
  have hla := ha.leI
  refine callsOf (vs := [_]) Try.func183 rfl Try.ntmps183 rfl rfl ?_
  refine CW.seq ?_
  refine CW.reg ?_
  refine WL.pure rfl rfl rfl (PV.assign rfl) ?_
  refine WL.nilS ?_
  refine CW.seq ?_
  refine CW.reg ?_
  refine WL.op rfl (OpK.buildN (g := gO) (os := []) [] gO_ok rfl T.sl197 rfl rfl T.zv200 rfl rfl (fun v1 g1 w1 hXw1 ho1 hge1 => ?_))
  have hl1 := Lo.new hB hge1
  have hB := hB.trans hXw1
  refine WL.pure rfl rfl rfl (PV.assign rfl) ?_
  refine WL.nilS ?_
  refine CW.seq ?_
  refine CW.seq ?_
  refine CW.reg ?_
  refine WL.pure rfl rfl rfl (PV.move rfl) ?_
  refine WL.pure rfl rfl rfl ((by first | exact PV.len rfl (by assumption) T.sl98 | exact PV.lenOs rfl (by assumption) T.sl98 | exact PV.len rfl (NL.rd (by assumption)) T.sl98 | exact PV.len rfl (Inn.rd (by assumption) (by omega)) T.sl98)) ?_
  refine WL.pure rfl rfl rfl (PV.move rfl) ?_
  refine WL.nilS ?_
  refine CW.block ?_
  have hn2 := Inn.zero w1
  have hl2 := LoI.nl w
  have hd1_2 : DI [] (some g1) := DI.zero _
  have hlt1 := ho1.ltO
  have hlt2 := hn2.ltO
  refine CW.loop (σk := [(0, _), (11, _), (12, _)]) (fun ρ wz m => ∃ (v3 : Value) (og3 : Option Nat) (vs3 : List O9) (os3 : List (Option Nat)) (i : Nat), ρ = [(3, v3), (13, .int .i64 (i : Nat))] ∧ m = cs.length - i ∧ UpdL [(some g1)] w1 wz ∧ Osn 9 gO wz og3 v3 (vs3) ∧ OgR w1 (some g1) og3 ∧ Inn wz os3 (vs3.map fO) ((ov1 cs i).map (ovW cs)) ∧ BlR w1 [] os3 ∧ DI os3 og3 ∧ (i ≤ cs.length) ∧ (CO w va cs vs3 (ov1 cs i))) (ρ₀ := [(3, _), (13, _)]) (m₀ := _) ⟨rfl, rfl, rfl, rfl, rfl, trivial⟩ ⟨v1, (some g1), _, [], 0, rfl, rfl, (UpdL.refl _ _), ho1, OgR.refl _ _, innE hn2 (by rfl), BlR.refl _ _, hd1_2, (by first | omega | rfl | (simp; done) | assumption | (simp_all; done)), (by exact CO.zero _ _ _)⟩ ?_
  rintro _ wl1 _ ⟨v3, og3, vs3, os3, i, rfl, rfl, hU0, ho3, ha3, hn4, hy4, hd3_4, hi, hC⟩
  have hl3 := Lo.ogr hl1 hB ha3
  have hg0_3 := ha3
  have hk0_3 : OkB [(some g1)] w1 og3 := OkB.ogr (OkB.mem (by simp)) (Nat.le_refl _) ha3
  have hBpre0 := hB
  have hB := hB.loop hU0 ⟨hl1, trivial⟩
  have hlv4 := hn4.lv
  have hz0_4 := hy4
  have hl4 := LoI.blr hl2 hBpre0 hy4
  refine CW.seq ?_
  refine CW.reg ?_
  refine WL.pure rfl rfl rfl (PV.lss rfl rfl) ?_
  refine WL.nilS ?_
  refine CW.seq ?_
  refine CW.cond rfl (fun hc1 => ?_) (fun hc1 => ?_)
  · skip
    try simp only [decide_eq_true_eq, decide_eq_false_iff_not, Bool.not_eq_true', Bool.not_eq_false', Bool.not_eq_eq_eq_not, Bool.not_true, Bool.not_false, Int.not_lt, Int.not_le, Classical.not_not, beq_iff_eq, beq_eq_false_iff_ne] at hc1
    refine CW.skipS ?_
    refine CW.seq ?_
    refine CW.block ?_
    refine CW.seq ?_
    refine CW.reg ?_
    have hoki := hoks i (by omega); have hok1i := hoki.2.1
    refine WL.pure rfl rfl rfl (PV.move rfl) ?_
    obtain ⟨p1, vqp1_0, vqp1_1, vqp1_2, vqp1_3, hpp1, hcp1, hqp1_0, hqp1_1, hqp1_2, hqp1_3, hqBp1⟩ := Rd.chAt ha (i := i) (by first | omega | (simp only [List.length_set]; omega) | (simp only [List.length_append, List.length_take, List.length_replicate, List.length_drop]; omega))
    refine WL.pure rfl rfl rfl ((PV.indexAddr hpp1 rfl rfl T.sl98)) ?_
    refine WL.pure rfl rfl rfl ((by first | exact PV.loadA T.ag107 rfl (by first | exact Cells.up (by assumption) hB | exact Bx.cells (by assumption) | assumption) (Ext.refl _) rfl | exact PV.loadP (ds := [_, _, _, _]) T.ag107 rfl (by first | exact Cells.up (by assumption) hB | exact Bx.cells (by assumption) | assumption) (Ext.refl _) rfl rfl)) ?_
    refine WL.op rfl (OpK.alloc rfl T.zv107 rfl (fun b5 w2 hXw2 hb5 hge5 => ?_))
    have hl5 := Lo.new hB hge5
    have hd4_5 := DI.new hn4 hge5
    have hd3_5 := Dj.new ho3.ltO hge5
    have hk0_5 := OkN.new hU0 hge5
    have hg0_5 := OgR.new hU0.size hge5
    have hB := hB.trans hXw2
    have hn4 := hn4.up hXw2
    have ho3 := ho3.up hXw2
    have hU0 := hU0.ext hXw2
    refine WL.pure rfl rfl rfl (PV.assign rfl) ?_
    refine WL.op rfl (OpK.storeA T.sz107 rfl rfl rfl rfl (by simp [Value.oneCell'] <;> first | done | (repeat' apply And.intro) <;> first | rfl | exact Inn.one1 (by assumption) (by omega) | exact Osl.oneCell (by assumption) | exact Osn.oneCell (by assumption) | exact Rd.oneCell (by assumption) | exact Rd.oneCell (NL.rd (by assumption)) | assumption) hb5 (fun w3 hXw3 hb5 => ?_))
    have hB := hB.updL hXw3 hl5
    have hn4 := hn4.updD hXw3 hd4_5
    have ho3 := ho3.updD hXw3 hd3_5
    have hU0 := hU0.step hXw3 hk0_5
    refine WL.nilS ?_
    refine CW.seq ?_
    refine CW.reg ?_
    refine WL.pure rfl rfl rfl (PV.move rfl) ?_
    refine WL.pure rfl rfl rfl ((by first | exact PV.len rfl (by assumption) T.sl98 | exact PV.lenOs rfl (by assumption) T.sl98 | exact PV.len rfl (NL.rd (by assumption)) T.sl98 | exact PV.len rfl (Inn.rd (by assumption) (by omega)) T.sl98)) ?_
    refine WL.pure rfl rfl rfl (PV.move rfl) ?_
    refine WL.nilS ?_
    refine CW.block ?_
    have hlt4 := hn4.ltO
    have hlt3 := ho3.ltO
    have hlt5 := hb5.ltO
    refine CW.loop (σk := [(0, _), (4, _), (5, _), (11, _), (12, _), (13, _), (18, _), (19, _)]) (fun ρ wz m => ∃ (v6 : Value) (og6 : Option Nat) (vs6 : List O9) (os6 : List (Option Nat)) (j : Nat), ρ = [(3, v6), (20, .int .i64 (j : Nat))] ∧ m = cs.length - j ∧ UpdL [og3] w3 wz ∧ Osn 9 gO wz og6 v6 (vs6) ∧ OgR w3 og3 og6 ∧ Inn wz os6 (vs6.map fO) ((ov1 cs i ++ ov2 cs i j).map (ovW cs)) ∧ BlR w3 os3 os6 ∧ DI os6 og6 ∧ (j ≤ cs.length) ∧ (CO w va cs vs6 (ov1 cs i ++ ov2 cs i j))) (ρ₀ := [(3, _), (20, _)]) (m₀ := _) ⟨rfl, rfl, rfl, rfl, rfl, rfl, rfl, rfl, rfl, rfl, trivial⟩ ⟨v3, og3, _, os3, 0, rfl, rfl, (UpdL.refl _ _), ho3, OgR.refl _ _, innE hn4 (by rw [← ovQ_zero2]), BlR.refl _ _, hd3_4, (by first | omega | rfl | (simp; done) | assumption | (simp_all; done)), (by rw [← ovQ_zero2]; exact hC)⟩ ?_
    rintro _ wl2 _ ⟨v6, og6, vs6, os6, j, rfl, rfl, hU1, ho6, ha6, hn7, hy7, hd6_7, hj, hC⟩
    have hU0 := hU0.trans hU1 ⟨hk0_3, trivial⟩
    have hb5 := hb5.loop hU1 ⟨(Dj.symm hd3_5), trivial⟩
    have hl6 := Lo.ogr hl3 hB ha6
    have hg1_6 := ha6
    have hk1_6 : OkB [og3] w3 og6 := OkB.ogr (OkB.mem (by simp)) (Nat.le_refl _) ha6
    have hk0_6 := OkB.ogr hk0_3 (by first | assumption | exact UpdL.size (by assumption)) ha6
    have hg0_6 := OgR.trans hg0_3 (by first | assumption | exact UpdL.size (by assumption)) ha6
    have hd5_6 := Dj.ogr (Dj.symm hd3_5) hlt5 ha6
    have hBpre1 := hB
    have hB := hB.loop hU1 ⟨hl3, trivial⟩
    have hlv7 := hn7.lv
    have hd5_7 := DI.blr hd4_5 hlt5 hy7
    have hz1_7 := hy7
    have hz0_7 := BlR.trans hz0_4 (by first | assumption | exact UpdL.size (by assumption)) hy7
    have hl7 := LoI.blr hl4 hBpre1 hy7
    refine CW.seq ?_
    refine CW.reg ?_
    refine WL.pure rfl rfl rfl (PV.lss rfl rfl) ?_
    refine WL.nilS ?_
    refine CW.seq ?_
    refine CW.cond rfl (fun hc2 => ?_) (fun hc2 => ?_)
    · skip
      try simp only [decide_eq_true_eq, decide_eq_false_iff_not, Bool.not_eq_true', Bool.not_eq_false', Bool.not_eq_eq_eq_not, Bool.not_true, Bool.not_false, Int.not_lt, Int.not_le, Classical.not_not, beq_iff_eq, beq_eq_false_iff_ne] at hc2
      refine CW.skipS ?_
      refine CW.seq ?_
      refine CW.block ?_
      refine CW.seq ?_
      refine CW.reg ?_
      have hokj := hoks j (by omega); have hok1j := hokj.2.1
      refine WL.pure rfl rfl rfl (PV.move rfl) ?_
      obtain ⟨p2, vqp2_0, vqp2_1, vqp2_2, vqp2_3, hpp2, hcp2, hqp2_0, hqp2_1, hqp2_2, hqp2_3, hqBp2⟩ := Rd.chAt ha (i := j) (by first | omega | (simp only [List.length_set]; omega) | (simp only [List.length_append, List.length_take, List.length_replicate, List.length_drop]; omega))
      refine WL.pure rfl rfl rfl ((PV.indexAddr hpp2 rfl rfl T.sl98)) ?_
      refine WL.pure rfl rfl rfl ((by first | exact PV.loadA T.ag107 rfl (by first | exact Cells.up (by assumption) hB | exact Bx.cells (by assumption) | assumption) (Ext.refl _) rfl | exact PV.loadP (ds := [_, _, _, _]) T.ag107 rfl (by first | exact Cells.up (by assumption) hB | exact Bx.cells (by assumption) | assumption) (Ext.refl _) rfl rfl)) ?_
      refine WL.op rfl (OpK.alloc rfl T.zv107 rfl (fun b8 w4 hXw4 hb8 hge8 => ?_))
      have hl8 := Lo.new hB hge8
      have hd5_8 := Dj.new hb5.ltO hge8
      have hd7_8 := DI.new hn7 hge8
      have hd6_8 := Dj.new ho6.ltO hge8
      have hk0_8 := OkN.new hU0 hge8
      have hg0_8 := OgR.new hU0.size hge8
      have hk1_8 := OkN.new hU1 hge8
      have hg1_8 := OgR.new hU1.size hge8
      have hB := hB.trans hXw4
      have hb5 := hb5.up hXw4
      have hn7 := hn7.up hXw4
      have ho6 := ho6.up hXw4
      have hU0 := hU0.ext hXw4
      have hU1 := hU1.ext hXw4
      refine WL.pure rfl rfl rfl (PV.assign rfl) ?_
      refine WL.op rfl (OpK.storeA T.sz107 rfl rfl rfl rfl (by simp [Value.oneCell'] <;> first | done | (repeat' apply And.intro) <;> first | rfl | exact Inn.one1 (by assumption) (by omega) | exact Osl.oneCell (by assumption) | exact Osn.oneCell (by assumption) | exact Rd.oneCell (by assumption) | exact Rd.oneCell (NL.rd (by assumption)) | assumption) hb8 (fun w5 hXw5 hb8 => ?_))
      have hB := hB.updL hXw5 hl8
      have hb5 := hb5.updD hXw5 hd5_8
      have hn7 := hn7.updD hXw5 hd7_8
      have ho6 := ho6.updD hXw5 hd6_8
      have hU0 := hU0.step hXw5 hk0_8
      have hU1 := hU1.step hXw5 hk1_8
      refine WL.nilS ?_
      refine CW.seq ?_
      refine CW.reg ?_
      refine WL.pure rfl rfl rfl ((by first | exact PV.fieldAddr T.fl107_1 rfl (by first | assumption | exact Bx.cells (by assumption)) | exact PV.fieldAddrP T.fl107_1 rfl rfl)) ?_
      refine WL.pure rfl rfl rfl ((by first | exact PV.load0 T.na28 rfl (by first | exact Cells.up (by assumption) hB | exact Bx.cells (by assumption) | assumption) (Ext.refl _) rfl | exact PV.load1 T.na28 rfl (by first | exact Cells.up (by assumption) hB | exact Bx.cells (by assumption) | assumption) (Ext.refl _) rfl)) ?_
      refine WL.pure rfl rfl rfl ((by first | exact PV.len rfl (by assumption) T.sl28 | exact PV.lenOs rfl (by assumption) T.sl28 | exact PV.len rfl (NL.rd (by assumption)) T.sl28 | exact PV.len rfl (Inn.rd (by assumption) (by omega)) T.sl28)) ?_
      refine WL.pure rfl rfl rfl ((by first | exact PV.fieldAddr T.fl107_1 rfl (by first | assumption | exact Bx.cells (by assumption)) | exact PV.fieldAddrP T.fl107_1 rfl rfl)) ?_
      refine WL.pure rfl rfl rfl ((by first | exact PV.load0 T.na28 rfl (by first | exact Cells.up (by assumption) hB | exact Bx.cells (by assumption) | assumption) (Ext.refl _) rfl | exact PV.load1 T.na28 rfl (by first | exact Cells.up (by assumption) hB | exact Bx.cells (by assumption) | assumption) (Ext.refl _) rfl)) ?_
      refine WL.pure rfl rfl rfl ((by first | exact PV.len rfl (by assumption) T.sl28 | exact PV.lenOs rfl (by assumption) T.sl28 | exact PV.len rfl (NL.rd (by assumption)) T.sl28 | exact PV.len rfl (Inn.rd (by assumption) (by omega)) T.sl28)) ?_
      refine WL.pure rfl rfl rfl (PV.min2 rfl rfl) ?_
      refine WL.pure rfl rfl rfl (PV.assign rfl) ?_
      refine WL.nilS ?_
      refine CW.seq ?_
      refine CW.seq ?_
      refine CW.reg ?_
      refine WL.pure rfl rfl rfl (PV.move rfl) ?_
      refine WL.pure rfl rfl rfl (PV.move rfl) ?_
      refine WL.pure rfl rfl rfl (PV.eql rfl rfl) ?_
      refine WL.nilS ?_
      refine CW.cond rfl (fun hc3 => ?_) (fun hc3 => ?_)
      · skip
        try simp only [decide_eq_true_eq, decide_eq_false_iff_not, Bool.not_eq_true', Bool.not_eq_false', Bool.not_eq_eq_eq_not, Bool.not_true, Bool.not_false, Int.not_lt, Int.not_le, Classical.not_not, beq_iff_eq, beq_eq_false_iff_ne] at hc3
        have hmo := mostN_eq (cs := cs) (i := i) (j := j) (by omega) hok1i.1; unfold patL at hmo
        refine CW.reg ?_
        refine WL.pure rfl rfl rfl (PV.move rfl) ?_
        refine WL.pure rfl rfl rfl (PV.sub rfl rfl (by constructor <;> omega)) ?_
        refine WL.pure rfl rfl rfl (PV.assign rfl) ?_
        refine WL.nilS ?_
        refine CW.seq ?_
        refine CW.reg ?_
        refine WL.pure rfl rfl rfl (PV.assign rfl) ?_
        refine WL.nilS ?_
        refine CW.block ?_
        have hlt5 := hb5.ltO
        have hlt7 := hn7.ltO
        have hlt6 := ho6.ltO
        have hlt8 := hb8.ltO
        refine CW.loop (σk := [(0, _), (4, _), (5, _), (7, _), (8, _), (11, _), (12, _), (13, _), (18, _), (19, _), (20, _)]) (fun ρ wz m => ∃ (v9 : Value) (og9 : Option Nat) (vs9 : List O9) (os9 : List (Option Nat)) (n : Nat), ρ = [(3, v9), (9, .int .i64 ((n + 1 : Nat) : Int))] ∧ m = mostN cs i j - n ∧ UpdL [og6] w5 wz ∧ Osn 9 gO wz og9 v9 (vs9) ∧ OgR w5 og6 og9 ∧ Inn wz os9 (vs9.map fO) ((ovQ cs i j n).map (ovW cs)) ∧ BlR w5 os6 os9 ∧ DI os9 og9 ∧ (n ≤ mostN cs i j) ∧ (CO w va cs vs9 (ovQ cs i j n))) (ρ₀ := [(3, _), (9, _)]) (m₀ := _) ⟨rfl, rfl, rfl, rfl, rfl, rfl, rfl, rfl, rfl, rfl, rfl, rfl, rfl, trivial⟩ ⟨v6, og6, _, os6, 0, rfl, rfl, (UpdL.refl _ _), ho6, OgR.refl _ _, innE hn7 (by rw [← ovQ_zero3]), BlR.refl _ _, hd6_7, (by first | omega | rfl | (simp; done) | assumption | (simp_all; done)), (by rw [← ovQ_zero3]; exact hC)⟩ ?_
        rintro _ wl3 _ ⟨v9, og9, vs9, os9, n, rfl, rfl, hU2, ho9, ha9, hn10, hy10, hd9_10, hn, hC⟩
        have hU0 := hU0.trans hU2 ⟨hk0_6, trivial⟩
        have hU1 := hU1.trans hU2 ⟨hk1_6, trivial⟩
        have hb5 := hb5.loop hU2 ⟨hd5_6, trivial⟩
        have hb8 := hb8.loop hU2 ⟨(Dj.symm hd6_8), trivial⟩
        have hl9 := Lo.ogr hl6 hB ha9
        have hg2_9 := ha9
        have hk2_9 : OkB [og6] w5 og9 := OkB.ogr (OkB.mem (by simp)) (Nat.le_refl _) ha9
        have hk0_9 := OkB.ogr hk0_6 (by first | assumption | exact UpdL.size (by assumption)) ha9
        have hg0_9 := OgR.trans hg0_6 (by first | assumption | exact UpdL.size (by assumption)) ha9
        have hk1_9 := OkB.ogr hk1_6 (by first | assumption | exact UpdL.size (by assumption)) ha9
        have hg1_9 := OgR.trans hg1_6 (by first | assumption | exact UpdL.size (by assumption)) ha9
        have hd5_9 := Dj.ogr hd5_6 hlt5 ha9
        have hd8_9 := Dj.ogr (Dj.symm hd6_8) hlt8 ha9
        have hBpre2 := hB
        have hB := hB.loop hU2 ⟨hl6, trivial⟩
        have hlv10 := hn10.lv
        have hd5_10 := DI.blr hd5_7 hlt5 hy10
        have hd8_10 := DI.blr hd7_8 hlt8 hy10
        have hz2_10 := hy10
        have hz0_10 := BlR.trans hz0_7 (by first | assumption | exact UpdL.size (by assumption)) hy10
        have hz1_10 := BlR.trans hz1_7 (by first | assumption | exact UpdL.size (by assumption)) hy10
        have hl10 := LoI.blr hl7 hBpre2 hy10
        have hq300 := ovQ_300 (n := n) h8 hoks (show i ≤ cs.length by omega) (show j ≤ cs.length by omega) hn
        refine CW.seq ?_
        refine CW.seq ?_
        refine CW.reg ?_
        refine WL.pure rfl rfl rfl (PV.move rfl) ?_
        refine WL.pure rfl rfl rfl (PV.move rfl) ?_
        refine WL.pure rfl rfl rfl (PV.leq rfl rfl) ?_
        refine WL.nilS ?_
        refine CW.cond rfl (fun hc4 => ?_) (fun hc4 => ?_)
        · skip
          try simp only [decide_eq_true_eq, decide_eq_false_iff_not, Bool.not_eq_true', Bool.not_eq_false', Bool.not_eq_eq_eq_not, Bool.not_true, Bool.not_false, Int.not_lt, Int.not_le, Classical.not_not, beq_iff_eq, beq_eq_false_iff_ne] at hc4
          refine CW.skipS ?_
          refine CW.seq ?_
          refine CW.block ?_
          refine CW.seq ?_
          refine CW.draw T.mixed (by kernel_rfl) (fun _ _ _ _ _ h => h) (fun w8 w9 => Upd none w8 w9) 12 (.take 0 (.take 1 (.take 2 (.take 3 (.take 4 (.take 5 (.take 6 (.take 7 (.take 8 (.take 9 (.take 10 (.must 11 .done)))))))))))) (by kernel_rfl) (fun w6 hXd => ?_)
          have hB := hB.trans hXd
          have hb5 := hb5.up hXd
          have hb8 := hb8.up hXd
          have hn10 := hn10.up hXd
          have ho9 := ho9.up hXd
          have hU0 := hU0.ext hXd
          have hU1 := hU1.ext hXd
          have hU2 := hU2.ext hXd
          have hBr := hB
          have hS : Upd none w6 w6 := Ext.toUpd (Ext.refl _)
          have hmr := mostN_rng cs i j; have hmr1 : mostN cs i j ≤ (cs.getD i d4).2.1.length := hmr.1; have hmr2 : mostN cs i j ≤ (cs.getD j d4).2.1.length := hmr.2; have hov := ovP_there (cs := cs) (i := i) (j := j) (k := n + 1) (by omega) (by omega)
          refine HP.take rfl rfl rfl rfl hS (fun wS hS1 => (by first | exact PV.fieldAddr T.fl107_1 rfl (by first | assumption | exact Bx.cells (by assumption)) | exact PV.fieldAddrP T.fl107_1 rfl rfl)) ?_
          refine HP.take rfl rfl rfl rfl hS (fun wS hS1 => (by first | exact PV.load0 T.na28 rfl (by first | exact Cells.up (by assumption) (hBr.trans hS1) | exact Bx.cells (Bx.updD (by assumption) hS1 (Dj.nlR _)) | exact Cells.upd (by assumption) hS1 (by simp)) (Ext.refl _) rfl | exact PV.load1 T.na28 rfl (by first | exact Cells.up (by assumption) (hBr.trans hS1) | exact Bx.cells (Bx.updD (by assumption) hS1 (Dj.nlR _)) | exact Cells.upd (by assumption) hS1 (by simp)) (Ext.refl _) rfl)) ?_
          refine HP.take rfl rfl rfl rfl hS (fun wS hS1 => (by first | exact PV.fieldAddr T.fl107_1 rfl (by first | assumption | exact Bx.cells (by assumption)) | exact PV.fieldAddrP T.fl107_1 rfl rfl)) ?_
          refine HP.take rfl rfl rfl rfl hS (fun wS hS1 => (by first | exact PV.load0 T.na28 rfl (by first | exact Cells.up (by assumption) (hBr.trans hS1) | exact Bx.cells (Bx.updD (by assumption) hS1 (Dj.nlR _)) | exact Cells.upd (by assumption) hS1 (by simp)) (Ext.refl _) rfl | exact PV.load1 T.na28 rfl (by first | exact Cells.up (by assumption) (hBr.trans hS1) | exact Bx.cells (Bx.updD (by assumption) hS1 (Dj.nlR _)) | exact Cells.upd (by assumption) hS1 (by simp)) (Ext.refl _) rfl)) ?_
          refine HP.take rfl rfl rfl rfl hS (fun wS hS1 => (by first | exact PV.len rfl (by assumption) T.sl28 | exact PV.lenOs rfl (by assumption) T.sl28 | exact PV.len rfl (NL.rd (by assumption)) T.sl28 | exact PV.len rfl (Inn.rd (by assumption) (by omega)) T.sl28)) ?_
          refine HP.take rfl rfl rfl rfl hS (fun wS hS1 => PV.move rfl) ?_
          refine HP.take rfl rfl rfl rfl hS (fun wS hS1 => PV.sub rfl rfl (by constructor <;> omega)) ?_
          refine HP.take rfl rfl rfl rfl hS (fun wS hS1 => (by first | exact PV.fieldAddr T.fl107_1 rfl (by first | assumption | exact Bx.cells (by assumption)) | exact PV.fieldAddrP T.fl107_1 rfl rfl)) ?_
          refine HP.take rfl rfl rfl rfl hS (fun wS hS1 => (by first | exact PV.load0 T.na28 rfl (by first | exact Cells.up (by assumption) (hBr.trans hS1) | exact Bx.cells (Bx.updD (by assumption) hS1 (Dj.nlR _)) | exact Cells.upd (by assumption) hS1 (by simp)) (Ext.refl _) rfl | exact PV.load1 T.na28 rfl (by first | exact Cells.up (by assumption) (hBr.trans hS1) | exact Bx.cells (Bx.updD (by assumption) hS1 (Dj.nlR _)) | exact Cells.upd (by assumption) hS1 (by simp)) (Ext.refl _) rfl)) ?_
          refine HP.take rfl rfl rfl rfl hS (fun wS hS1 => PV.move rfl) ?_
          refine HP.slRH (x := .tmp 50) (hi := .tmp 51) (E := EI) T.sl28 rfl rfl  (by first | assumption | exact Osl.rd (by assumption)) (by first | omega | (simp; omega) | (simp_all; omega)) (fun u1 huu1 hru1 => ?_)
          refine HP.take rfl rfl rfl rfl hS (fun wS hS1 => (huu1 _ _ _ _ _ _)) ?_
          refine HP.must rfl rfl (OpK.callR rfl T.cf218 rfl (c_impl_hasAt (by first | assumption | exact Rd.up (by assumption) hB | exact Osl.rd (by assumption) | exact Osn.rdR (by assumption) | exact NL.rd (by assumption) | exact rdII (by assumption) (by assumption) | exact Inn.rd (by assumption) (by omega)) (by first | assumption | exact Rd.up (by assumption) hB | exact Osl.rd (by assumption) | exact Osn.rdR (by assumption) | exact NL.rd (by assumption) | exact rdII (by assumption) (by assumption) | exact Inn.rd (by assumption) (by omega)) (by first | assumption | omega | (simp only [marks_len, marksB_len, marksR_len, sumL_marksS, List.length_take]; omega)) (by first | assumption | omega | (simp only [marks_len, marksB_len, marksR_len, sumL_marksS, List.length_take]; omega))) (fun w7 hXw7 => ?_))
          refine ⟨Upd.trans hS hXw7, ?_⟩
          have hS := Upd.trans hS hXw7
          have hB := hB.trans hXw7
          have hb5 := hb5.up hXw7
          have hb8 := hb8.up hXw7
          have hn10 := hn10.up hXw7
          have ho9 := ho9.up hXw7
          have hU0 := hU0.ext hXw7
          have hU1 := hU1.ext hXw7
          have hU2 := hU2.ext hXw7
          refine HP.doneS ?_
          refine CW.cond rfl (fun hc5 => ?_) (fun hc5 => ?_)
          · skip
            try simp only [decide_eq_true_eq, decide_eq_false_iff_not, Bool.not_eq_true', Bool.not_eq_false', Bool.not_eq_eq_eq_not, Bool.not_true, Bool.not_false, Int.not_lt, Int.not_le, Classical.not_not, beq_iff_eq, beq_eq_false_iff_ne] at hc5
            have hyes : ovP cs i j (n + 1) = true := hov.symm.trans (by assumption)
            refine CW.draw T.mixed (by kernel_rfl) (fun _ _ _ _ _ h => h) (fun w8 w9 => Upd og9 w8 w9) 15 (.take 0 (.take 1 (.take 2 (.take 3 (.take 4 (.take 5 (.take 6 (.take 9 (.take 10 (.must 7 (.must 8 (.take 11 (.must 12 (.must 13 (.take 14 .done))))))))))))))) (by kernel_rfl) (fun w8 hXd => ?_)
            have hB := hB.trans hXd
            have hb5 := hb5.up hXd
            have hb8 := hb8.up hXd
            have hn10 := hn10.up hXd
            have ho9 := ho9.up hXd
            have hU0 := hU0.ext hXd
            have hU1 := hU1.ext hXd
            have hU2 := hU2.ext hXd
            have hBr := hB
            have hS : Upd og9 w8 w8 := Ext.toUpd (Ext.refl _)
            refine HP.take rfl rfl rfl rfl hS (fun wS hS1 => PV.move rfl) ?_
            refine HP.take rfl rfl rfl rfl hS (fun wS hS1 => (by first | exact PV.fieldAddr T.fl107_1 rfl (by first | assumption | exact Bx.cells (by assumption)) | exact PV.fieldAddrP T.fl107_1 rfl rfl)) ?_
            refine HP.take rfl rfl rfl rfl hS (fun wS hS1 => (by first | exact PV.load0 T.na28 rfl (by first | exact Cells.up (by assumption) (hBr.updL hS1 hl9) | exact Bx.cells (Bx.updD (by assumption) hS1 (by first | assumption | exact Dj.symm (by assumption))) | exact Cells.upd (by assumption) hS1 (by simp)) (Ext.refl _) rfl | exact PV.load1 T.na28 rfl (by first | exact Cells.up (by assumption) (hBr.updL hS1 hl9) | exact Bx.cells (Bx.updD (by assumption) hS1 (by first | assumption | exact Dj.symm (by assumption))) | exact Cells.upd (by assumption) hS1 (by simp)) (Ext.refl _) rfl)) ?_
            refine HP.take rfl rfl rfl rfl hS (fun wS hS1 => (by first | exact PV.fieldAddr T.fl107_1 rfl (by first | assumption | exact Bx.cells (by assumption)) | exact PV.fieldAddrP T.fl107_1 rfl rfl)) ?_
            refine HP.take rfl rfl rfl rfl hS (fun wS hS1 => (by first | exact PV.load0 T.na28 rfl (by first | exact Cells.up (by assumption) (hBr.updL hS1 hl9) | exact Bx.cells (Bx.updD (by assumption) hS1 (by first | assumption | exact Dj.symm (by assumption))) | exact Cells.upd (by assumption) hS1 (by simp)) (Ext.refl _) rfl | exact PV.load1 T.na28 rfl (by first | exact Cells.up (by assumption) (hBr.updL hS1 hl9) | exact Bx.cells (Bx.updD (by assumption) hS1 (by first | assumption | exact Dj.symm (by assumption))) | exact Cells.upd (by assumption) hS1 (by simp)) (Ext.refl _) rfl)) ?_
            refine HP.take rfl rfl rfl rfl hS (fun wS hS1 => PV.move rfl) ?_
            refine HP.slRL (x := .tmp 58) (lo := .tmp 59) (E := EI) T.sl28 rfl rfl  (by first | assumption | exact Osl.rd (by assumption)) (by first | omega | (simp; omega) | (simp_all; omega)) (fun u2 huu2 hru2 => ?_)
            refine HP.take rfl rfl rfl rfl hS (fun wS hS1 => (huu2 _ _ _ _ _ _)) ?_
            refine HP.take rfl rfl rfl rfl hS (fun wS hS1 => (by first | exact PV.loadA T.ag107 rfl (by first | exact Cells.up (by assumption) (hBr.updL hS1 hl9) | exact Bx.cells (Bx.updD (by assumption) hS1 (by first | assumption | exact Dj.symm (by assumption))) | exact Cells.upd (by assumption) hS1 (by simp)) (Ext.refl _) rfl | exact PV.loadP (ds := [_, _, _, _]) T.ag107 rfl (by first | exact Cells.up (by assumption) (hBr.updL hS1 hl9) | exact Bx.cells (Bx.updD (by assumption) hS1 (by first | assumption | exact Dj.symm (by assumption))) | exact Cells.upd (by assumption) hS1 (by simp)) (Ext.refl _) rfl rfl)) ?_
            refine HP.take rfl rfl rfl rfl hS (fun wS hS1 => (by first | exact PV.loadA T.ag107 rfl (by first | exact Cells.up (by assumption) (hBr.updL hS1 hl9) | exact Bx.cells (Bx.updD (by assumption) hS1 (by first | assumption | exact Dj.symm (by assumption))) | exact Cells.upd (by assumption) hS1 (by simp)) (Ext.refl _) rfl | exact PV.loadP (ds := [_, _, _, _]) T.ag107 rfl (by first | exact Cells.up (by assumption) (hBr.updL hS1 hl9) | exact Bx.cells (Bx.updD (by assumption) hS1 (by first | assumption | exact Dj.symm (by assumption))) | exact Cells.upd (by assumption) hS1 (by simp)) (Ext.refl _) rfl rfl)) ?_
            refine HP.must rfl rfl (OpK.buildS VV (os := [.tmp 56, .tmp 60]) [_, _] rfl T.sl25 rfl rfl T.zv28 rfl (by intro z hz; first | rfl | (simp only [List.mem_cons, List.not_mem_nil, or_false] at hz; rcases hz with hz | hz <;> subst hz <;> exact (by first | exact Rd.cells1 (by assumption) | exact Osl.cells1 (by assumption) | exact Osn.cells1 (by assumption) | exact Rd.cells1 (NL.rd (by assumption)) | exact Inn.cell1 (by assumption) (by omega) | assumption | rfl))) rfl (fun v11 g11 w9 hXw9 ho11 hge11 => ?_))
            have hl11 := Lo.new hB hge11
            have hd5_11 := Dj.new hb5.ltO hge11
            have hd8_11 := Dj.new hb8.ltO hge11
            have hd10_11 := DI.new hn10 hge11
            have hd9_11 := Dj.new ho9.ltO hge11
            have hk0_11 := OkN.new hU0 hge11
            have hg0_11 := OgR.new hU0.size hge11
            have hk1_11 := OkN.new hU1 hge11
            have hg1_11 := OgR.new hU1.size hge11
            have hk2_11 := OkN.new hU2 hge11
            have hg2_11 := OgR.new hU2.size hge11
            refine ⟨Upd.trans hS (Ext.toUpd hXw9), ?_⟩
            have hS := Upd.trans hS (Ext.toUpd hXw9)
            have hB := hB.trans hXw9
            have hb5 := hb5.up hXw9
            have hb8 := hb8.up hXw9
            have hn10 := hn10.up hXw9
            have ho9 := ho9.up hXw9
            have hU0 := hU0.ext hXw9
            have hU1 := hU1.ext hXw9
            have hU2 := hU2.ext hXw9
            refine HP.must rfl rfl (OpK.call rfl T.cf135 rfl (c_slices_Concat_int64_int64 (rdSl2 (by assumption) (by first | assumption | exact Rd.up (by assumption) hB) (by first | assumption | exact Rd.up (by assumption) hB)) (by simp only [List.flatten_cons, List.flatten_nil, List.append_nil, List.length_append, List.length_drop]; omega)) (fun rv1 w10 hR => ?_))
            obtain ⟨hXw10, v12, og12, rfl, ho12, hq12⟩ := hR
            have hl12 := Lo.up hq12 hB
            have hd5_12 := Dj.lo hb5.ltO hq12
            have hd8_12 := Dj.lo hb8.ltO hq12
            have hd10_12 := DI.fresh hn10 hq12
            have hd9_12 := Dj.lo ho9.ltO hq12
            have hd11_12 := Dj.lo ho11.ltO hq12
            have hk0_12 := OkN.lo hU0 hq12
            have hg0_12 := OgR.lo hU0.size hq12
            have hk1_12 := OkN.lo hU1 hq12
            have hg1_12 := OgR.lo hU1.size hq12
            have hk2_12 := OkN.lo hU2 hq12
            have hg2_12 := OgR.lo hU2.size hq12
            refine ⟨Upd.trans hS (Ext.toUpd hXw10), ?_⟩
            have hS := Upd.trans hS (Ext.toUpd hXw10)
            have hB := hB.trans hXw10
            have hb5 := hb5.up hXw10
            have hb8 := hb8.up hXw10
            have hn10 := hn10.up hXw10
            have ho9 := ho9.up hXw10
            have ho11 := ho11.up hXw10
            have hU0 := hU0.ext hXw10
            have hU1 := hU1.ext hXw10
            have hU2 := hU2.ext hXw10
            refine HP.take rfl rfl rfl rfl hS (fun wS hS1 => PV.build (ks := [0, 1, 2]) (os := [.tmp 62, .tmp 63, .tmp 64]) (css := [[_], [_, _, _, _], [_, _, _, _]]) (ds := [_, _, _, _, _, _, _, _, _]) T.bu200 rfl rfl ⟨(by first | exact Rd.cells1 (by assumption) | exact Osl.cells1 (by assumption) | exact Osn.cells1 (by assumption) | exact Rd.cells1 (NL.rd (by assumption)) | exact Inn.cell1 (by assumption) (by omega) | assumption | rfl), (by first | exact Rd.cells1 (by assumption) | exact Osl.cells1 (by assumption) | exact Osn.cells1 (by assumption) | exact Rd.cells1 (NL.rd (by assumption)) | exact Inn.cell1 (by assumption) (by omega) | assumption | rfl), (by first | exact Rd.cells1 (by assumption) | exact Osl.cells1 (by assumption) | exact Osn.cells1 (by assumption) | exact Rd.cells1 (NL.rd (by assumption)) | exact Inn.cell1 (by assumption) (by omega) | assumption | rfl), trivial⟩ rfl) ?_
            have hga13 := gO_agg (Osl.rd ho12) hqp1_0 hqp1_1 hqp1_2 hqp1_3 hqp2_0 hqp2_1 hqp2_2 hqp2_3
            refine HP.must rfl rfl (OpK.buildN (g := gO) (os := [.tmp 65]) [(shOf rv1, (shOf vqp1_0, shOf vqp1_1, shOf vqp1_2, shOf vqp1_3), (shOf vqp2_0, shOf vqp2_1, shOf vqp2_2, shOf vqp2_3))] gO_ok rfl T.sl197 rfl rfl T.zv200 (congrArg (fun z => some [z]) hga13) rfl (fun v13 g13 w11 hXw11 ho13 hge13 => ?_))
            have hl13 := Lo.new hB hge13
            have hd5_13 := Dj.new hb5.ltO hge13
            have hd8_13 := Dj.new hb8.ltO hge13
            have hd10_13 := DI.new hn10 hge13
            have hd9_13 := Dj.new ho9.ltO hge13
            have hd11_13 := Dj.new ho11.ltO hge13
            have hd12_13 := Dj.new ho12.ltO hge13
            have hk0_13 := OkN.new hU0 hge13
            have hg0_13 := OgR.new hU0.size hge13
            have hk1_13 := OkN.new hU1 hge13
            have hg1_13 := OgR.new hU1.size hge13
            have hk2_13 := OkN.new hU2 hge13
            have hg2_13 := OgR.new hU2.size hge13
            refine ⟨Upd.trans hS (Ext.toUpd hXw11), ?_⟩
            have hS := Upd.trans hS (Ext.toUpd hXw11)
            have hB := hB.trans hXw11
            have hb5 := hb5.up hXw11
            have hb8 := hb8.up hXw11
            have hn10 := hn10.up hXw11
            have ho9 := ho9.up hXw11
            have ho11 := ho11.up hXw11
            have ho12 := ho12.up hXw11
            have hU0 := hU0.ext hXw11
            have hU1 := hU1.ext hXw11
            have hU2 := hU2.ext hXw11
            refine HP.must rfl rfl (OpK.appendN (g := gO) rfl T.sl197 T.zv200 rfl rfl ho9 rfl (Osn.src ho13) (by first | (simp only [List.length_cons, List.length_nil]; omega) | (simp_all; omega)) (fun v14 og14 w12 hXw12 ho14 hap14 => ?_))
            have hn15 := innVE (Inn.put hn10 ho12 hd10_12) (fO_put (r := ((shOf vqp1_0, shOf vqp1_1, shOf vqp1_2, shOf vqp1_3), (shOf vqp2_0, shOf vqp2_1, shOf vqp2_2, shOf vqp2_3))) (Osl.rd ho12)) rfl
            have hl15 := LoI.put hl10 hl12
            have hz0_15 := BlR.put hz0_10 hg0_12
            have hz1_15 := BlR.put hz1_10 hg1_12
            have hz2_15 := BlR.put hz2_10 hg2_12
            have hd5_15 := DI.put hd5_10 (Dj.symm hd5_12)
            have hd8_15 := DI.put hd8_10 (Dj.symm hd8_12)
            have hd9_15 := DI.put hd9_10 (Dj.symm hd9_12)
            have hd11_15 := DI.put hd10_11 (Dj.symm hd11_12)
            have hd13_15 := DI.put hd10_13 hd12_13
            have hnp15 := hn15
            have hl14 := Lo.app hl9 hB hap14
            have hd5_14 := Dj.app hd5_9 hb5.ltO hap14
            have hd8_14 := Dj.app hd8_9 hb8.ltO hap14
            have hd11_14 := Dj.app (Dj.symm hd9_11) ho11.ltO hap14
            have hd13_14 := Dj.app (Dj.symm hd9_13) ho13.ltO hap14
            have hd14_15 := DI.app hd9_15 hn15 hap14
            have hk0_14 := OkN.app hU0 hk0_9 hap14
            have hg0_14 := OgR.app hg0_9 hU0.size hap14
            have hk1_14 := OkN.app hU1 hk1_9 hap14
            have hg1_14 := OgR.app hg1_9 hU1.size hap14
            have hk2_14 := OkN.app hU2 hk2_9 hap14
            have hg2_14 := OgR.app hg2_9 hU2.size hap14
            refine ⟨Upd.trans hS hXw12, ?_⟩
            have hS := Upd.trans hS hXw12
            have hB := hB.updL hXw12 hl9
            have hb5 := hb5.updD hXw12 hd5_9
            have hb8 := hb8.updD hXw12 hd8_9
            have ho11 := ho11.updD hXw12 (Dj.symm hd9_11)
            have ho13 := ho13.updD hXw12 (Dj.symm hd9_13)
            have hn15 := hn15.updD hXw12 hd9_15
            have hU0 := hU0.step hXw12 hk0_9
            have hU1 := hU1.step hXw12 hk1_9
            have hU2 := hU2.step hXw12 hk2_9
            refine HP.take rfl rfl rfl rfl hS (fun wS hS1 => PV.assign rfl) ?_
            refine HP.done ?_
            refine NQ.block ?_
            refine NQ.then ?_
            refine CW.reg ?_
            refine WL.pure rfl rfl rfl (PV.move rfl) ?_
            refine WL.pure rfl rfl rfl (PV.add rfl rfl (by constructor <;> omega)) ?_
            refine WL.pure rfl rfl rfl (PV.assign rfl) ?_
            refine WL.nil ?_
            refine NQ.next (ρ := [(3, _), (9, _)]) ⟨rfl, rfl, rfl, rfl, rfl, rfl, rfl, rfl, rfl, rfl, rfl, rfl, rfl, trivial⟩ ?_
            exact ⟨_, ⟨v14, og14, _, (os9 ++ [og12]), n + 1, rfl, rfl, hU2, ho14, (by first | exact hg2_14 | exact OgR.weak hg2_14), innE hn15 (by first | exact ovW_put hyes rfl (by simp [patL]) | (rw [← ovQ_no hnot])), (by first | exact hz2_15 | exact BlR.weak hz2_15), hd14_15, (by first | omega | assumption | (simp_all; done) | (simp_all; omega)), (by first | (rw [← ovQ_put hyes]; exact hC.put (fun b e hb => ⟨hqBp1 b e hb, hqBp2 b e hb⟩)) | (rw [← ovQ_no hnot]; exact hC))⟩, by omega⟩
          try simp only [decide_eq_true_eq, decide_eq_false_iff_not, Bool.not_eq_true', Bool.not_eq_false', Bool.not_eq_eq_eq_not, Bool.not_true, Bool.not_false, Int.not_lt, Int.not_le, Classical.not_not, beq_iff_eq, beq_eq_false_iff_ne] at hc5
          have hnot : ovP cs i j (n + 1) = false := hov.symm.trans (by assumption)
          refine CW.skip ?_
          refine NQ.block ?_
          refine NQ.then ?_
          refine CW.reg ?_
          refine WL.pure rfl rfl rfl (PV.move rfl) ?_
          refine WL.pure rfl rfl rfl (PV.add rfl rfl (by constructor <;> omega)) ?_
          refine WL.pure rfl rfl rfl (PV.assign rfl) ?_
          refine WL.nil ?_
          refine NQ.next (ρ := [(3, _), (9, _)]) ⟨rfl, rfl, rfl, rfl, rfl, rfl, rfl, rfl, rfl, rfl, rfl, rfl, rfl, trivial⟩ ?_
          exact ⟨_, ⟨v9, og9, _, os9, n + 1, rfl, rfl, hU2, ho9, (by first | exact hg2_9 | exact OgR.weak hg2_9), innE hn10 (by first | exact ovW_put hyes rfl (by simp [patL]) | (rw [← ovQ_no hnot])), (by first | exact hz2_10 | exact BlR.weak hz2_10), hd9_10, (by first | omega | assumption | (simp_all; done) | (simp_all; omega)), (by first | (rw [← ovQ_put hyes]; exact hC.put (fun b e hb => ⟨hqBp1 b e hb, hqBp2 b e hb⟩)) | (rw [← ovQ_no hnot]; exact hC))⟩, by omega⟩
        try simp only [decide_eq_true_eq, decide_eq_false_iff_not, Bool.not_eq_true', Bool.not_eq_false', Bool.not_eq_eq_eq_not, Bool.not_true, Bool.not_false, Int.not_lt, Int.not_le, Classical.not_not, beq_iff_eq, beq_eq_false_iff_ne] at hc4
        refine CW.exit ?_
        refine XQ.then ?_
        refine XQ.then ?_
        refine XQ.here ?_
        refine NQ.block ?_
        refine NQ.then ?_
        refine CW.reg ?_
        refine WL.pure rfl rfl rfl (PV.add rfl rfl (by constructor <;> omega)) ?_
        refine WL.pure rfl rfl rfl (PV.move rfl) ?_
        refine WL.nil ?_
        refine NQ.next (ρ := [(3, _), (20, _)]) ⟨rfl, rfl, rfl, rfl, rfl, rfl, rfl, rfl, rfl, rfl, trivial⟩ ?_
        exact ⟨_, ⟨v9, og9, _, os9, j + 1, rfl, rfl, hU1, ho9, (by first | exact hg1_9 | exact OgR.weak hg1_9), innE hn10 (by rw [← ovQ_next (n := n) (by omega)]), (by first | exact hz1_10 | exact BlR.weak hz1_10), hd9_10, (by first | omega | assumption | (simp_all; done) | (simp_all; omega)), (by rw [← ovQ_next (n := n) (by omega)]; exact hC)⟩, by omega⟩
      try simp only [decide_eq_true_eq, decide_eq_false_iff_not, Bool.not_eq_true', Bool.not_eq_false', Bool.not_eq_eq_eq_not, Bool.not_true, Bool.not_false, Int.not_lt, Int.not_le, Classical.not_not, beq_iff_eq, beq_eq_false_iff_ne] at hc3
      have hmo := mostN_ne (cs := cs) (i := i) (j := j) (by omega); unfold patL at hmo
      refine CW.skipS ?_
      refine CW.seq ?_
      refine CW.reg ?_
      refine WL.pure rfl rfl rfl (PV.assign rfl) ?_
      refine WL.nilS ?_
      refine CW.block ?_
      have hlt5 := hb5.ltO
      have hlt7 := hn7.ltO
      have hlt6 := ho6.ltO
      have hlt8 := hb8.ltO
      refine CW.loop (σk := [(0, _), (4, _), (5, _), (7, _), (8, _), (11, _), (12, _), (13, _), (18, _), (19, _), (20, _)]) (fun ρ wz m => ∃ (v16 : Value) (og16 : Option Nat) (vs16 : List O9) (os16 : List (Option Nat)) (n : Nat), ρ = [(3, v16), (9, .int .i64 ((n + 1 : Nat) : Int))] ∧ m = mostN cs i j - n ∧ UpdL [og6] w5 wz ∧ Osn 9 gO wz og16 v16 (vs16) ∧ OgR w5 og6 og16 ∧ Inn wz os16 (vs16.map fO) ((ovQ cs i j n).map (ovW cs)) ∧ BlR w5 os6 os16 ∧ DI os16 og16 ∧ (n ≤ mostN cs i j) ∧ (CO w va cs vs16 (ovQ cs i j n))) (ρ₀ := [(3, _), (9, _)]) (m₀ := _) ⟨rfl, rfl, rfl, rfl, rfl, rfl, rfl, rfl, rfl, rfl, rfl, rfl, rfl, trivial⟩ ⟨v6, og6, _, os6, 0, rfl, rfl, (UpdL.refl _ _), ho6, OgR.refl _ _, innE hn7 (by rw [← ovQ_zero3]), BlR.refl _ _, hd6_7, (by first | omega | rfl | (simp; done) | assumption | (simp_all; done)), (by rw [← ovQ_zero3]; exact hC)⟩ ?_
      rintro _ wl4 _ ⟨v16, og16, vs16, os16, n, rfl, rfl, hU2, ho16, ha16, hn17, hy17, hd16_17, hn, hC⟩
      have hU0 := hU0.trans hU2 ⟨hk0_6, trivial⟩
      have hU1 := hU1.trans hU2 ⟨hk1_6, trivial⟩
      have hb5 := hb5.loop hU2 ⟨hd5_6, trivial⟩
      have hb8 := hb8.loop hU2 ⟨(Dj.symm hd6_8), trivial⟩
      have hl16 := Lo.ogr hl6 hB ha16
      have hg2_16 := ha16
      have hk2_16 : OkB [og6] w5 og16 := OkB.ogr (OkB.mem (by simp)) (Nat.le_refl _) ha16
      have hk0_16 := OkB.ogr hk0_6 (by first | assumption | exact UpdL.size (by assumption)) ha16
      have hg0_16 := OgR.trans hg0_6 (by first | assumption | exact UpdL.size (by assumption)) ha16
      have hk1_16 := OkB.ogr hk1_6 (by first | assumption | exact UpdL.size (by assumption)) ha16
      have hg1_16 := OgR.trans hg1_6 (by first | assumption | exact UpdL.size (by assumption)) ha16
      have hd5_16 := Dj.ogr hd5_6 hlt5 ha16
      have hd8_16 := Dj.ogr (Dj.symm hd6_8) hlt8 ha16
      have hBpre2 := hB
      have hB := hB.loop hU2 ⟨hl6, trivial⟩
      have hlv17 := hn17.lv
      have hd5_17 := DI.blr hd5_7 hlt5 hy17
      have hd8_17 := DI.blr hd7_8 hlt8 hy17
      have hz2_17 := hy17
      have hz0_17 := BlR.trans hz0_7 (by first | assumption | exact UpdL.size (by assumption)) hy17
      have hz1_17 := BlR.trans hz1_7 (by first | assumption | exact UpdL.size (by assumption)) hy17
      have hl17 := LoI.blr hl7 hBpre2 hy17
      have hq300 := ovQ_300 (n := n) h8 hoks (show i ≤ cs.length by omega) (show j ≤ cs.length by omega) hn
      refine CW.seq ?_
      refine CW.seq ?_
      refine CW.reg ?_
      refine WL.pure rfl rfl rfl (PV.move rfl) ?_
      refine WL.pure rfl rfl rfl (PV.move rfl) ?_
      refine WL.pure rfl rfl rfl (PV.leq rfl rfl) ?_
      refine WL.nilS ?_
      refine CW.cond rfl (fun hc6 => ?_) (fun hc6 => ?_)
      · skip
        try simp only [decide_eq_true_eq, decide_eq_false_iff_not, Bool.not_eq_true', Bool.not_eq_false', Bool.not_eq_eq_eq_not, Bool.not_true, Bool.not_false, Int.not_lt, Int.not_le, Classical.not_not, beq_iff_eq, beq_eq_false_iff_ne] at hc6
        refine CW.skipS ?_
        refine CW.seq ?_
        refine CW.block ?_
        refine CW.seq ?_
        refine CW.draw T.mixed (by kernel_rfl) (fun _ _ _ _ _ h => h) (fun w8 w9 => Upd none w8 w9) 12 (.take 0 (.take 1 (.take 2 (.take 3 (.take 4 (.take 5 (.take 6 (.take 7 (.take 8 (.take 9 (.take 10 (.must 11 .done)))))))))))) (by kernel_rfl) (fun w13 hXd => ?_)
        have hB := hB.trans hXd
        have hb5 := hb5.up hXd
        have hb8 := hb8.up hXd
        have hn17 := hn17.up hXd
        have ho16 := ho16.up hXd
        have hU0 := hU0.ext hXd
        have hU1 := hU1.ext hXd
        have hU2 := hU2.ext hXd
        have hBr := hB
        have hS : Upd none w13 w13 := Ext.toUpd (Ext.refl _)
        have hmr := mostN_rng cs i j; have hmr1 : mostN cs i j ≤ (cs.getD i d4).2.1.length := hmr.1; have hmr2 : mostN cs i j ≤ (cs.getD j d4).2.1.length := hmr.2; have hov := ovP_there (cs := cs) (i := i) (j := j) (k := n + 1) (by omega) (by omega)
        refine HP.take rfl rfl rfl rfl hS (fun wS hS1 => (by first | exact PV.fieldAddr T.fl107_1 rfl (by first | assumption | exact Bx.cells (by assumption)) | exact PV.fieldAddrP T.fl107_1 rfl rfl)) ?_
        refine HP.take rfl rfl rfl rfl hS (fun wS hS1 => (by first | exact PV.load0 T.na28 rfl (by first | exact Cells.up (by assumption) (hBr.trans hS1) | exact Bx.cells (Bx.updD (by assumption) hS1 (Dj.nlR _)) | exact Cells.upd (by assumption) hS1 (by simp)) (Ext.refl _) rfl | exact PV.load1 T.na28 rfl (by first | exact Cells.up (by assumption) (hBr.trans hS1) | exact Bx.cells (Bx.updD (by assumption) hS1 (Dj.nlR _)) | exact Cells.upd (by assumption) hS1 (by simp)) (Ext.refl _) rfl)) ?_
        refine HP.take rfl rfl rfl rfl hS (fun wS hS1 => (by first | exact PV.fieldAddr T.fl107_1 rfl (by first | assumption | exact Bx.cells (by assumption)) | exact PV.fieldAddrP T.fl107_1 rfl rfl)) ?_
        refine HP.take rfl rfl rfl rfl hS (fun wS hS1 => (by first | exact PV.load0 T.na28 rfl (by first | exact Cells.up (by assumption) (hBr.trans hS1) | exact Bx.cells (Bx.updD (by assumption) hS1 (Dj.nlR _)) | exact Cells.upd (by assumption) hS1 (by simp)) (Ext.refl _) rfl | exact PV.load1 T.na28 rfl (by first | exact Cells.up (by assumption) (hBr.trans hS1) | exact Bx.cells (Bx.updD (by assumption) hS1 (Dj.nlR _)) | exact Cells.upd (by assumption) hS1 (by simp)) (Ext.refl _) rfl)) ?_
        refine HP.take rfl rfl rfl rfl hS (fun wS hS1 => (by first | exact PV.len rfl (by assumption) T.sl28 | exact PV.lenOs rfl (by assumption) T.sl28 | exact PV.len rfl (NL.rd (by assumption)) T.sl28 | exact PV.len rfl (Inn.rd (by assumption) (by omega)) T.sl28)) ?_
        refine HP.take rfl rfl rfl rfl hS (fun wS hS1 => PV.move rfl) ?_
        refine HP.take rfl rfl rfl rfl hS (fun wS hS1 => PV.sub rfl rfl (by constructor <;> omega)) ?_
        refine HP.take rfl rfl rfl rfl hS (fun wS hS1 => (by first | exact PV.fieldAddr T.fl107_1 rfl (by first | assumption | exact Bx.cells (by assumption)) | exact PV.fieldAddrP T.fl107_1 rfl rfl)) ?_
        refine HP.take rfl rfl rfl rfl hS (fun wS hS1 => (by first | exact PV.load0 T.na28 rfl (by first | exact Cells.up (by assumption) (hBr.trans hS1) | exact Bx.cells (Bx.updD (by assumption) hS1 (Dj.nlR _)) | exact Cells.upd (by assumption) hS1 (by simp)) (Ext.refl _) rfl | exact PV.load1 T.na28 rfl (by first | exact Cells.up (by assumption) (hBr.trans hS1) | exact Bx.cells (Bx.updD (by assumption) hS1 (Dj.nlR _)) | exact Cells.upd (by assumption) hS1 (by simp)) (Ext.refl _) rfl)) ?_
        refine HP.take rfl rfl rfl rfl hS (fun wS hS1 => PV.move rfl) ?_
        refine HP.slRH (x := .tmp 50) (hi := .tmp 51) (E := EI) T.sl28 rfl rfl  (by first | assumption | exact Osl.rd (by assumption)) (by first | omega | (simp; omega) | (simp_all; omega)) (fun u3 huu3 hru3 => ?_)
        refine HP.take rfl rfl rfl rfl hS (fun wS hS1 => (huu3 _ _ _ _ _ _)) ?_
        refine HP.must rfl rfl (OpK.callR rfl T.cf218 rfl (c_impl_hasAt (by first | assumption | exact Rd.up (by assumption) hB | exact Osl.rd (by assumption) | exact Osn.rdR (by assumption) | exact NL.rd (by assumption) | exact rdII (by assumption) (by assumption) | exact Inn.rd (by assumption) (by omega)) (by first | assumption | exact Rd.up (by assumption) hB | exact Osl.rd (by assumption) | exact Osn.rdR (by assumption) | exact NL.rd (by assumption) | exact rdII (by assumption) (by assumption) | exact Inn.rd (by assumption) (by omega)) (by first | assumption | omega | (simp only [marks_len, marksB_len, marksR_len, sumL_marksS, List.length_take]; omega)) (by first | assumption | omega | (simp only [marks_len, marksB_len, marksR_len, sumL_marksS, List.length_take]; omega))) (fun w14 hXw14 => ?_))
        refine ⟨Upd.trans hS hXw14, ?_⟩
        have hS := Upd.trans hS hXw14
        have hB := hB.trans hXw14
        have hb5 := hb5.up hXw14
        have hb8 := hb8.up hXw14
        have hn17 := hn17.up hXw14
        have ho16 := ho16.up hXw14
        have hU0 := hU0.ext hXw14
        have hU1 := hU1.ext hXw14
        have hU2 := hU2.ext hXw14
        refine HP.doneS ?_
        refine CW.cond rfl (fun hc7 => ?_) (fun hc7 => ?_)
        · skip
          try simp only [decide_eq_true_eq, decide_eq_false_iff_not, Bool.not_eq_true', Bool.not_eq_false', Bool.not_eq_eq_eq_not, Bool.not_true, Bool.not_false, Int.not_lt, Int.not_le, Classical.not_not, beq_iff_eq, beq_eq_false_iff_ne] at hc7
          have hyes : ovP cs i j (n + 1) = true := hov.symm.trans (by assumption)
          refine CW.draw T.mixed (by kernel_rfl) (fun _ _ _ _ _ h => h) (fun w8 w9 => Upd og16 w8 w9) 15 (.take 0 (.take 1 (.take 2 (.take 3 (.take 4 (.take 5 (.take 6 (.take 9 (.take 10 (.must 7 (.must 8 (.take 11 (.must 12 (.must 13 (.take 14 .done))))))))))))))) (by kernel_rfl) (fun w15 hXd => ?_)
          have hB := hB.trans hXd
          have hb5 := hb5.up hXd
          have hb8 := hb8.up hXd
          have hn17 := hn17.up hXd
          have ho16 := ho16.up hXd
          have hU0 := hU0.ext hXd
          have hU1 := hU1.ext hXd
          have hU2 := hU2.ext hXd
          have hBr := hB
          have hS : Upd og16 w15 w15 := Ext.toUpd (Ext.refl _)
          refine HP.take rfl rfl rfl rfl hS (fun wS hS1 => PV.move rfl) ?_
          refine HP.take rfl rfl rfl rfl hS (fun wS hS1 => (by first | exact PV.fieldAddr T.fl107_1 rfl (by first | assumption | exact Bx.cells (by assumption)) | exact PV.fieldAddrP T.fl107_1 rfl rfl)) ?_
          refine HP.take rfl rfl rfl rfl hS (fun wS hS1 => (by first | exact PV.load0 T.na28 rfl (by first | exact Cells.up (by assumption) (hBr.updL hS1 hl16) | exact Bx.cells (Bx.updD (by assumption) hS1 (by first | assumption | exact Dj.symm (by assumption))) | exact Cells.upd (by assumption) hS1 (by simp)) (Ext.refl _) rfl | exact PV.load1 T.na28 rfl (by first | exact Cells.up (by assumption) (hBr.updL hS1 hl16) | exact Bx.cells (Bx.updD (by assumption) hS1 (by first | assumption | exact Dj.symm (by assumption))) | exact Cells.upd (by assumption) hS1 (by simp)) (Ext.refl _) rfl)) ?_
          refine HP.take rfl rfl rfl rfl hS (fun wS hS1 => (by first | exact PV.fieldAddr T.fl107_1 rfl (by first | assumption | exact Bx.cells (by assumption)) | exact PV.fieldAddrP T.fl107_1 rfl rfl)) ?_
          refine HP.take rfl rfl rfl rfl hS (fun wS hS1 => (by first | exact PV.load0 T.na28 rfl (by first | exact Cells.up (by assumption) (hBr.updL hS1 hl16) | exact Bx.cells (Bx.updD (by assumption) hS1 (by first | assumption | exact Dj.symm (by assumption))) | exact Cells.upd (by assumption) hS1 (by simp)) (Ext.refl _) rfl | exact PV.load1 T.na28 rfl (by first | exact Cells.up (by assumption) (hBr.updL hS1 hl16) | exact Bx.cells (Bx.updD (by assumption) hS1 (by first | assumption | exact Dj.symm (by assumption))) | exact Cells.upd (by assumption) hS1 (by simp)) (Ext.refl _) rfl)) ?_
          refine HP.take rfl rfl rfl rfl hS (fun wS hS1 => PV.move rfl) ?_
          refine HP.slRL (x := .tmp 58) (lo := .tmp 59) (E := EI) T.sl28 rfl rfl  (by first | assumption | exact Osl.rd (by assumption)) (by first | omega | (simp; omega) | (simp_all; omega)) (fun u4 huu4 hru4 => ?_)
          refine HP.take rfl rfl rfl rfl hS (fun wS hS1 => (huu4 _ _ _ _ _ _)) ?_
          refine HP.take rfl rfl rfl rfl hS (fun wS hS1 => (by first | exact PV.loadA T.ag107 rfl (by first | exact Cells.up (by assumption) (hBr.updL hS1 hl16) | exact Bx.cells (Bx.updD (by assumption) hS1 (by first | assumption | exact Dj.symm (by assumption))) | exact Cells.upd (by assumption) hS1 (by simp)) (Ext.refl _) rfl | exact PV.loadP (ds := [_, _, _, _]) T.ag107 rfl (by first | exact Cells.up (by assumption) (hBr.updL hS1 hl16) | exact Bx.cells (Bx.updD (by assumption) hS1 (by first | assumption | exact Dj.symm (by assumption))) | exact Cells.upd (by assumption) hS1 (by simp)) (Ext.refl _) rfl rfl)) ?_
          refine HP.take rfl rfl rfl rfl hS (fun wS hS1 => (by first | exact PV.loadA T.ag107 rfl (by first | exact Cells.up (by assumption) (hBr.updL hS1 hl16) | exact Bx.cells (Bx.updD (by assumption) hS1 (by first | assumption | exact Dj.symm (by assumption))) | exact Cells.upd (by assumption) hS1 (by simp)) (Ext.refl _) rfl | exact PV.loadP (ds := [_, _, _, _]) T.ag107 rfl (by first | exact Cells.up (by assumption) (hBr.updL hS1 hl16) | exact Bx.cells (Bx.updD (by assumption) hS1 (by first | assumption | exact Dj.symm (by assumption))) | exact Cells.upd (by assumption) hS1 (by simp)) (Ext.refl _) rfl rfl)) ?_
          refine HP.must rfl rfl (OpK.buildS VV (os := [.tmp 56, .tmp 60]) [_, _] rfl T.sl25 rfl rfl T.zv28 rfl (by intro z hz; first | rfl | (simp only [List.mem_cons, List.not_mem_nil, or_false] at hz; rcases hz with hz | hz <;> subst hz <;> exact (by first | exact Rd.cells1 (by assumption) | exact Osl.cells1 (by assumption) | exact Osn.cells1 (by assumption) | exact Rd.cells1 (NL.rd (by assumption)) | exact Inn.cell1 (by assumption) (by omega) | assumption | rfl))) rfl (fun v18 g18 w16 hXw16 ho18 hge18 => ?_))
          have hl18 := Lo.new hB hge18
          have hd5_18 := Dj.new hb5.ltO hge18
          have hd8_18 := Dj.new hb8.ltO hge18
          have hd17_18 := DI.new hn17 hge18
          have hd16_18 := Dj.new ho16.ltO hge18
          have hk0_18 := OkN.new hU0 hge18
          have hg0_18 := OgR.new hU0.size hge18
          have hk1_18 := OkN.new hU1 hge18
          have hg1_18 := OgR.new hU1.size hge18
          have hk2_18 := OkN.new hU2 hge18
          have hg2_18 := OgR.new hU2.size hge18
          refine ⟨Upd.trans hS (Ext.toUpd hXw16), ?_⟩
          have hS := Upd.trans hS (Ext.toUpd hXw16)
          have hB := hB.trans hXw16
          have hb5 := hb5.up hXw16
          have hb8 := hb8.up hXw16
          have hn17 := hn17.up hXw16
          have ho16 := ho16.up hXw16
          have hU0 := hU0.ext hXw16
          have hU1 := hU1.ext hXw16
          have hU2 := hU2.ext hXw16
          refine HP.must rfl rfl (OpK.call rfl T.cf135 rfl (c_slices_Concat_int64_int64 (rdSl2 (by assumption) (by first | assumption | exact Rd.up (by assumption) hB) (by first | assumption | exact Rd.up (by assumption) hB)) (by simp only [List.flatten_cons, List.flatten_nil, List.append_nil, List.length_append, List.length_drop]; omega)) (fun rv2 w17 hR => ?_))
          obtain ⟨hXw17, v19, og19, rfl, ho19, hq19⟩ := hR
          have hl19 := Lo.up hq19 hB
          have hd5_19 := Dj.lo hb5.ltO hq19
          have hd8_19 := Dj.lo hb8.ltO hq19
          have hd17_19 := DI.fresh hn17 hq19
          have hd16_19 := Dj.lo ho16.ltO hq19
          have hd18_19 := Dj.lo ho18.ltO hq19
          have hk0_19 := OkN.lo hU0 hq19
          have hg0_19 := OgR.lo hU0.size hq19
          have hk1_19 := OkN.lo hU1 hq19
          have hg1_19 := OgR.lo hU1.size hq19
          have hk2_19 := OkN.lo hU2 hq19
          have hg2_19 := OgR.lo hU2.size hq19
          refine ⟨Upd.trans hS (Ext.toUpd hXw17), ?_⟩
          have hS := Upd.trans hS (Ext.toUpd hXw17)
          have hB := hB.trans hXw17
          have hb5 := hb5.up hXw17
          have hb8 := hb8.up hXw17
          have hn17 := hn17.up hXw17
          have ho16 := ho16.up hXw17
          have ho18 := ho18.up hXw17
          have hU0 := hU0.ext hXw17
          have hU1 := hU1.ext hXw17
          have hU2 := hU2.ext hXw17
          refine HP.take rfl rfl rfl rfl hS (fun wS hS1 => PV.build (ks := [0, 1, 2]) (os := [.tmp 62, .tmp 63, .tmp 64]) (css := [[_], [_, _, _, _], [_, _, _, _]]) (ds := [_, _, _, _, _, _, _, _, _]) T.bu200 rfl rfl ⟨(by first | exact Rd.cells1 (by assumption) | exact Osl.cells1 (by assumption) | exact Osn.cells1 (by assumption) | exact Rd.cells1 (NL.rd (by assumption)) | exact Inn.cell1 (by assumption) (by omega) | assumption | rfl), (by first | exact Rd.cells1 (by assumption) | exact Osl.cells1 (by assumption) | exact Osn.cells1 (by assumption) | exact Rd.cells1 (NL.rd (by assumption)) | exact Inn.cell1 (by assumption) (by omega) | assumption | rfl), (by first | exact Rd.cells1 (by assumption) | exact Osl.cells1 (by assumption) | exact Osn.cells1 (by assumption) | exact Rd.cells1 (NL.rd (by assumption)) | exact Inn.cell1 (by assumption) (by omega) | assumption | rfl), trivial⟩ rfl) ?_
          have hga20 := gO_agg (Osl.rd ho19) hqp1_0 hqp1_1 hqp1_2 hqp1_3 hqp2_0 hqp2_1 hqp2_2 hqp2_3
          refine HP.must rfl rfl (OpK.buildN (g := gO) (os := [.tmp 65]) [(shOf rv2, (shOf vqp1_0, shOf vqp1_1, shOf vqp1_2, shOf vqp1_3), (shOf vqp2_0, shOf vqp2_1, shOf vqp2_2, shOf vqp2_3))] gO_ok rfl T.sl197 rfl rfl T.zv200 (congrArg (fun z => some [z]) hga20) rfl (fun v20 g20 w18 hXw18 ho20 hge20 => ?_))
          have hl20 := Lo.new hB hge20
          have hd5_20 := Dj.new hb5.ltO hge20
          have hd8_20 := Dj.new hb8.ltO hge20
          have hd17_20 := DI.new hn17 hge20
          have hd16_20 := Dj.new ho16.ltO hge20
          have hd18_20 := Dj.new ho18.ltO hge20
          have hd19_20 := Dj.new ho19.ltO hge20
          have hk0_20 := OkN.new hU0 hge20
          have hg0_20 := OgR.new hU0.size hge20
          have hk1_20 := OkN.new hU1 hge20
          have hg1_20 := OgR.new hU1.size hge20
          have hk2_20 := OkN.new hU2 hge20
          have hg2_20 := OgR.new hU2.size hge20
          refine ⟨Upd.trans hS (Ext.toUpd hXw18), ?_⟩
          have hS := Upd.trans hS (Ext.toUpd hXw18)
          have hB := hB.trans hXw18
          have hb5 := hb5.up hXw18
          have hb8 := hb8.up hXw18
          have hn17 := hn17.up hXw18
          have ho16 := ho16.up hXw18
          have ho18 := ho18.up hXw18
          have ho19 := ho19.up hXw18
          have hU0 := hU0.ext hXw18
          have hU1 := hU1.ext hXw18
          have hU2 := hU2.ext hXw18
          refine HP.must rfl rfl (OpK.appendN (g := gO) rfl T.sl197 T.zv200 rfl rfl ho16 rfl (Osn.src ho20) (by first | (simp only [List.length_cons, List.length_nil]; omega) | (simp_all; omega)) (fun v21 og21 w19 hXw19 ho21 hap21 => ?_))
          have hn22 := innVE (Inn.put hn17 ho19 hd17_19) (fO_put (r := ((shOf vqp1_0, shOf vqp1_1, shOf vqp1_2, shOf vqp1_3), (shOf vqp2_0, shOf vqp2_1, shOf vqp2_2, shOf vqp2_3))) (Osl.rd ho19)) rfl
          have hl22 := LoI.put hl17 hl19
          have hz0_22 := BlR.put hz0_17 hg0_19
          have hz1_22 := BlR.put hz1_17 hg1_19
          have hz2_22 := BlR.put hz2_17 hg2_19
          have hd5_22 := DI.put hd5_17 (Dj.symm hd5_19)
          have hd8_22 := DI.put hd8_17 (Dj.symm hd8_19)
          have hd16_22 := DI.put hd16_17 (Dj.symm hd16_19)
          have hd18_22 := DI.put hd17_18 (Dj.symm hd18_19)
          have hd20_22 := DI.put hd17_20 hd19_20
          have hnp22 := hn22
          have hl21 := Lo.app hl16 hB hap21
          have hd5_21 := Dj.app hd5_16 hb5.ltO hap21
          have hd8_21 := Dj.app hd8_16 hb8.ltO hap21
          have hd18_21 := Dj.app (Dj.symm hd16_18) ho18.ltO hap21
          have hd20_21 := Dj.app (Dj.symm hd16_20) ho20.ltO hap21
          have hd21_22 := DI.app hd16_22 hn22 hap21
          have hk0_21 := OkN.app hU0 hk0_16 hap21
          have hg0_21 := OgR.app hg0_16 hU0.size hap21
          have hk1_21 := OkN.app hU1 hk1_16 hap21
          have hg1_21 := OgR.app hg1_16 hU1.size hap21
          have hk2_21 := OkN.app hU2 hk2_16 hap21
          have hg2_21 := OgR.app hg2_16 hU2.size hap21
          refine ⟨Upd.trans hS hXw19, ?_⟩
          have hS := Upd.trans hS hXw19
          have hB := hB.updL hXw19 hl16
          have hb5 := hb5.updD hXw19 hd5_16
          have hb8 := hb8.updD hXw19 hd8_16
          have ho18 := ho18.updD hXw19 (Dj.symm hd16_18)
          have ho20 := ho20.updD hXw19 (Dj.symm hd16_20)
          have hn22 := hn22.updD hXw19 hd16_22
          have hU0 := hU0.step hXw19 hk0_16
          have hU1 := hU1.step hXw19 hk1_16
          have hU2 := hU2.step hXw19 hk2_16
          refine HP.take rfl rfl rfl rfl hS (fun wS hS1 => PV.assign rfl) ?_
          refine HP.done ?_
          refine NQ.block ?_
          refine NQ.then ?_
          refine CW.reg ?_
          refine WL.pure rfl rfl rfl (PV.move rfl) ?_
          refine WL.pure rfl rfl rfl (PV.add rfl rfl (by constructor <;> omega)) ?_
          refine WL.pure rfl rfl rfl (PV.assign rfl) ?_
          refine WL.nil ?_
          refine NQ.next (ρ := [(3, _), (9, _)]) ⟨rfl, rfl, rfl, rfl, rfl, rfl, rfl, rfl, rfl, rfl, rfl, rfl, rfl, trivial⟩ ?_
          exact ⟨_, ⟨v21, og21, _, (os16 ++ [og19]), n + 1, rfl, rfl, hU2, ho21, (by first | exact hg2_21 | exact OgR.weak hg2_21), innE hn22 (by first | exact ovW_put hyes rfl (by simp [patL]) | (rw [← ovQ_no hnot])), (by first | exact hz2_22 | exact BlR.weak hz2_22), hd21_22, (by first | omega | assumption | (simp_all; done) | (simp_all; omega)), (by first | (rw [← ovQ_put hyes]; exact hC.put (fun b e hb => ⟨hqBp1 b e hb, hqBp2 b e hb⟩)) | (rw [← ovQ_no hnot]; exact hC))⟩, by omega⟩
        try simp only [decide_eq_true_eq, decide_eq_false_iff_not, Bool.not_eq_true', Bool.not_eq_false', Bool.not_eq_eq_eq_not, Bool.not_true, Bool.not_false, Int.not_lt, Int.not_le, Classical.not_not, beq_iff_eq, beq_eq_false_iff_ne] at hc7
        have hnot : ovP cs i j (n + 1) = false := hov.symm.trans (by assumption)
        refine CW.skip ?_
        refine NQ.block ?_
        refine NQ.then ?_
        refine CW.reg ?_
        refine WL.pure rfl rfl rfl (PV.move rfl) ?_
        refine WL.pure rfl rfl rfl (PV.add rfl rfl (by constructor <;> omega)) ?_
        refine WL.pure rfl rfl rfl (PV.assign rfl) ?_
        refine WL.nil ?_
        refine NQ.next (ρ := [(3, _), (9, _)]) ⟨rfl, rfl, rfl, rfl, rfl, rfl, rfl, rfl, rfl, rfl, rfl, rfl, rfl, trivial⟩ ?_
        exact ⟨_, ⟨v16, og16, _, os16, n + 1, rfl, rfl, hU2, ho16, (by first | exact hg2_16 | exact OgR.weak hg2_16), innE hn17 (by first | exact ovW_put hyes rfl (by simp [patL]) | (rw [← ovQ_no hnot])), (by first | exact hz2_17 | exact BlR.weak hz2_17), hd16_17, (by first | omega | assumption | (simp_all; done) | (simp_all; omega)), (by first | (rw [← ovQ_put hyes]; exact hC.put (fun b e hb => ⟨hqBp1 b e hb, hqBp2 b e hb⟩)) | (rw [← ovQ_no hnot]; exact hC))⟩, by omega⟩
      try simp only [decide_eq_true_eq, decide_eq_false_iff_not, Bool.not_eq_true', Bool.not_eq_false', Bool.not_eq_eq_eq_not, Bool.not_true, Bool.not_false, Int.not_lt, Int.not_le, Classical.not_not, beq_iff_eq, beq_eq_false_iff_ne] at hc6
      refine CW.exit ?_
      refine XQ.then ?_
      refine XQ.then ?_
      refine XQ.here ?_
      refine NQ.block ?_
      refine NQ.then ?_
      refine CW.reg ?_
      refine WL.pure rfl rfl rfl (PV.add rfl rfl (by constructor <;> omega)) ?_
      refine WL.pure rfl rfl rfl (PV.move rfl) ?_
      refine WL.nil ?_
      refine NQ.next (ρ := [(3, _), (20, _)]) ⟨rfl, rfl, rfl, rfl, rfl, rfl, rfl, rfl, rfl, rfl, trivial⟩ ?_
      exact ⟨_, ⟨v16, og16, _, os16, j + 1, rfl, rfl, hU1, ho16, (by first | exact hg1_16 | exact OgR.weak hg1_16), innE hn17 (by rw [← ovQ_next (n := n) (by omega)]), (by first | exact hz1_17 | exact BlR.weak hz1_17), hd16_17, (by first | omega | assumption | (simp_all; done) | (simp_all; omega)), (by rw [← ovQ_next (n := n) (by omega)]; exact hC)⟩, by omega⟩
    try simp only [decide_eq_true_eq, decide_eq_false_iff_not, Bool.not_eq_true', Bool.not_eq_false', Bool.not_eq_eq_eq_not, Bool.not_true, Bool.not_false, Int.not_lt, Int.not_le, Classical.not_not, beq_iff_eq, beq_eq_false_iff_ne] at hc2
    refine CW.exit ?_
    refine XQ.then ?_
    refine XQ.then ?_
    refine XQ.here ?_
    refine NQ.block ?_
    refine NQ.then ?_
    refine CW.reg ?_
    refine WL.pure rfl rfl rfl (PV.add rfl rfl (by constructor <;> omega)) ?_
    refine WL.pure rfl rfl rfl (PV.move rfl) ?_
    refine WL.nil ?_
    refine NQ.next (ρ := [(3, _), (13, _)]) ⟨rfl, rfl, rfl, rfl, rfl, trivial⟩ ?_
    exact ⟨_, ⟨v6, og6, _, os6, i + 1, rfl, rfl, hU0, ho6, (by first | exact hg0_6 | exact OgR.weak hg0_6), innE hn7 (by rw [← ov1_next (i := i) (show j = cs.length by omega)]), (by first | exact hz0_7 | exact BlR.weak hz0_7), hd6_7, (by first | omega | assumption | (simp_all; done) | (simp_all; omega)), (by have e9 := ov1_next (i := i) (show j = cs.length by omega); rw [← e9]; exact hC)⟩, by omega⟩
  try simp only [decide_eq_true_eq, decide_eq_false_iff_not, Bool.not_eq_true', Bool.not_eq_false', Bool.not_eq_eq_eq_not, Bool.not_true, Bool.not_false, Int.not_lt, Int.not_le, Classical.not_not, beq_iff_eq, beq_eq_false_iff_ne] at hc1
  refine CW.exit ?_
  refine XQ.then ?_
  refine XQ.then ?_
  refine XQ.here ?_
  refine NQ.then ?_
  refine CW.seq ?_
  refine CW.reg ?_
  refine WL.pure rfl rfl rfl (PV.move rfl) ?_
  refine WL.pure rfl rfl rfl (PV.assign rfl) ?_
  refine WL.nilS ?_
  refine CW.ret ?_
  refine RQ.r1 rfl ?_
  obtain rfl : i = cs.length := (by omega); exact ⟨hB, _, _, _, _, rfl, hC, ho3, hl3, hn4, hl4, hd3_4⟩
theorem c_impl_OverlapsOf {w : World} {va : Value} {cs : List C4} {L : Int} (ha : Rd ECh w va cs) : Calls Try.prog 88 #[va, .int .i64 L] w (Ret1 (fun v w' => Ext w w' ∧ ∃ u og_u vs_u os_u, v = .tuple #[u, .bool (plnB cs L)] ∧ Osl VV w' og_u u vs_u ∧ Lo w og_u ∧ Inn w' os_u vs_u (ovR cs L) ∧ LoI w os_u ∧ DI os_u og_u)) := by
  have hB : Ext w w := Ext.refl w
  have hla := ha.leI
  refine callsOf (vs := [_, _]) Try.func88 rfl Try.ntmps88 rfl rfl ?_
  refine CW.seq ?_
  refine CW.reg ?_
  refine WL.pure rfl rfl rfl (PV.assign rfl) ?_
  refine WL.pure rfl rfl rfl (PV.assign rfl) ?_
  refine WL.nilS ?_
  refine CW.seq ?_
  refine CW.seq ?_
  refine CW.reg ?_
  refine WL.pure rfl rfl rfl (PV.move rfl) ?_
  refine WL.pure rfl rfl rfl (PV.move rfl) ?_
  refine WL.op rfl (OpK.callR rfl T.cf164 rfl (c_impl_arePlain (by first | assumption | exact Rd.up (by assumption) hB | exact rdCh (by assumption) (by assumption))) (fun w1 hXw1 => ?_))
  have hB := hB.trans hXw1
  refine WL.pure rfl rfl rfl (PV.not rfl) ?_
  refine WL.nilS ?_
  refine CW.cond rfl (fun hc1 => ?_) (fun hc1 => ?_)
  · skip
    try simp only [decide_eq_true_eq, decide_eq_false_iff_not, Bool.not_eq_true', Bool.not_eq_false', Bool.not_eq_eq_eq_not, Bool.not_true, Bool.not_false, Int.not_lt, Int.not_le, Classical.not_not, beq_iff_eq, beq_eq_false_iff_ne] at hc1
    refine CW.seq ?_
    refine CW.reg ?_
    refine WL.pure rfl rfl rfl (PV.assign rfl) ?_
    refine WL.pure rfl rfl rfl (PV.assign rfl) ?_
    refine WL.nilS ?_
    refine CW.ret ?_
    refine RQ.then ?_
    refine RQ.r2 rfl rfl ?_
    first | (have hS : plnB cs L = false := (by assumption); exact ⟨hB, .slice none 0 0, none, [], [], tE2 rfl (bE hS.symm), Osl.nil _ _, Lo.nl _, innE (Inn.zero _) (by unfold ovR; rw [onT_no (by rw [hS]; decide)]), LoI.nl _, DI.nl _⟩) | (have hS : plnB cs L = true := (by assumption); exact ⟨hB, _, _, _, _, tE2 rfl (bE hS.symm), osE ho5 (by rw [List.take_of_length_le (by omega)]), hl5, innE hn3 (by unfold ovR; rw [onT_yes hS]), hl3, hd3_5⟩)
  try simp only [decide_eq_true_eq, decide_eq_false_iff_not, Bool.not_eq_true', Bool.not_eq_false', Bool.not_eq_eq_eq_not, Bool.not_true, Bool.not_false, Int.not_lt, Int.not_le, Classical.not_not, beq_iff_eq, beq_eq_false_iff_ne] at hc1
  refine CW.skipS ?_
  refine CW.seq ?_
  refine CW.reg ?_
  have hpb := pln_y (by assumption : plnB cs L = true); have hlb := listB_y hpb.1; have hoks := hlb.2.2.2; have h8 := hlb.1; have ho300 := ov1_300 h8 hoks
  refine WL.op rfl (OpK.buildS VV (os := []) [] rfl T.sl25 rfl rfl T.zv28 rfl (by intro z hz; cases hz) rfl (fun v1 g1 w2 hXw2 ho1 hge1 => ?_))
  have hl1 := Lo.new hB hge1
  have hB := hB.trans hXw2
  refine WL.pure rfl rfl rfl (PV.assign rfl) ?_
  refine WL.nilS ?_
  refine CW.seq ?_
  refine CW.seq ?_
  refine CW.reg ?_
  refine WL.pure rfl rfl rfl (PV.move rfl) ?_
  refine WL.op rfl (OpK.call rfl T.cf183 rfl (c_impl_overlaps (by first | assumption | exact Rd.up (by assumption) hB | exact rdCh (by assumption) (by assumption)) (by first | assumption | (intro k9 h9; simp only [List.length_cons, List.length_nil] at h9; rcases (show k9 = 0 ∨ k9 = 1 by omega) with rfl | rfl <;> first | assumption | (exfalso; omega))) (by first | assumption | omega | (simp only [marks_len, marksB_len, marksR_len, sumL_marksS, List.length_take]; omega))) (fun rv1 w3 hR => ?_))
  obtain ⟨hXw3, v2, og2, vs3, os3, rfl, hm4, ho2, hq2, hn3, hq3, hd2_3⟩ := hR
  have hl2 := Lo.up hq2 hB
  have hd1_2 := Dj.lo ho1.ltO hq2
  have hl3 := LoI.up hq3 hB
  have hlv3 := hn3.lv
  have hd1_3 := DI.lo ho1.ltO hq3
  have hB := hB.trans hXw3
  have ho1 := ho1.up hXw3
  refine WL.pure rfl rfl rfl ((PV.lenOsn rfl ho2 T.sl197)) ?_
  refine WL.pure rfl rfl rfl (PV.move rfl) ?_
  refine WL.nilS ?_
  refine CW.block ?_
  have hlt1 := ho1.ltO
  have hlt2 := ho2.ltO
  have hlt3 := hn3.ltO
  refine CW.loop (σk := [(15, _), (16, _)]) (fun ρ wz m => ∃ (v5 : Value) (og5 : Option Nat) (k : Nat), ρ = [(6, v5), (17, .int .i64 (k : Nat))] ∧ m = vs3.length - k ∧ UpdL [(some g1)] w3 wz ∧ Osl VV wz og5 v5 ((vs3.take k).map fO) ∧ OgR w3 (some g1) og5 ∧ (k ≤ vs3.length)) (ρ₀ := [(6, _), (17, _)]) (m₀ := _) ⟨rfl, rfl, rfl, rfl, trivial⟩ ⟨v1, (some g1), 0, rfl, rfl, (UpdL.refl _ _), osE ho1 (by rfl), OgR.refl _ _, (by first | omega | rfl | (simp; done) | assumption | (simp_all; done))⟩ ?_
  rintro _ wl1 _ ⟨v5, og5, k, rfl, rfl, hU0, ho5, ha5, hk⟩
  have ho2 := ho2.loop hU0 ⟨(Dj.symm hd1_2), trivial⟩
  have hn3 := hn3.loop hU0 ⟨hd1_3, trivial⟩
  have hl5 := Lo.ogr hl1 hB ha5
  have hg0_5 := ha5
  have hk0_5 : OkB [(some g1)] w3 og5 := OkB.ogr (OkB.mem (by simp)) (Nat.le_refl _) ha5
  have hd2_5 := Dj.ogr (Dj.symm hd1_2) hlt2 ha5
  have hd3_5 := DI.ogr hd1_3 hlt3 ha5
  have hB := hB.loop hU0 ⟨hl1, trivial⟩
  have hvl := hm4.1
  refine CW.seq ?_
  refine CW.reg ?_
  refine WL.pure rfl rfl rfl (PV.lss rfl rfl) ?_
  refine WL.nilS ?_
  refine CW.seq ?_
  refine CW.cond rfl (fun hc2 => ?_) (fun hc2 => ?_)
  · skip
    try simp only [decide_eq_true_eq, decide_eq_false_iff_not, Bool.not_eq_true', Bool.not_eq_false', Bool.not_eq_eq_eq_not, Bool.not_true, Bool.not_false, Int.not_lt, Int.not_le, Classical.not_not, beq_iff_eq, beq_eq_false_iff_ne] at hc2
    refine CW.skipS ?_
    refine CW.seq ?_
    refine CW.block ?_
    refine CW.seq ?_
    refine CW.reg ?_
    have hrdp1 := ho2.rd
    first
      | refine WL.at (x := .tmp 15) (y := .tmp 17) (E := (EG 9 gO gO_ok)) (nO) rfl rfl hrdp1 (by first | omega | (simp only [List.length_set]; omega) | (simp only [List.length_append, List.length_take, List.length_replicate, List.length_drop]; omega)) (fun p1 csp1 hpp1 hcp1 hq => ?_)
      | refine WL.atZ (x := .tmp 15) (y := .tmp 17) (E := (EG 9 gO gO_ok)) (nO) rfl rfl hrdp1 (by first | omega | (simp only [List.length_set]; omega) | (simp only [List.length_append, List.length_take, List.length_replicate, List.length_drop]; omega)) (fun p1 csp1 hpp1 hzp1 hcp1 hq => ?_)
    cases hq
    refine WL.pure rfl rfl rfl ((by first | exact PV.indexAddr hpp1 rfl rfl T.sl197 | exact PV.indexAddr hpp1 rfl (by rw [← hzp1]; rfl) T.sl197)) ?_
    refine WL.pure rfl rfl rfl ((by first | exact PV.loadA T.ag200 rfl (by first | exact Cells.up (by assumption) hB | exact Bx.cells (by assumption) | assumption) (Ext.refl _) rfl | exact PV.loadP (ds := [_, _, _, _, _, _, _, _, _]) T.ag200 rfl (by first | exact Cells.up (by assumption) hB | exact Bx.cells (by assumption) | assumption) (Ext.refl _) rfl rfl)) ?_
    refine WL.op rfl (OpK.alloc rfl T.zv200 rfl (fun b6 w4 hXw4 hb6 hge6 => ?_))
    have hl6 := Lo.new hB hge6
    have hd2_6 := Dj.new ho2.ltO hge6
    have hd3_6 := DI.new hn3 hge6
    have hd5_6 := Dj.new ho5.ltO hge6
    have hk0_6 := OkN.new hU0 hge6
    have hg0_6 := OgR.new hU0.size hge6
    have hB := hB.trans hXw4
    have ho2 := ho2.up hXw4
    have hn3 := hn3.up hXw4
    have ho5 := ho5.up hXw4
    have hU0 := hU0.ext hXw4
    refine WL.op rfl (OpK.storeA T.sz200 rfl rfl rfl rfl (fun v hv => gO_ok.3 _ v hv) hb6 (fun w5 hXw5 hb6 => ?_))
    have hB := hB.updL hXw5 hl6
    have ho2 := ho2.updD hXw5 hd2_6
    have hn3 := hn3.updD hXw5 hd3_6
    have ho5 := ho5.updD hXw5 hd5_6
    have hU0 := hU0.step hXw5 hk0_6
    refine WL.nilS ?_
    refine CW.reg ?_
    refine WL.pure rfl rfl rfl (PV.move rfl) ?_
    refine WL.pure rfl rfl rfl ((by first | exact PV.fieldAddr T.fl200_0 rfl (by first | assumption | exact Bx.cells (by assumption)) | exact PV.fieldAddrP T.fl200_0 rfl rfl)) ?_
    refine WL.pure rfl rfl rfl ((by first | exact PV.load0 T.na28 rfl (by first | exact Cells.up (by assumption) hB | exact Bx.cells (by assumption) | assumption) (Ext.refl _) rfl | exact PV.load1 T.na28 rfl (by first | exact Cells.up (by assumption) hB | exact Bx.cells (by assumption) | assumption) (Ext.refl _) rfl)) ?_
    refine WL.op rfl (OpK.buildS VV (os := [.tmp 23]) [_] rfl T.sl25 rfl rfl T.zv28 rfl (by intro z hz; first | rfl | (simp only [List.mem_cons, List.not_mem_nil, or_false] at hz; subst hz; exact (by first | exact Rd.cells1 (by assumption) | exact Osl.cells1 (by assumption) | exact Osn.cells1 (by assumption) | exact Rd.cells1 (NL.rd (by assumption)) | exact Inn.cell1 (by assumption) (by omega) | assumption | rfl))) rfl (fun v7 g7 w6 hXw6 ho7 hge7 => ?_))
    have hl7 := Lo.new hB hge7
    have hd2_7 := Dj.new ho2.ltO hge7
    have hd3_7 := DI.new hn3 hge7
    have hd5_7 := Dj.new ho5.ltO hge7
    have hd6_7 := Dj.new hb6.ltO hge7
    have hk0_7 := OkN.new hU0 hge7
    have hg0_7 := OgR.new hU0.size hge7
    have hB := hB.trans hXw6
    have ho2 := ho2.up hXw6
    have hn3 := hn3.up hXw6
    have ho5 := ho5.up hXw6
    have hb6 := hb6.up hXw6
    have hU0 := hU0.ext hXw6
    refine WL.op rfl (OpK.appendS (f := VV) rfl T.sl25 T.zv28 rfl rfl ho5 rfl (Osl.srcM ho7 (one_mem (rfl))) (by first | (simp only [List.length_cons, List.length_nil]; omega) | (simp_all; omega)) (fun v8 og8 w7 hXw7 ho8 hap8 => ?_))
    have hl8 := Lo.app hl5 hB hap8
    have hd2_8 := Dj.app hd2_5 ho2.ltO hap8
    have hd3_8 := DI.app hd3_5 hn3 hap8
    have hd6_8 := Dj.app (Dj.symm hd5_6) hb6.ltO hap8
    have hd7_8 := Dj.app (Dj.symm hd5_7) ho7.ltO hap8
    have hk0_8 := OkN.app hU0 hk0_5 hap8
    have hg0_8 := OgR.app hg0_5 hU0.size hap8
    have hB := hB.updL hXw7 hl5
    have ho2 := ho2.updD hXw7 hd2_5
    have hn3 := hn3.updD hXw7 hd3_5
    have hb6 := hb6.updD hXw7 (Dj.symm hd5_6)
    have ho7 := ho7.updD hXw7 (Dj.symm hd5_7)
    have hU0 := hU0.step hXw7 hk0_5
    refine WL.pure rfl rfl rfl (PV.assign rfl) ?_
    refine WL.nil ?_
    refine NQ.block ?_
    refine NQ.then ?_
    refine CW.reg ?_
    refine WL.pure rfl rfl rfl (PV.add rfl rfl (by constructor <;> omega)) ?_
    refine WL.pure rfl rfl rfl (PV.move rfl) ?_
    refine WL.nil ?_
    refine NQ.next (ρ := [(6, _), (17, _)]) ⟨rfl, rfl, rfl, rfl, trivial⟩ ?_
    exact ⟨_, ⟨v8, og8, k + 1, rfl, rfl, hU0, osE ho8 (by exact map_takeS (d := nO) (by omega) rfl), (by first | exact hg0_8 | exact OgR.weak hg0_8), (by first | omega | assumption | (simp_all; done) | (simp_all; omega))⟩, by omega⟩
  try simp only [decide_eq_true_eq, decide_eq_false_iff_not, Bool.not_eq_true', Bool.not_eq_false', Bool.not_eq_eq_eq_not, Bool.not_true, Bool.not_false, Int.not_lt, Int.not_le, Classical.not_not, beq_iff_eq, beq_eq_false_iff_ne] at hc2
  refine CW.exit ?_
  refine XQ.then ?_
  refine XQ.then ?_
  refine XQ.here ?_
  refine NQ.then ?_
  refine CW.seq ?_
  refine CW.reg ?_
  refine WL.pure rfl rfl rfl (PV.move rfl) ?_
  refine WL.pure rfl rfl rfl (PV.assign rfl) ?_
  refine WL.pure rfl rfl rfl (PV.assign rfl) ?_
  refine WL.nilS ?_
  refine CW.ret ?_
  refine RQ.r2 rfl rfl ?_
  first | (have hS : plnB cs L = false := (by assumption); exact ⟨hB, .slice none 0 0, none, [], [], tE2 rfl (bE hS.symm), Osl.nil _ _, Lo.nl _, innE (Inn.zero _) (by unfold ovR; rw [onT_no (by rw [hS]; decide)]), LoI.nl _, DI.nl _⟩) | (have hS : plnB cs L = true := (by assumption); exact ⟨hB, _, _, _, _, tE2 rfl (bE hS.symm), osE ho5 (by rw [List.take_of_length_le (by omega)]), hl5, innE hn3 (by unfold ovR; rw [onT_yes hS]), hl3, hd3_5⟩)
theorem c_spec_l05Plain {w : World} {va : Value} {cs : List C4} {L : Int} (ha : Rd ECh w va cs) : Calls Try.prog 167 #[va, .int .i64 L] w (Ret1 (RQt (.bool (plnB cs L)) w)) := by
  have hB : Ext w w := Ext.refl w
  have hla := ha.leI
  refine callsOf (vs := [_, _]) Try.func167 rfl Try.ntmps167 rfl rfl ?_
  refine CW.seq ?_
  refine CW.reg ?_
  refine WL.pure rfl rfl rfl (PV.assign rfl) ?_
  refine WL.nilS ?_
  refine CW.seq ?_
  refine CW.seq ?_
  refine CW.reg ?_
  refine WL.pure rfl rfl rfl (PV.move rfl) ?_
  refine WL.pure rfl rfl rfl ((by first | exact PV.len rfl (by assumption) T.sl98 | exact PV.lenOs rfl (by assumption) T.sl98 | exact PV.len rfl (NL.rd (by assumption)) T.sl98 | exact PV.len rfl (Inn.rd (by assumption) (by omega)) T.sl98)) ?_
  refine WL.pure rfl rfl rfl (PV.move rfl) ?_
  refine WL.nilS ?_
  refine CW.block ?_
  refine CW.loop (σk := [(0, _), (1, _), (7, _)]) (fun ρ wz m => ∃ (k : Nat), ρ = [(8, .int .i64 (k : Nat))] ∧ m = cs.length - k ∧ UpdL [] w wz ∧ (k ≤ cs.length) ∧ (∀ j : Nat, j < k → platP cs j = false)) (ρ₀ := [(8, _)]) (m₀ := _) ⟨rfl, rfl, rfl, rfl, trivial⟩ ⟨0, rfl, rfl, (UpdL.refl _ _), (by first | omega | rfl | (simp; done) | assumption | (simp_all; done)), (by intro j h; omega)⟩ ?_
  rintro _ wl1 _ ⟨k, rfl, rfl, hU0, hk, he⟩
  have hB := hB.loop hU0 trivial
  refine CW.seq ?_
  refine CW.reg ?_
  refine WL.pure rfl rfl rfl (PV.lss rfl rfl) ?_
  refine WL.nilS ?_
  refine CW.seq ?_
  refine CW.cond rfl (fun hc1 => ?_) (fun hc1 => ?_)
  · skip
    try simp only [decide_eq_true_eq, decide_eq_false_iff_not, Bool.not_eq_true', Bool.not_eq_false', Bool.not_eq_eq_eq_not, Bool.not_true, Bool.not_false, Int.not_lt, Int.not_le, Classical.not_not, beq_iff_eq, beq_eq_false_iff_ne] at hc1
    refine CW.skipS ?_
    refine CW.seq ?_
    refine CW.block ?_
    refine CW.seq ?_
    refine CW.reg ?_
    refine WL.pure rfl rfl rfl (PV.move rfl) ?_
    refine WL.pure rfl rfl rfl (PV.assign rfl) ?_
    refine WL.nilS ?_
    refine CW.seq ?_
    refine CW.reg ?_
    refine WL.pure rfl rfl rfl (PV.move rfl) ?_
    refine WL.pure rfl rfl rfl (PV.move rfl) ?_
    first
      | refine WL.at (x := .tmp 11) (y := .tmp 12) (E := ECh) (d4) rfl rfl (by first | assumption | exact Inn.rd (by assumption) (by omega)) (by first | omega | (simp only [List.length_set]; omega) | (simp only [List.length_append, List.length_take, List.length_replicate, List.length_drop]; omega)) (fun p1 csp1 hpp1 hcp1 hq => ?_)
      | refine WL.atZ (x := .tmp 11) (y := .tmp 12) (E := ECh) (d4) rfl rfl (by first | assumption | exact Inn.rd (by assumption) (by omega)) (by first | omega | (simp only [List.length_set]; omega) | (simp only [List.length_append, List.length_take, List.length_replicate, List.length_drop]; omega)) (fun p1 csp1 hpp1 hzp1 hcp1 hq => ?_)
    obtain ⟨vq0, vq1, vq2, vq3, rfl, hq0, hq1, hq2, hq3⟩ := ECh.parts hq
    refine WL.pure rfl rfl rfl ((by first | exact PV.indexAddr hpp1 rfl rfl T.sl98 | exact PV.indexAddr hpp1 rfl (by rw [← hzp1]; rfl) T.sl98)) ?_
    refine WL.pure rfl rfl rfl ((by first | exact PV.fieldAddr T.fl107_0 rfl (by first | assumption | exact Bx.cells (by assumption)) | exact PV.fieldAddrP T.fl107_0 rfl rfl)) ?_
    refine WL.pure rfl rfl rfl ((by first | exact PV.load0 T.na28 rfl (by first | exact Cells.up (by assumption) hB | exact Bx.cells (by assumption) | assumption) (Ext.refl _) rfl | exact PV.load1 T.na28 rfl (by first | exact Cells.up (by assumption) hB | exact Bx.cells (by assumption) | assumption) (Ext.refl _) rfl)) ?_
    refine WL.pure rfl rfl rfl ((by first | exact PV.len rfl (by assumption) T.sl28 | exact PV.lenOs rfl (by assumption) T.sl28 | exact PV.len rfl (NL.rd (by assumption)) T.sl28 | exact PV.len rfl (Inn.rd (by assumption) (by omega)) T.sl28)) ?_
    refine WL.pure rfl rfl rfl (PV.neq rfl rfl) ?_
    refine WL.pure rfl rfl rfl (PV.move rfl) ?_
    refine WL.split (t := 18) rfl (fun hc2 => ?_) (fun hc2 => ?_)
    · skip
      try simp only [decide_eq_true_eq, decide_eq_false_iff_not, Bool.not_eq_true', Bool.not_eq_false', Bool.not_eq_eq_eq_not, Bool.not_true, Bool.not_false, Int.not_lt, Int.not_le, Classical.not_not, beq_iff_eq, beq_eq_false_iff_ne] at hc2
      refine WL.skip rfl rfl rfl rfl rfl ?_
      refine WL.skip rfl rfl rfl rfl rfl ?_
      refine WL.skip rfl rfl rfl rfl rfl ?_
      refine WL.skip rfl rfl rfl rfl rfl ?_
      refine WL.skip rfl rfl rfl rfl rfl ?_
      refine WL.skip rfl rfl rfl rfl rfl ?_
      refine WL.skip rfl rfl rfl rfl rfl ?_
      refine WL.pure rfl rfl rfl (PV.pickT rfl rfl) ?_
      refine WL.nilS ?_
      refine CW.condT rfl ?_
      refine CW.seq ?_
      refine CW.reg ?_
      refine WL.pure rfl rfl rfl (PV.assign rfl) ?_
      refine WL.nilS ?_
      refine CW.ret ?_
      refine RQ.block ?_
      refine RQ.then ?_
      refine RQ.then ?_
      refine RQ.block ?_
      refine RQ.then ?_
      refine RQ.r1 rfl ?_
      refine ⟨?_, hB⟩
      first | exact bE (pln_n2 (k := k) (by omega) (decide_eq_true (by omega))) | exact bE (pln_e2 (fun j h => he j (by omega)))
    try simp only [decide_eq_true_eq, decide_eq_false_iff_not, Bool.not_eq_true', Bool.not_eq_false', Bool.not_eq_eq_eq_not, Bool.not_true, Bool.not_false, Int.not_lt, Int.not_le, Classical.not_not, beq_iff_eq, beq_eq_false_iff_ne] at hc2
    refine WL.pureG rfl rfl rfl rfl rfl (PV.move rfl) ?_
    refine WL.pureG rfl rfl rfl rfl rfl (PV.move rfl) ?_
    first
      | refine WL.at (x := .tmp 19) (y := .tmp 20) (E := ECh) (d4) rfl rfl (by first | assumption | exact Inn.rd (by assumption) (by omega)) (by first | omega | (simp only [List.length_set]; omega) | (simp only [List.length_append, List.length_take, List.length_replicate, List.length_drop]; omega)) (fun p2 csp2 hpp2 hcp2 hq => ?_)
      | refine WL.atZ (x := .tmp 19) (y := .tmp 20) (E := ECh) (d4) rfl rfl (by first | assumption | exact Inn.rd (by assumption) (by omega)) (by first | omega | (simp only [List.length_set]; omega) | (simp only [List.length_append, List.length_take, List.length_replicate, List.length_drop]; omega)) (fun p2 csp2 hpp2 hzp2 hcp2 hq => ?_)
    obtain ⟨vq0, vq1, vq2, vq3, rfl, hq0, hq1, hq2, hq3⟩ := ECh.parts hq
    refine WL.pureG rfl rfl rfl rfl rfl ((by first | exact PV.indexAddr hpp2 rfl rfl T.sl98 | exact PV.indexAddr hpp2 rfl (by rw [← hzp2]; rfl) T.sl98)) ?_
    refine WL.pureG rfl rfl rfl rfl rfl ((by first | exact PV.fieldAddr T.fl107_3 rfl (by first | assumption | exact Bx.cells (by assumption)) | exact PV.fieldAddrP T.fl107_3 rfl rfl)) ?_
    refine WL.pureG rfl rfl rfl rfl rfl ((by first | exact PV.load0 T.na28 rfl (by first | exact Cells.up (by assumption) hB | exact Bx.cells (by assumption) | assumption) (Ext.refl _) rfl | exact PV.load1 T.na28 rfl (by first | exact Cells.up (by assumption) hB | exact Bx.cells (by assumption) | assumption) (Ext.refl _) rfl)) ?_
    refine WL.pureG rfl rfl rfl rfl rfl ((by first | exact PV.len rfl (by assumption) T.sl28 | exact PV.lenOs rfl (by assumption) T.sl28 | exact PV.len rfl (NL.rd (by assumption)) T.sl28 | exact PV.len rfl (Inn.rd (by assumption) (by omega)) T.sl28)) ?_
    refine WL.pureG rfl rfl rfl rfl rfl (PV.neq rfl rfl) ?_
    refine WL.pure rfl rfl rfl (PV.pickF rfl rfl) ?_
    refine WL.nilS ?_
    refine CW.cond rfl (fun hc3 => ?_) (fun hc3 => ?_)
    · skip
      try simp only [decide_eq_true_eq, decide_eq_false_iff_not, Bool.not_eq_true', Bool.not_eq_false', Bool.not_eq_eq_eq_not, Bool.not_true, Bool.not_false, Int.not_lt, Int.not_le, Classical.not_not, beq_iff_eq, beq_eq_false_iff_ne] at hc3
      refine CW.seq ?_
      refine CW.reg ?_
      refine WL.pure rfl rfl rfl (PV.assign rfl) ?_
      refine WL.nilS ?_
      refine CW.ret ?_
      refine RQ.block ?_
      refine RQ.then ?_
      refine RQ.then ?_
      refine RQ.block ?_
      refine RQ.then ?_
      refine RQ.r1 rfl ?_
      refine ⟨?_, hB⟩
      first | exact bE (pln_n2 (k := k) (by omega) (decide_eq_true (by omega))) | exact bE (pln_e2 (fun j h => he j (by omega)))
    try simp only [decide_eq_true_eq, decide_eq_false_iff_not, Bool.not_eq_true', Bool.not_eq_false', Bool.not_eq_eq_eq_not, Bool.not_true, Bool.not_false, Int.not_lt, Int.not_le, Classical.not_not, beq_iff_eq, beq_eq_false_iff_ne] at hc3
    refine CW.skip ?_
    refine NQ.block ?_
    refine NQ.then ?_
    refine CW.reg ?_
    refine WL.pure rfl rfl rfl (PV.add rfl rfl (by constructor <;> omega)) ?_
    refine WL.pure rfl rfl rfl (PV.move rfl) ?_
    refine WL.nil ?_
    refine NQ.next (ρ := [(8, _)]) ⟨rfl, rfl, rfl, rfl, trivial⟩ ?_
    exact ⟨_, ⟨k + 1, rfl, rfl, hU0, (by first | omega | assumption | (simp_all; done) | (simp_all; omega)), (by intro j h; rcases Nat.lt_succ_iff_lt_or_eq.1 h with h | rfl; exact he j h; exact decide_eq_false (by omega))⟩, by omega⟩
  try simp only [decide_eq_true_eq, decide_eq_false_iff_not, Bool.not_eq_true', Bool.not_eq_false', Bool.not_eq_eq_eq_not, Bool.not_true, Bool.not_false, Int.not_lt, Int.not_le, Classical.not_not, beq_iff_eq, beq_eq_false_iff_ne] at hc1
  refine CW.exit ?_
  refine XQ.then ?_
  refine XQ.then ?_
  refine XQ.here ?_
  refine NQ.then ?_
  refine CW.seq ?_
  refine CW.reg ?_
  refine WL.pure rfl rfl rfl (PV.move rfl) ?_
  refine WL.pure rfl rfl rfl (PV.move rfl) ?_
  refine WL.op rfl (OpK.callR rfl T.cf179 rfl (c_spec_l05List (by first | assumption | exact Rd.up (by assumption) hB | exact rdCh (by assumption) (by assumption))) (fun w1 hXw1 => ?_))
  have hB := hB.trans hXw1
  refine WL.pure rfl rfl rfl (PV.assign rfl) ?_
  refine WL.nilS ?_
  refine CW.ret ?_
  refine RQ.r1 rfl ?_
  refine ⟨?_, hB⟩
  first | exact bE (pln_n2 (k := k) (by omega) (decide_eq_true (by omega))) | exact bE (pln_e2 (fun j h => he j (by omega)))

end Go.Proofs.Ythemmoceomdccaa
