/- Walks of the functions that the law FnExactLoosePairs reaches: each says what its function computes. No condition. -/
import Derived.Test.YthjeebjgdeldkaaProg
import Derived.Test.YthjeebjgdeldkaaLibM
import Derived.Test.YthjeebjgdeldkaaPlA
import Derived.Test.YthjeebjgdeldkaaLibT
import Derived.Test.YthjeebjgdeldkaaLibV
import Derived.Test.YthjeebjgdeldkaaPlK
import Derived.Test.YthjeebjgdeldkaaPlQ
import Derived.Test.YthjeebjgdeldkaaPlL
import Derived.Test.YthjeebjgdeldkaaPlO
import Derived.Test.YthjeebjgdeldkaaPlG
import Derived.Test.YthjeebjgdeldkaaLibW
import Derived.Test.YthjeebjgdeldkaaPlSo
import Derived.Test.YthjeebjgdeldkaaLibY
import Derived.Test.YthjeebjgdeldkaaPlLs
import Derived.Test.YthjeebjgdeldkaaWFnExactLoosePairsa
namespace Go.Proofs.Ythjeebjgdeldkaa
open Go Go.WX Go.Proofs
set_option linter.unusedSimpArgs false
set_option linter.unusedVariables false

theorem c_spec_l05Normal {w : World} {va : Value} {cs : List C4} {vw : Value} {xs : List Int} {mo : Int} (ha : Rd ECh w va cs) (hw : Rd EI w vw xs) (hx24 : xs.length ≤ 24) (hmo : 0 ≤ mo ∧ mo ≤ 200) (hoks : ∀ k : Nat, k < cs.length → okC (cs.getD k d4)) : Calls Try.prog 90 #[va, vw, .int .i64 mo] w (Ret1 (fun v w' => Ext w w' ∧ ∃ u og_u, v = .tuple #[u, .int .i64 (nT (normF cs mo.toNat xs)), .bool (nB (normF cs mo.toNat xs))] ∧ Osl VI w' og_u u (nL (normF cs mo.toNat xs)) ∧ Lo w og_u)) := by
  have hB : Ext w w := Ext.refl w
  have hla := ha.leI; have hlw := hw.leI
  refine callsOf (vs := [_, _, _]) Try.func90 rfl Try.ntmps90 rfl rfl ?_
  refine CW.seq ?_
  refine CW.reg ?_
  refine WL.pure rfl rfl rfl (PV.assign rfl) ?_
  refine WL.pure rfl rfl rfl (PV.assign rfl) ?_
  refine WL.pure rfl rfl rfl (PV.assign rfl) ?_
  refine WL.nilS ?_
  refine CW.seq ?_
  refine CW.reg ?_
  refine WL.op rfl (OpK.buildS VI (os := []) [] rfl T.sl26 rfl rfl T.zv2 rfl (by intro z hz; cases hz) rfl (fun v1 g1 w1 hXw1 ho1 hge1 => ?_))
  have hl1 := Lo.new hB hge1
  have hB := hB.trans hXw1
  refine WL.pure rfl rfl rfl (PV.move rfl) ?_
  refine WL.op rfl (OpK.appendS (f := VI) rfl T.sl26 T.zv2 rfl rfl ho1 rfl (Rd.src (by first | assumption | exact Rd.up (by assumption) hB | exact Inn.rd (by assumption) (by omega)) (fun _ => rfl)) (by first | (simp only [List.length_cons, List.length_nil]; omega) | (simp_all; omega)) (fun v2 og2 w2 hXw2 ho2 hap2 => ?_))
  have hl2 := Lo.app hl1 hB hap2
  have hB := hB.updL hXw2 hl1
  refine WL.pure rfl rfl rfl (PV.assign rfl) ?_
  refine WL.nilS ?_
  refine CW.seq ?_
  refine CW.reg ?_
  refine WL.pure rfl rfl rfl (PV.assign rfl) ?_
  refine WL.nilS ?_
  refine CW.block ?_
  have hlt2 := ho2.ltO
  refine CW.loop (σk := [(0, _), (2, _)]) (fun ρ wz m => ∃ (v3 : Value) (og3 : Option Nat) (t : Nat) (now : List Int), ρ = [(9, v3), (10, .int .i64 (t : Nat))] ∧ m = mo.toNat + 1 - t ∧ UpdL [og2] w2 wz ∧ Osl VI wz og3 v3 (now) ∧ OgR w2 og2 og3 ∧ (NrR cs mo.toNat xs now t) ∧ (now.length ≤ 24)) (ρ₀ := [(9, _), (10, _)]) (m₀ := _) ⟨rfl, rfl, rfl, rfl, trivial⟩ ⟨v2, og2, 0, _, rfl, rfl, (UpdL.refl _ _), osE ho2 (by first | rfl | (simp; rfl)), OgR.refl _ _, (by exact NrR.zero _ _ _), (by first | omega | rfl | (simp; done) | assumption | (simp_all; done))⟩ ?_
  rintro _ wl1 _ ⟨v3, og3, t, now, rfl, rfl, hU0, ho3, ha3, hN, hn24⟩
  have hl3 := Lo.ogr hl2 hB ha3
  have hg0_3 := ha3
  have hk0_3 : OkB [og2] w2 og3 := OkB.ogr (OkB.mem (by simp)) (Nat.le_refl _) ha3
  have hB := hB.loop hU0 ⟨hl2, trivial⟩
  have htm := hN.1
  refine CW.block ?_
  refine CW.seq ?_
  refine CW.reg ?_
  refine WL.pure rfl rfl rfl (PV.assign rfl) ?_
  refine WL.nilS ?_
  refine CW.seq ?_
  refine CW.seq ?_
  refine CW.reg ?_
  refine WL.pure rfl rfl rfl (PV.move rfl) ?_
  refine WL.pure rfl rfl rfl ((by first | exact PV.len rfl (by assumption) T.sl46 | exact PV.lenOs rfl (by assumption) T.sl46 | exact PV.len rfl (NL.rd (by assumption)) T.sl46 | exact PV.len rfl (Inn.rd (by assumption) (by omega)) T.sl46)) ?_
  refine WL.pure rfl rfl rfl (PV.move rfl) ?_
  refine WL.nilS ?_
  refine CW.block ?_
  refine CW.loop (σk := [(0, _), (2, _), (9, _), (10, _), (19, _)]) (fun ρ wz m => ∃ (k : Nat), ρ = [(11, .int .i64 (idxB (fun j => decide (0 ≤ firstI (cs.getD j d4) now)) k)), (20, .int .i64 (k : Nat))] ∧ m = cs.length - k ∧ UpdL [] wl1 wz ∧ (k ≤ cs.length)) (ρ₀ := [(11, _), (20, _)]) (m₀ := _) ⟨rfl, rfl, rfl, rfl, rfl, rfl, rfl, trivial⟩ ⟨0, (by rw [← idxB_zero]; rfl), rfl, (UpdL.refl _ _), (by first | omega | rfl | (simp; done) | assumption | (simp_all; done))⟩ ?_
  rintro _ wl2 _ ⟨k, rfl, rfl, hU1, hk⟩
  have hU0 := hU0.trans hU1 trivial
  have ho3 := ho3.loop hU1 trivial
  have hB := hB.loop hU1 trivial
  refine CW.seq ?_
  refine CW.reg ?_
  refine WL.pure rfl rfl rfl (PV.lss rfl rfl) ?_
  refine WL.nilS ?_
  refine CW.seq ?_
  refine CW.cond rfl (fun hc1 => ?_) (fun hc1 => ?_)
  · skip
    try simp only [decide_eq_true_eq, decide_eq_false_iff_not, Bool.not_eq_true', Bool.not_eq_false', Bool.not_eq_eq_eq_not, Bool.not_true, Bool.not_false, Int.not_lt, Int.not_le, Classical.not_not, beq_iff_eq, beq_eq_false_iff_ne] at hc1
    refine CW.skipS ?_
    refine CW.seq ?_
    refine CW.block ?_
    refine CW.seq ?_
    refine CW.reg ?_
    refine WL.pure rfl rfl rfl (PV.move rfl) ?_
    refine WL.pure rfl rfl rfl (PV.assign rfl) ?_
    refine WL.nilS ?_
    refine CW.seq ?_
    refine CW.reg ?_
    refine WL.pure rfl rfl rfl (PV.move rfl) ?_
    have hok := hoks k (by omega); have hpf := places_first (cs.getD k d4) now; have hfr := first_rng (cs.getD k d4) now
    refine WL.pure rfl rfl rfl (PV.lss rfl rfl) ?_
    refine WL.pure rfl rfl rfl (PV.move rfl) ?_
    refine WL.split (t := 25) rfl (fun hc2 => ?_) (fun hc2 => ?_)
    rotate_left
    · skip
      try simp only [decide_eq_true_eq, decide_eq_false_iff_not, Bool.not_eq_true', Bool.not_eq_false', Bool.not_eq_eq_eq_not, Bool.not_true, Bool.not_false, Int.not_lt, Int.not_le, Classical.not_not, beq_iff_eq, beq_eq_false_iff_ne] at hc2
      refine WL.skip rfl rfl rfl rfl rfl ?_
      refine WL.skip rfl rfl rfl rfl rfl ?_
      refine WL.skip rfl rfl rfl rfl rfl ?_
      refine WL.skip rfl rfl rfl rfl rfl ?_
      refine WL.skip rfl rfl rfl rfl rfl ?_
      refine WL.skip rfl rfl rfl rfl rfl ?_
      refine WL.skip rfl rfl rfl rfl rfl ?_
      refine WL.pure rfl rfl rfl (PV.pickF rfl rfl) ?_
      refine WL.nilS ?_
      refine CW.condF rfl ?_
      refine CW.skip ?_
      refine NQ.block ?_
      refine NQ.then ?_
      refine CW.reg ?_
      refine WL.pure rfl rfl rfl (PV.add rfl rfl (by constructor <;> omega)) ?_
      refine WL.pure rfl rfl rfl (PV.move rfl) ?_
      refine WL.nil ?_
      refine NQ.next (ρ := [(11, _), (20, _)]) ⟨rfl, rfl, rfl, rfl, rfl, rfl, rfl, trivial⟩ ?_
      exact ⟨_, ⟨k + 1, (by first | (rw [← idxB_y1 (by omega)]; rfl) | (rw [← idxB_y2 (by omega) (decide_eq_true (by have h9 := hpf.1.2; omega))]; rfl) | (rw [← idxB_y3 (by omega) (decide_eq_false (by have h9 := hpf.1.1; omega))]; rfl)), rfl, hU1, (by first | omega | assumption | (simp_all; done) | (simp_all; omega))⟩, by omega⟩
    try simp only [decide_eq_true_eq, decide_eq_false_iff_not, Bool.not_eq_true', Bool.not_eq_false', Bool.not_eq_eq_eq_not, Bool.not_true, Bool.not_false, Int.not_lt, Int.not_le, Classical.not_not, beq_iff_eq, beq_eq_false_iff_ne] at hc2
    refine WL.pureG rfl rfl rfl rfl rfl (PV.move rfl) ?_
    refine WL.pureG rfl rfl rfl rfl rfl (PV.move rfl) ?_
    first
      | refine WL.at (x := .tmp 26) (y := .tmp 27) (E := ECh) (d4) rfl rfl (by first | assumption | exact Inn.rd (by assumption) (by omega)) (by first | omega | (simp only [List.length_set]; omega) | (simp only [List.length_append, List.length_take, List.length_replicate, List.length_drop]; omega)) (fun p1 csp1 hpp1 hcp1 hq => ?_)
      | refine WL.atZ (x := .tmp 26) (y := .tmp 27) (E := ECh) (d4) rfl rfl (by first | assumption | exact Inn.rd (by assumption) (by omega)) (by first | omega | (simp only [List.length_set]; omega) | (simp only [List.length_append, List.length_take, List.length_replicate, List.length_drop]; omega)) (fun p1 csp1 hpp1 hzp1 hcp1 hq => ?_)
    obtain ⟨vq0, vq1, vq2, vq3, rfl, hq0, hq1, hq2, hq3⟩ := ECh.parts hq
    refine WL.pureG rfl rfl rfl rfl rfl ((by first | exact PV.indexAddr hpp1 rfl rfl T.sl46 | exact PV.indexAddr hpp1 rfl (by rw [← hzp1]; rfl) T.sl46)) ?_
    refine WL.pureG rfl rfl rfl rfl rfl (PV.move rfl) ?_
    refine WL.opG rfl rfl rfl (OpK.call rfl T.cf101 rfl (c_spec_l05Places (by first | exact Bx.cells (by assumption) | exact Cells.up (by assumption) hB | assumption | exact Cells.add (Bx.cells (by assumption)) _ | exact Cells.add (Cells.up (by assumption) hB) _) (by first | assumption | exact Rd.up (by assumption) hB | exact Osl.rd (by assumption) | exact Osn.rdR (by assumption) | exact NL.rd (by assumption) | exact rdII (by assumption) (by assumption) | exact Inn.rd (by assumption) (by omega)) (by first | assumption | exact Rd.up (by assumption) hB | exact Osl.rd (by assumption) | exact Osn.rdR (by assumption) | exact NL.rd (by assumption) | exact rdII (by assumption) (by assumption) | exact Inn.rd (by assumption) (by omega)) (by first | assumption | exact Rd.up (by assumption) hB | exact Osl.rd (by assumption) | exact Osn.rdR (by assumption) | exact NL.rd (by assumption) | exact rdII (by assumption) (by assumption) | exact Inn.rd (by assumption) (by omega)) (by first | assumption | exact Rd.up (by assumption) hB | exact Osl.rd (by assumption) | exact Osn.rdR (by assumption) | exact NL.rd (by assumption) | exact rdII (by assumption) (by assumption) | exact Inn.rd (by assumption) (by omega)) (by first | assumption | exact Rd.up (by assumption) hB | exact Osl.rd (by assumption) | exact Osn.rdR (by assumption) | exact NL.rd (by assumption) | exact rdII (by assumption) (by assumption) | exact Inn.rd (by assumption) (by omega)) (by first | assumption | omega | (simp only [marks_len, marksB_len, marksR_len, sumL_marksS, List.length_take]; omega)) (by first | assumption | omega | (simp only [marks_len, marksB_len, marksR_len, sumL_marksS, List.length_take]; omega))) (fun rv1 w3 hR => ?_))
    obtain ⟨hXw3, v4, og4, rfl, ho4, hq4⟩ := hR
    have hl4 := Lo.up hq4 hB
    have hd3_4 := Dj.lo ho3.ltO hq4
    have hk0_4 := OkN.lo hU0 hq4
    have hg0_4 := OgR.lo hU0.size hq4
    have hk1_4 := OkN.lo hU1 hq4
    have hg1_4 := OgR.lo hU1.size hq4
    have hB := hB.trans hXw3
    have ho3 := ho3.up hXw3
    have hU0 := hU0.ext hXw3
    have hU1 := hU1.ext hXw3
    refine WL.pureG rfl rfl rfl rfl rfl ((PV.lenOs rfl ho4 T.sl26)) ?_
    refine WL.pureG rfl rfl rfl rfl rfl (PV.gtr rfl rfl) ?_
    refine WL.pure rfl rfl rfl (PV.pickT rfl rfl) ?_
    refine WL.nilS ?_
    refine CW.cond rfl (fun hc3 => ?_) (fun hc3 => ?_)
    · skip
      try simp only [decide_eq_true_eq, decide_eq_false_iff_not, Bool.not_eq_true', Bool.not_eq_false', Bool.not_eq_eq_eq_not, Bool.not_true, Bool.not_false, Int.not_lt, Int.not_le, Classical.not_not, beq_iff_eq, beq_eq_false_iff_ne] at hc3
      refine CW.reg ?_
      refine WL.pure rfl rfl rfl (PV.move rfl) ?_
      refine WL.pure rfl rfl rfl (PV.assign rfl) ?_
      refine WL.nil ?_
      refine NQ.block ?_
      refine NQ.then ?_
      refine CW.reg ?_
      refine WL.pure rfl rfl rfl (PV.add rfl rfl (by constructor <;> omega)) ?_
      refine WL.pure rfl rfl rfl (PV.move rfl) ?_
      refine WL.nil ?_
      refine NQ.next (ρ := [(11, _), (20, _)]) ⟨rfl, rfl, rfl, rfl, rfl, rfl, rfl, trivial⟩ ?_
      exact ⟨_, ⟨k + 1, (by first | (rw [← idxB_y1 (by omega)]; rfl) | (rw [← idxB_y2 (by omega) (decide_eq_true (by have h9 := hpf.1.2; omega))]; rfl) | (rw [← idxB_y3 (by omega) (decide_eq_false (by have h9 := hpf.1.1; omega))]; rfl)), rfl, hU1, (by first | omega | assumption | (simp_all; done) | (simp_all; omega))⟩, by omega⟩
    try simp only [decide_eq_true_eq, decide_eq_false_iff_not, Bool.not_eq_true', Bool.not_eq_false', Bool.not_eq_eq_eq_not, Bool.not_true, Bool.not_false, Int.not_lt, Int.not_le, Classical.not_not, beq_iff_eq, beq_eq_false_iff_ne] at hc3
    refine CW.skip ?_
    refine NQ.block ?_
    refine NQ.then ?_
    refine CW.reg ?_
    refine WL.pure rfl rfl rfl (PV.add rfl rfl (by constructor <;> omega)) ?_
    refine WL.pure rfl rfl rfl (PV.move rfl) ?_
    refine WL.nil ?_
    refine NQ.next (ρ := [(11, _), (20, _)]) ⟨rfl, rfl, rfl, rfl, rfl, rfl, rfl, trivial⟩ ?_
    exact ⟨_, ⟨k + 1, (by first | (rw [← idxB_y1 (by omega)]; rfl) | (rw [← idxB_y2 (by omega) (decide_eq_true (by have h9 := hpf.1.2; omega))]; rfl) | (rw [← idxB_y3 (by omega) (decide_eq_false (by have h9 := hpf.1.1; omega))]; rfl)), rfl, hU1, (by first | omega | assumption | (simp_all; done) | (simp_all; omega))⟩, by omega⟩
  try simp only [decide_eq_true_eq, decide_eq_false_iff_not, Bool.not_eq_true', Bool.not_eq_false', Bool.not_eq_eq_eq_not, Bool.not_true, Bool.not_false, Int.not_lt, Int.not_le, Classical.not_not, beq_iff_eq, beq_eq_false_iff_ne] at hc1
  have hke : k = cs.length := (by omega)
  refine CW.exit ?_
  refine XQ.then ?_
  refine XQ.then ?_
  refine XQ.here ?_
  refine NQ.then ?_
  refine CW.seq ?_
  refine CW.seq ?_
  refine CW.reg ?_
  refine WL.pure rfl rfl rfl (PV.move rfl) ?_
  refine WL.pure rfl rfl rfl (PV.lss rfl rfl) ?_
  refine WL.nilS ?_
  refine CW.cond rfl (fun hc4 => ?_) (fun hc4 => ?_)
  · skip
    try simp only [decide_eq_true_eq, decide_eq_false_iff_not, Bool.not_eq_true', Bool.not_eq_false', Bool.not_eq_eq_eq_not, Bool.not_true, Bool.not_false, Int.not_lt, Int.not_le, Classical.not_not, beq_iff_eq, beq_eq_false_iff_ne] at hc4
    have hsq : idxB (fun j => decide (0 ≤ firstI (cs.getD j d4) now)) k = stepI cs now := (by rw [hke]; rfl); have hsn : stepI cs now < 0 := (by omega)
    refine CW.seq ?_
    refine CW.reg ?_
    refine WL.pure rfl rfl rfl (PV.move rfl) ?_
    refine WL.pure rfl rfl rfl (PV.move rfl) ?_
    refine WL.pure rfl rfl rfl (PV.assign rfl) ?_
    refine WL.pure rfl rfl rfl (PV.assign rfl) ?_
    refine WL.pure rfl rfl rfl (PV.assign rfl) ?_
    refine WL.nilS ?_
    refine CW.ret ?_
    refine RQ.then ?_
    refine RQ.block ?_
    refine RQ.then ?_
    refine RQ.block ?_
    refine RQ.r3 rfl rfl rfl ?_
    refine ⟨hB, v3, og3, ?_, osE ho3 ?_, hl3⟩
    · skip
      first | (have hR : normF cs mo.toNat xs = none := (by first | exact hN.stop hsy (by omega) | exact hN.long hsy (by intro h9; have h99 : onceB (cs.getD (stepI cs now).toNat d4) now = false := (by assumption); rw [hoB] at h99; exact absurd ((decide_eq_true h9).symm.trans h99) (by decide))); exact tE3 rfl (iE (by rw [hR]; rfl)) (bE (by rw [hR]; rfl))) | (have hR : normF cs mo.toNat xs = some (now, (t : Int)) := hN.end hsn; exact tE3 rfl (iE (by rw [hR]; rfl)) (bE (by rw [hR]; rfl)))
    · skip
      first | (have hR : normF cs mo.toNat xs = none := (by first | exact hN.stop hsy (by omega) | exact hN.long hsy (by intro h9; have h99 : onceB (cs.getD (stepI cs now).toNat d4) now = false := (by assumption); rw [hoB] at h99; exact absurd ((decide_eq_true h9).symm.trans h99) (by decide))); rw [hR]; rfl) | (have hR : normF cs mo.toNat xs = some (now, (t : Int)) := hN.end hsn; rw [hR]; rfl)
  try simp only [decide_eq_true_eq, decide_eq_false_iff_not, Bool.not_eq_true', Bool.not_eq_false', Bool.not_eq_eq_eq_not, Bool.not_true, Bool.not_false, Int.not_lt, Int.not_le, Classical.not_not, beq_iff_eq, beq_eq_false_iff_ne] at hc4
  have hsq : idxB (fun j => decide (0 ≤ firstI (cs.getD j d4) now)) k = stepI cs now := (by rw [hke]; rfl); have hsy : 0 ≤ stepI cs now := (by omega); rw [hsq]; have hsf := stepI_first hsy; have hok := hoks _ hsf.1; have hoB := onceB_y hsf.2; have hoL := once_y hsf.2
  refine CW.skipS ?_
  refine CW.seq ?_
  refine CW.reg ?_
  refine WL.pure rfl rfl rfl (PV.move rfl) ?_
  refine WL.pure rfl rfl rfl (PV.move rfl) ?_
  first
    | refine WL.at (x := .tmp 41) (y := .tmp 42) (E := ECh) (d4) rfl rfl (by first | assumption | exact Inn.rd (by assumption) (by omega)) (by first | omega | (simp only [List.length_set]; omega) | (simp only [List.length_append, List.length_take, List.length_replicate, List.length_drop]; omega)) (fun p2 csp2 hpp2 hcp2 hq => ?_)
    | refine WL.atZ (x := .tmp 41) (y := .tmp 42) (E := ECh) (d4) rfl rfl (by first | assumption | exact Inn.rd (by assumption) (by omega)) (by first | omega | (simp only [List.length_set]; omega) | (simp only [List.length_append, List.length_take, List.length_replicate, List.length_drop]; omega)) (fun p2 csp2 hpp2 hzp2 hcp2 hq => ?_)
  obtain ⟨vq0, vq1, vq2, vq3, rfl, hq0, hq1, hq2, hq3⟩ := ECh.parts hq
  refine WL.pure rfl rfl rfl ((by first | exact PV.indexAddr hpp2 rfl rfl T.sl46 | exact PV.indexAddr hpp2 rfl (by rw [← hzp2]; rfl) T.sl46)) ?_
  refine WL.pure rfl rfl rfl (PV.move rfl) ?_
  refine WL.op rfl (OpK.call rfl T.cf102 rfl (c_spec_l05Once (by first | exact Bx.cells (by assumption) | exact Cells.up (by assumption) hB | assumption | exact Cells.add (Bx.cells (by assumption)) _ | exact Cells.add (Cells.up (by assumption) hB) _) (by first | assumption | exact Rd.up (by assumption) hB | exact Osl.rd (by assumption) | exact Osn.rdR (by assumption) | exact NL.rd (by assumption) | exact rdII (by assumption) (by assumption) | exact Inn.rd (by assumption) (by omega)) (by first | assumption | exact Rd.up (by assumption) hB | exact Osl.rd (by assumption) | exact Osn.rdR (by assumption) | exact NL.rd (by assumption) | exact rdII (by assumption) (by assumption) | exact Inn.rd (by assumption) (by omega)) (by first | assumption | exact Rd.up (by assumption) hB | exact Osl.rd (by assumption) | exact Osn.rdR (by assumption) | exact NL.rd (by assumption) | exact rdII (by assumption) (by assumption) | exact Inn.rd (by assumption) (by omega)) (by first | assumption | exact Rd.up (by assumption) hB | exact Osl.rd (by assumption) | exact Osn.rdR (by assumption) | exact NL.rd (by assumption) | exact rdII (by assumption) (by assumption) | exact Inn.rd (by assumption) (by omega)) (by first | assumption | exact Rd.up (by assumption) hB | exact Osl.rd (by assumption) | exact Osn.rdR (by assumption) | exact NL.rd (by assumption) | exact rdII (by assumption) (by assumption) | exact Inn.rd (by assumption) (by omega)) (by first | assumption | omega | (simp only [marks_len, marksB_len, marksR_len, sumL_marksS, List.length_take]; omega)) (by first | assumption | omega | (simp only [marks_len, marksB_len, marksR_len, sumL_marksS, List.length_take]; omega))) (fun rv2 w4 hR => ?_))
  obtain ⟨hXw4, v5, og5, rfl, ho5, hq5⟩ := hR
  have hl5 := Lo.up hq5 hB
  have hd3_5 := Dj.lo ho3.ltO hq5
  have hk0_5 := OkN.lo hU0 hq5
  have hg0_5 := OgR.lo hU0.size hq5
  have hB := hB.trans hXw4
  have ho3 := ho3.up hXw4
  have hU0 := hU0.ext hXw4
  refine WL.pure rfl rfl rfl (PV.move rfl) ?_
  refine WL.pure rfl rfl rfl (PV.extract rfl rfl) ?_
  refine WL.pure rfl rfl rfl (PV.extract rfl rfl) ?_
  refine WL.pure rfl rfl rfl (PV.assign rfl) ?_
  refine WL.pure rfl rfl rfl (PV.assign rfl) ?_
  refine WL.nilS ?_
  refine CW.seq ?_
  refine CW.seq ?_
  refine CW.reg ?_
  refine WL.pure rfl rfl rfl (PV.move rfl) ?_
  refine WL.pure rfl rfl rfl (PV.move rfl) ?_
  refine WL.pure rfl rfl rfl (PV.eql rfl rfl) ?_
  refine WL.pure rfl rfl rfl (PV.move rfl) ?_
  refine WL.split (t := 51) rfl (fun hc5 => ?_) (fun hc5 => ?_)
  · skip
    try simp only [decide_eq_true_eq, decide_eq_false_iff_not, Bool.not_eq_true', Bool.not_eq_false', Bool.not_eq_eq_eq_not, Bool.not_true, Bool.not_false, Int.not_lt, Int.not_le, Classical.not_not, beq_iff_eq, beq_eq_false_iff_ne] at hc5
    refine WL.skip rfl rfl rfl rfl rfl ?_
    refine WL.skip rfl rfl rfl rfl rfl ?_
    refine WL.pure rfl rfl rfl (PV.pickT rfl rfl) ?_
    refine WL.nilS ?_
    refine CW.condT rfl ?_
    refine CW.seq ?_
    refine CW.reg ?_
    refine WL.pure rfl rfl rfl (PV.assign rfl) ?_
    refine WL.pure rfl rfl rfl (PV.assign rfl) ?_
    refine WL.pure rfl rfl rfl (PV.assign rfl) ?_
    refine WL.nilS ?_
    refine CW.ret ?_
    refine RQ.then ?_
    refine RQ.block ?_
    refine RQ.then ?_
    refine RQ.block ?_
    refine RQ.r3 rfl rfl rfl ?_
    refine ⟨hB, (.slice none 0 0), none, ?_, osE (Osl.nil _ _) ?_, Lo.nl _⟩
    · skip
      first | (have hR : normF cs mo.toNat xs = none := (by first | exact hN.stop hsy (by omega) | exact hN.long hsy (by intro h9; have h99 : onceB (cs.getD (stepI cs now).toNat d4) now = false := (by assumption); rw [hoB] at h99; exact absurd ((decide_eq_true h9).symm.trans h99) (by decide))); exact tE3 rfl (iE (by rw [hR]; rfl)) (bE (by rw [hR]; rfl))) | (have hR : normF cs mo.toNat xs = some (now, (t : Int)) := hN.end hsn; exact tE3 rfl (iE (by rw [hR]; rfl)) (bE (by rw [hR]; rfl)))
    · skip
      first | (have hR : normF cs mo.toNat xs = none := (by first | exact hN.stop hsy (by omega) | exact hN.long hsy (by intro h9; have h99 : onceB (cs.getD (stepI cs now).toNat d4) now = false := (by assumption); rw [hoB] at h99; exact absurd ((decide_eq_true h9).symm.trans h99) (by decide))); rw [hR]; rfl) | (have hR : normF cs mo.toNat xs = some (now, (t : Int)) := hN.end hsn; rw [hR]; rfl)
  try simp only [decide_eq_true_eq, decide_eq_false_iff_not, Bool.not_eq_true', Bool.not_eq_false', Bool.not_eq_eq_eq_not, Bool.not_true, Bool.not_false, Int.not_lt, Int.not_le, Classical.not_not, beq_iff_eq, beq_eq_false_iff_ne] at hc5
  refine WL.pureG rfl rfl rfl rfl rfl (PV.move rfl) ?_
  refine WL.pureG rfl rfl rfl rfl rfl (PV.not rfl) ?_
  refine WL.pure rfl rfl rfl (PV.pickF rfl rfl) ?_
  refine WL.nilS ?_
  refine CW.cond rfl (fun hc6 => ?_) (fun hc6 => ?_)
  · skip
    try simp only [decide_eq_true_eq, decide_eq_false_iff_not, Bool.not_eq_true', Bool.not_eq_false', Bool.not_eq_eq_eq_not, Bool.not_true, Bool.not_false, Int.not_lt, Int.not_le, Classical.not_not, beq_iff_eq, beq_eq_false_iff_ne] at hc6
    refine CW.seq ?_
    refine CW.reg ?_
    refine WL.pure rfl rfl rfl (PV.assign rfl) ?_
    refine WL.pure rfl rfl rfl (PV.assign rfl) ?_
    refine WL.pure rfl rfl rfl (PV.assign rfl) ?_
    refine WL.nilS ?_
    refine CW.ret ?_
    refine RQ.then ?_
    refine RQ.block ?_
    refine RQ.then ?_
    refine RQ.block ?_
    refine RQ.r3 rfl rfl rfl ?_
    refine ⟨hB, (.slice none 0 0), none, ?_, osE (Osl.nil _ _) ?_, Lo.nl _⟩
    · skip
      first | (have hR : normF cs mo.toNat xs = none := (by first | exact hN.stop hsy (by omega) | exact hN.long hsy (by intro h9; have h99 : onceB (cs.getD (stepI cs now).toNat d4) now = false := (by assumption); rw [hoB] at h99; exact absurd ((decide_eq_true h9).symm.trans h99) (by decide))); exact tE3 rfl (iE (by rw [hR]; rfl)) (bE (by rw [hR]; rfl))) | (have hR : normF cs mo.toNat xs = some (now, (t : Int)) := hN.end hsn; exact tE3 rfl (iE (by rw [hR]; rfl)) (bE (by rw [hR]; rfl)))
    · skip
      first | (have hR : normF cs mo.toNat xs = none := (by first | exact hN.stop hsy (by omega) | exact hN.long hsy (by intro h9; have h99 : onceB (cs.getD (stepI cs now).toNat d4) now = false := (by assumption); rw [hoB] at h99; exact absurd ((decide_eq_true h9).symm.trans h99) (by decide))); rw [hR]; rfl) | (have hR : normF cs mo.toNat xs = some (now, (t : Int)) := hN.end hsn; rw [hR]; rfl)
  try simp only [decide_eq_true_eq, decide_eq_false_iff_not, Bool.not_eq_true', Bool.not_eq_false', Bool.not_eq_eq_eq_not, Bool.not_true, Bool.not_false, Int.not_lt, Int.not_le, Classical.not_not, beq_iff_eq, beq_eq_false_iff_ne] at hc6
  refine CW.skipS ?_
  refine CW.seq ?_
  refine CW.reg ?_
  refine WL.pure rfl rfl rfl (PV.move rfl) ?_
  refine WL.pure rfl rfl rfl (PV.assign rfl) ?_
  refine WL.nilS ?_
  refine CW.reg ?_
  refine WL.pure rfl rfl rfl (PV.move rfl) ?_
  refine WL.pure rfl rfl rfl (PV.add rfl rfl (by constructor <;> omega)) ?_
  refine WL.pure rfl rfl rfl (PV.assign rfl) ?_
  refine WL.nil ?_
  refine NQ.block ?_
  refine NQ.next (ρ := [(9, _), (10, _)]) ⟨rfl, rfl, rfl, rfl, trivial⟩ ?_
  exact ⟨_, ⟨v5, og5, t + 1, _, rfl, rfl, hU0, osE ho5 (by rfl), (by first | exact hg0_5 | exact OgR.weak hg0_5), (by exact hN.step hsy (by omega) hoL (by rw [hoL]; exact (by have h99 : onceB (cs.getD (stepI cs now).toNat d4) now = true := (by assumption); rw [hoB] at h99; exact of_decide_eq_true h99))), (by rw [hoL]; exact (by have h99 : onceB (cs.getD (stepI cs now).toNat d4) now = true := (by assumption); rw [hoB] at h99; exact of_decide_eq_true h99))⟩, by omega⟩
theorem c_spec_LoosePairs {w : World} {va : Value} {cs : List C4} {L mo : Int} (ha : Rd ECh w va cs) : Calls Try.prog 28 #[va, .int .i64 L, .int .i64 mo] w (Ret1 (fun v w' => Ext w w' ∧ ∃ u og_u vs_u os_u, v = .tuple #[u, .bool (lsB cs L mo)] ∧ Osl VV w' og_u u vs_u ∧ Lo w og_u ∧ Inn w' os_u vs_u (onT (lsB cs L mo) (lsL cs mo.toNat)) ∧ LoI w os_u ∧ DI os_u og_u)) := by
  have hB : Ext w w := Ext.refl w
  have hla := ha.leI
  refine callsOf (vs := [_, _, _]) Try.func28 rfl Try.ntmps28 rfl rfl ?_
  refine CW.seq ?_
  refine CW.reg ?_
  refine WL.pure rfl rfl rfl (PV.assign rfl) ?_
  refine WL.pure rfl rfl rfl (PV.assign rfl) ?_
  refine WL.nilS ?_
  refine CW.seq ?_
  refine CW.seq ?_
  refine CW.reg ?_
  refine WL.pure rfl rfl rfl (PV.move rfl) ?_
  refine WL.pure rfl rfl rfl (PV.move rfl) ?_
  refine WL.op rfl (OpK.callR rfl T.cf88 rfl (c_spec_l05Plain (by first | assumption | exact Rd.up (by assumption) hB | exact rdCh (by assumption) (by assumption))) (fun w1 hXw1 => ?_))
  have hB := hB.trans hXw1
  refine WL.pure rfl rfl rfl (PV.not rfl) ?_
  refine WL.pure rfl rfl rfl (PV.move rfl) ?_
  refine WL.split (t := 22) rfl (fun hc1 => ?_) (fun hc1 => ?_)
  · skip
    try simp only [decide_eq_true_eq, decide_eq_false_iff_not, Bool.not_eq_true', Bool.not_eq_false', Bool.not_eq_eq_eq_not, Bool.not_true, Bool.not_false, Int.not_lt, Int.not_le, Classical.not_not, beq_iff_eq, beq_eq_false_iff_ne] at hc1
    refine WL.skip rfl rfl rfl rfl rfl ?_
    refine WL.skip rfl rfl rfl rfl rfl ?_
    refine WL.skip rfl rfl rfl rfl rfl ?_
    refine WL.pure rfl rfl rfl (PV.pickT rfl rfl) ?_
    refine WL.nilS ?_
    refine CW.condT rfl ?_
    refine CW.seq ?_
    refine CW.reg ?_
    refine WL.pure rfl rfl rfl (PV.assign rfl) ?_
    refine WL.pure rfl rfl rfl (PV.assign rfl) ?_
    refine WL.nilS ?_
    refine CW.ret ?_
    refine RQ.then ?_
    refine RQ.r2 rfl rfl ?_
    first | (have hS : lsB cs L mo = false := (by first | exact ls_n1 (by assumption) | exact ls_n2 (by omega) | exact ls_n3 (k := k) (by omega) (lsO_n1 htk (by assumption)) | exact ls_n3 (k := k) (by omega) (lsO_n2 htk (by assumption))); exact ⟨hB, .slice none 0 0, none, [], [], tE2 rfl (bE hS.symm), Osl.nil _ _, Lo.nl _, innE (Inn.zero _) (onT_no (by rw [hS]; decide)).symm, LoI.nl _, DI.nl _⟩) | (obtain rfl : k = (ov1 cs cs.length).length := (by omega); have hS := ls_y (by assumption : plnB cs L = true) hmo2 he; exact ⟨hB, _, _, _, _, tE2 rfl (bE hS.symm), ho5, hl5, innE (Inn.sel hn3 _ (by rw [List.length_map]; exact Nat.le_refl _)) (onT_yes hS).symm, LoI.sel hl3 (by rw [hn3.lo, List.length_map]; exact Nat.le_refl _), DI.sel hd3_5 (by rw [hn3.lo, List.length_map]; exact Nat.le_refl _)⟩)
  try simp only [decide_eq_true_eq, decide_eq_false_iff_not, Bool.not_eq_true', Bool.not_eq_false', Bool.not_eq_eq_eq_not, Bool.not_true, Bool.not_false, Int.not_lt, Int.not_le, Classical.not_not, beq_iff_eq, beq_eq_false_iff_ne] at hc1
  refine WL.pureG rfl rfl rfl rfl rfl (PV.move rfl) ?_
  refine WL.opG rfl rfl rfl (OpK.callR rfl T.cf74 rfl (c_spec_l00In) (fun w2 hXw2 => ?_))
  have hB := hB.trans hXw2
  refine WL.pureG rfl rfl rfl rfl rfl (PV.not rfl) ?_
  refine WL.pure rfl rfl rfl (PV.pickF rfl rfl) ?_
  refine WL.nilS ?_
  refine CW.cond rfl (fun hc2 => ?_) (fun hc2 => ?_)
  · skip
    try simp only [decide_eq_true_eq, decide_eq_false_iff_not, Bool.not_eq_true', Bool.not_eq_false', Bool.not_eq_eq_eq_not, Bool.not_true, Bool.not_false, Int.not_lt, Int.not_le, Classical.not_not, beq_iff_eq, beq_eq_false_iff_ne] at hc2
    refine CW.seq ?_
    refine CW.reg ?_
    refine WL.pure rfl rfl rfl (PV.assign rfl) ?_
    refine WL.pure rfl rfl rfl (PV.assign rfl) ?_
    refine WL.nilS ?_
    refine CW.ret ?_
    refine RQ.then ?_
    refine RQ.r2 rfl rfl ?_
    first | (have hS : lsB cs L mo = false := (by first | exact ls_n1 (by assumption) | exact ls_n2 (by omega) | exact ls_n3 (k := k) (by omega) (lsO_n1 htk (by assumption)) | exact ls_n3 (k := k) (by omega) (lsO_n2 htk (by assumption))); exact ⟨hB, .slice none 0 0, none, [], [], tE2 rfl (bE hS.symm), Osl.nil _ _, Lo.nl _, innE (Inn.zero _) (onT_no (by rw [hS]; decide)).symm, LoI.nl _, DI.nl _⟩) | (obtain rfl : k = (ov1 cs cs.length).length := (by omega); have hS := ls_y (by assumption : plnB cs L = true) hmo2 he; exact ⟨hB, _, _, _, _, tE2 rfl (bE hS.symm), ho5, hl5, innE (Inn.sel hn3 _ (by rw [List.length_map]; exact Nat.le_refl _)) (onT_yes hS).symm, LoI.sel hl3 (by rw [hn3.lo, List.length_map]; exact Nat.le_refl _), DI.sel hd3_5 (by rw [hn3.lo, List.length_map]; exact Nat.le_refl _)⟩)
  try simp only [decide_eq_true_eq, decide_eq_false_iff_not, Bool.not_eq_true', Bool.not_eq_false', Bool.not_eq_eq_eq_not, Bool.not_true, Bool.not_false, Int.not_lt, Int.not_le, Classical.not_not, beq_iff_eq, beq_eq_false_iff_ne] at hc2
  refine CW.skipS ?_
  refine CW.seq ?_
  refine CW.reg ?_
  have hpb := pln_y (by assumption : plnB cs L = true); have hlb := listB_y hpb.1; have hoks := hlb.2.2.2; have h8 := hlb.1; have ho300 := ov1_300 h8 hoks; have hmo2 : 0 ≤ mo ∧ mo ≤ 200 := (by first | assumption | omega)
  refine WL.op rfl (OpK.buildS VV (os := []) [] rfl T.sl28 rfl rfl T.zv26 rfl (by intro z hz; cases hz) rfl (fun v1 g1 w3 hXw3 ho1 hge1 => ?_))
  have hl1 := Lo.new hB hge1
  have hB := hB.trans hXw3
  refine WL.pure rfl rfl rfl (PV.assign rfl) ?_
  refine WL.nilS ?_
  refine CW.seq ?_
  refine CW.reg ?_
  refine WL.pure rfl rfl rfl (PV.move rfl) ?_
  refine WL.op rfl (OpK.call rfl T.cf89 rfl (c_spec_l05Meets (by first | assumption | exact Rd.up (by assumption) hB | exact rdCh (by assumption) (by assumption)) (by first | assumption | (intro k9 h9; simp only [List.length_cons, List.length_nil] at h9; rcases (show k9 = 0 ∨ k9 = 1 by omega) with rfl | rfl <;> first | assumption | (exfalso; omega))) (by first | assumption | omega | (simp only [marks_len, marksB_len, marksR_len, sumL_marksS, List.length_take]; omega))) (fun rv1 w4 hR => ?_))
  obtain ⟨hXw4, v2, og2, vs3, os3, rfl, hm4, ho2, hq2, hn3, hq3, hd2_3⟩ := hR
  have hl2 := Lo.up hq2 hB
  have hd1_2 := Dj.lo ho1.ltO hq2
  have hl3 := LoI.up hq3 hB
  have hlv3 := hn3.lv
  have hd1_3 := DI.lo ho1.ltO hq3
  have hB := hB.trans hXw4
  have ho1 := ho1.up hXw4
  refine WL.pure rfl rfl rfl (PV.assign rfl) ?_
  refine WL.nilS ?_
  refine CW.seq ?_
  refine CW.seq ?_
  refine CW.reg ?_
  refine WL.pure rfl rfl rfl (PV.move rfl) ?_
  refine WL.pure rfl rfl rfl ((PV.lenOsn rfl ho2 T.sl98)) ?_
  refine WL.pure rfl rfl rfl (PV.move rfl) ?_
  refine WL.nilS ?_
  refine CW.block ?_
  have hlt1 := ho1.ltO
  have hlt2 := ho2.ltO
  have hlt3 := hn3.ltO
  refine CW.loop (σk := [(0, _), (2, _), (9, _), (31, _)]) (fun ρ wz m => ∃ (v5 : Value) (og5 : Option Nat) (k : Nat), ρ = [(8, v5), (32, .int .i64 (k : Nat))] ∧ m = (ov1 cs cs.length).length - k ∧ UpdL [(some g1)] w4 wz ∧ Osl VV wz og5 v5 (sel (lsP cs mo.toNat) (.slice none 0 0) (vs3.map fM) k) ∧ OgR w4 (some g1) og5 ∧ (k ≤ (ov1 cs cs.length).length) ∧ (∀ j : Nat, j < k → lsO cs mo.toNat j = true)) (ρ₀ := [(8, _), (32, _)]) (m₀ := _) ⟨rfl, rfl, rfl, rfl, rfl, rfl, trivial⟩ ⟨v1, (some g1), 0, rfl, rfl, (UpdL.refl _ _), osE ho1 (by exact sel_zero _ _ _), OgR.refl _ _, (by first | omega | rfl | (simp; done) | assumption | (simp_all; done)), (by intro j h; omega)⟩ ?_
  rintro _ wl1 _ ⟨v5, og5, k, rfl, rfl, hU0, ho5, ha5, hk, he⟩
  have ho2 := ho2.loop hU0 ⟨(Dj.symm hd1_2), trivial⟩
  have hn3 := hn3.loop hU0 ⟨hd1_3, trivial⟩
  have hl5 := Lo.ogr hl1 hB ha5
  have hg0_5 := ha5
  have hk0_5 : OkB [(some g1)] w4 og5 := OkB.ogr (OkB.mem (by simp)) (Nat.le_refl _) ha5
  have hd2_5 := Dj.ogr (Dj.symm hd1_2) hlt2 ha5
  have hd3_5 := DI.ogr hd1_3 hlt3 ha5
  have hB := hB.loop hU0 ⟨hl1, trivial⟩
  have hvl := hm4.1; have hsl := sel_len (lsP cs mo.toNat) (.slice none 0 0) (vs3.map fM) k; obtain ⟨t, htk⟩ : ∃ t, t = (ov1 cs cs.length).getD k (0, 0, 0) := ⟨_, rfl⟩
  refine CW.seq ?_
  refine CW.reg ?_
  refine WL.pure rfl rfl rfl (PV.lss rfl rfl) ?_
  refine WL.nilS ?_
  refine CW.seq ?_
  refine CW.cond rfl (fun hc3 => ?_) (fun hc3 => ?_)
  · skip
    try simp only [decide_eq_true_eq, decide_eq_false_iff_not, Bool.not_eq_true', Bool.not_eq_false', Bool.not_eq_eq_eq_not, Bool.not_true, Bool.not_false, Int.not_lt, Int.not_le, Classical.not_not, beq_iff_eq, beq_eq_false_iff_ne] at hc3
    refine CW.skipS ?_
    refine CW.seq ?_
    refine CW.block ?_
    refine CW.seq ?_
    refine CW.reg ?_
    have ht3 : okT3 cs t := (by rw [htk]; exact ov1_get (by omega)); have ht31 : t.1 < cs.length := ht3.1; have ht32 : t.2.1 < cs.length := ht3.2.1; have hta := hoks t.1 ht3.1; have htb := hoks t.2.1 ht3.2.1; have hta1 := hta.2.1; have htb1 := htb.2.1; have hta2 := hta.2.2.1; have htb2 := htb.2.2.1; have hwl := ovW_lenT ht3; have hpa : (patL cs t.1).length = (cs.getD t.1 d4).2.1.length := rfl; have hpb9 : (patL cs t.2.1).length = (cs.getD t.2.1 d4).2.1.length := rfl; have ht33 := ht3.2.2; have hwa := ovW_at hoks (k := k) (by omega); rw [← htk] at hwa; have hat : ((ovW cs t).length : Int) - ((cs.getD t.2.1 d4).2.1.length : Int) = ((patL cs t.1).length : Int) - (t.2.2 : Nat) := (by omega); have hp1 := put_len (c := cs.getD t.1 d4) (wd := ovW cs t) (a := 0) (by omega) (by omega); have hp2 := put_len (c := cs.getD t.2.1 d4) (wd := ovW cs t) (a := ((patL cs t.1).length : Int) - (t.2.2 : Nat)) (by omega) (by omega); have hx1 : (putL (cs.getD t.1 d4) (ovW cs t) 0).length ≤ 24 := (by omega); have hx2 : (putL (cs.getD t.2.1 d4) (ovW cs t) (((patL cs t.1).length : Int) - (t.2.2 : Nat))).length ≤ 24 := (by omega); have hqt := hm4.2 k (by omega); rw [← htk] at hqt
    have hwk := rdE (fM_rd (k := k) hn3 (by rw [List.length_map]; omega)) hwa.1
    refine WL.pure rfl rfl rfl (PV.move rfl) ?_
    refine WL.pure rfl rfl rfl (PV.assign rfl) ?_
    refine WL.nilS ?_
    refine CW.seq ?_
    refine CW.reg ?_
    refine WL.pure rfl rfl rfl (PV.move rfl) ?_
    refine WL.pure rfl rfl rfl (PV.move rfl) ?_
    have hrdp1 := ho2.rd
    first
      | refine WL.at (x := .tmp 35) (y := .tmp 36) (E := (EG 4 gM gM_ok)) (nM) rfl rfl hrdp1 (by first | omega | (simp only [List.length_set]; omega) | (simp only [List.length_append, List.length_take, List.length_replicate, List.length_drop]; omega)) (fun p1 csp1 hpp1 hcp1 hq => ?_)
      | refine WL.atZ (x := .tmp 35) (y := .tmp 36) (E := (EG 4 gM gM_ok)) (nM) rfl rfl hrdp1 (by first | omega | (simp only [List.length_set]; omega) | (simp only [List.length_append, List.length_take, List.length_replicate, List.length_drop]; omega)) (fun p1 csp1 hpp1 hzp1 hcp1 hq => ?_)
    cases hq
    refine WL.pure rfl rfl rfl ((by first | exact PV.indexAddr hpp1 rfl rfl T.sl98 | exact PV.indexAddr hpp1 rfl (by rw [← hzp1]; rfl) T.sl98)) ?_
    have hwk := rdE (fM_rd (k := k) hn3 (by rw [List.length_map]; omega)) hwa.1
    have hcp1 := gM_cells (Osn.cellsEP ho2 hpp1 (by omega) nM) hqt
    refine WL.pure rfl rfl rfl (PV.assign rfl) ?_
    refine WL.nilS ?_
    refine CW.seq ?_
    refine CW.draw T.mixed (by kernel_rfl) (fun _ _ _ _ _ h => h) (fun w8 w9 => Upd none w8 w9) 32 (.take 0 (.take 1 (.take 2 (.take 3 (.take 4 (.take 5 (.take 6 (.take 7 (.take 8 (.take 9 (.take 10 (.take 11 (.take 12 (.take 13 (.take 14 (.take 15 (.take 16 (.take 17 (.take 18 (.take 19 (.take 20 (.take 21 (.take 23 (.must 22 (.must 24 (.take 25 (.take 26 (.take 27 (.take 28 (.take 29 (.take 30 (.take 31 .done)))))))))))))))))))))))))))))))) (by kernel_rfl) (fun w5 hXd => ?_)
    have hB := hB.trans hXd
    have ho2 := ho2.up hXd
    have hn3 := hn3.up hXd
    have ho5 := ho5.up hXd
    have hU0 := hU0.ext hXd
    have hBr := hB
    have hS : Upd none w5 w5 := Ext.toUpd (Ext.refl _)
    have hwk := rdE (fM_rd (k := k) hn3 (by rw [List.length_map]; omega)) hwa.1
    have hcp1 := gM_cells (Osn.cellsEP ho2 hpp1 (by omega) nM) hqt
    refine HP.take rfl rfl rfl rfl hS (fun wS hS1 => PV.move rfl) ?_
    refine HP.take rfl rfl rfl rfl hS (fun wS hS1 => PV.move rfl) ?_
    refine HP.take rfl rfl rfl rfl hS (fun wS hS1 => PV.nilCheck rfl) ?_
    refine HP.take rfl rfl rfl rfl hS (fun wS hS1 => (by first | exact PV.fieldAddr T.fl102_0 rfl (by first | assumption | exact Bx.cells (by assumption)) | exact PV.fieldAddrP T.fl102_0 rfl rfl)) ?_
    refine HP.take rfl rfl rfl rfl hS (fun wS hS1 => (by first | exact PV.load0 T.na26 rfl (by first | exact Cells.up (by assumption) (hBr.trans hS1) | exact Bx.cells (Bx.updD (by assumption) hS1 (Dj.nlR _)) | exact Cells.upd (by assumption) hS1 (by simp)) (Ext.refl _) rfl | exact PV.load1 T.na26 rfl (by first | exact Cells.up (by assumption) (hBr.trans hS1) | exact Bx.cells (Bx.updD (by assumption) hS1 (Dj.nlR _)) | exact Cells.upd (by assumption) hS1 (by simp)) (Ext.refl _) rfl)) ?_
    refine HP.take rfl rfl rfl rfl hS (fun wS hS1 => PV.move rfl) ?_
    refine HP.take rfl rfl rfl rfl hS (fun wS hS1 => PV.move rfl) ?_
    refine HP.take rfl rfl rfl rfl hS (fun wS hS1 => PV.nilCheck rfl) ?_
    refine HP.take rfl rfl rfl rfl hS (fun wS hS1 => (by first | exact PV.fieldAddr T.fl102_2 rfl (by first | assumption | exact Bx.cells (by assumption)) | exact PV.fieldAddrP T.fl102_2 rfl rfl)) ?_
    refine HP.take rfl rfl rfl rfl hS (fun wS hS1 => (by first | exact PV.load0 T.na3 rfl (by first | exact Cells.up (by assumption) (hBr.trans hS1) | exact Bx.cells (Bx.updD (by assumption) hS1 (Dj.nlR _)) | exact Cells.upd (by assumption) hS1 (by simp)) (Ext.refl _) rfl | exact PV.load1 T.na3 rfl (by first | exact Cells.up (by assumption) (hBr.trans hS1) | exact Bx.cells (Bx.updD (by assumption) hS1 (Dj.nlR _)) | exact Cells.upd (by assumption) hS1 (by simp)) (Ext.refl _) rfl)) ?_
    first
      | refine HP.at (x := .tmp 44) (y := .tmp 48) (E := ECh) (d4) rfl rfl (by first | assumption | exact Inn.rd (by assumption) (by omega)) (by first | omega | (simp only [List.length_set]; omega) | (simp only [List.length_append, List.length_take, List.length_replicate, List.length_drop]; omega)) (fun p2 csp2 hpp2 hcp2 hq => ?_)
      | refine HP.atZ (x := .tmp 44) (y := .tmp 48) (E := ECh) (d4) rfl rfl (by first | assumption | exact Inn.rd (by assumption) (by omega)) (by first | omega | (simp only [List.length_set]; omega) | (simp only [List.length_append, List.length_take, List.length_replicate, List.length_drop]; omega)) (fun p2 csp2 hpp2 hzp2 hcp2 hq => ?_)
    obtain ⟨vq0, vq1, vq2, vq3, rfl, hq0, hq1, hq2, hq3⟩ := ECh.parts hq
    refine HP.take rfl rfl rfl rfl hS (fun wS hS1 => (by first | exact PV.indexAddr hpp2 rfl rfl T.sl46 | exact PV.indexAddr hpp2 rfl (by rw [← hzp2]; rfl) T.sl46)) ?_
    refine HP.take rfl rfl rfl rfl hS (fun wS hS1 => (by first | exact PV.fieldAddr T.fl58_1 rfl (by first | assumption | exact Bx.cells (by assumption)) | exact PV.fieldAddrP T.fl58_1 rfl rfl)) ?_
    refine HP.take rfl rfl rfl rfl hS (fun wS hS1 => (by first | exact PV.load0 T.na26 rfl (by first | exact Cells.up (by assumption) (hBr.trans hS1) | exact Bx.cells (Bx.updD (by assumption) hS1 (Dj.nlR _)) | exact Cells.upd (by assumption) hS1 (by simp)) (Ext.refl _) rfl | exact PV.load1 T.na26 rfl (by first | exact Cells.up (by assumption) (hBr.trans hS1) | exact Bx.cells (Bx.updD (by assumption) hS1 (Dj.nlR _)) | exact Cells.upd (by assumption) hS1 (by simp)) (Ext.refl _) rfl)) ?_
    refine HP.take rfl rfl rfl rfl hS (fun wS hS1 => (by first | exact PV.len rfl (by assumption) T.sl26 | exact PV.lenOs rfl (by assumption) T.sl26 | exact PV.len rfl (NL.rd (by assumption)) T.sl26 | exact PV.len rfl (Inn.rd (by assumption) (by omega)) T.sl26)) ?_
    refine HP.take rfl rfl rfl rfl hS (fun wS hS1 => PV.move rfl) ?_
    refine HP.take rfl rfl rfl rfl hS (fun wS hS1 => PV.move rfl) ?_
    refine HP.take rfl rfl rfl rfl hS (fun wS hS1 => PV.nilCheck rfl) ?_
    refine HP.take rfl rfl rfl rfl hS (fun wS hS1 => (by first | exact PV.fieldAddr T.fl102_2 rfl (by first | assumption | exact Bx.cells (by assumption)) | exact PV.fieldAddrP T.fl102_2 rfl rfl)) ?_
    refine HP.take rfl rfl rfl rfl hS (fun wS hS1 => (by first | exact PV.load0 T.na3 rfl (by first | exact Cells.up (by assumption) (hBr.trans hS1) | exact Bx.cells (Bx.updD (by assumption) hS1 (Dj.nlR _)) | exact Cells.upd (by assumption) hS1 (by simp)) (Ext.refl _) rfl | exact PV.load1 T.na3 rfl (by first | exact Cells.up (by assumption) (hBr.trans hS1) | exact Bx.cells (Bx.updD (by assumption) hS1 (Dj.nlR _)) | exact Cells.upd (by assumption) hS1 (by simp)) (Ext.refl _) rfl)) ?_
    first
      | refine HP.at (x := .tmp 53) (y := .tmp 57) (E := ECh) (d4) rfl rfl (by first | assumption | exact Inn.rd (by assumption) (by omega)) (by first | omega | (simp only [List.length_set]; omega) | (simp only [List.length_append, List.length_take, List.length_replicate, List.length_drop]; omega)) (fun p3 csp3 hpp3 hcp3 hq => ?_)
      | refine HP.atZ (x := .tmp 53) (y := .tmp 57) (E := ECh) (d4) rfl rfl (by first | assumption | exact Inn.rd (by assumption) (by omega)) (by first | omega | (simp only [List.length_set]; omega) | (simp only [List.length_append, List.length_take, List.length_replicate, List.length_drop]; omega)) (fun p3 csp3 hpp3 hzp3 hcp3 hq => ?_)
    obtain ⟨vq0, vq1, vq2, vq3, rfl, hq0, hq1, hq2, hq3⟩ := ECh.parts hq
    refine HP.take rfl rfl rfl rfl hS (fun wS hS1 => (by first | exact PV.indexAddr hpp3 rfl rfl T.sl46 | exact PV.indexAddr hpp3 rfl (by rw [← hzp3]; rfl) T.sl46)) ?_
    refine HP.take rfl rfl rfl rfl hS (fun wS hS1 => (by first | exact PV.fieldAddr T.fl58_2 rfl (by first | assumption | exact Bx.cells (by assumption)) | exact PV.fieldAddrP T.fl58_2 rfl rfl)) ?_
    refine HP.take rfl rfl rfl rfl hS (fun wS hS1 => (by first | exact PV.load0 T.na26 rfl (by first | exact Cells.up (by assumption) (hBr.trans hS1) | exact Bx.cells (Bx.updD (by assumption) hS1 (Dj.nlR _)) | exact Cells.upd (by assumption) hS1 (by simp)) (Ext.refl _) rfl | exact PV.load1 T.na26 rfl (by first | exact Cells.up (by assumption) (hBr.trans hS1) | exact Bx.cells (Bx.updD (by assumption) hS1 (Dj.nlR _)) | exact Cells.upd (by assumption) hS1 (by simp)) (Ext.refl _) rfl)) ?_
    refine HP.take rfl rfl rfl rfl hS (fun wS hS1 => PV.move rfl) ?_
    refine HP.must rfl rfl (OpK.call rfl T.cf91 rfl (c_spec_l05Put (by first | assumption | exact Rd.up (by assumption) hB | exact Osl.rd (by assumption) | exact Osn.rdR (by assumption) | exact NL.rd (by assumption) | exact rdII (by assumption) (by assumption) | exact Inn.rd (by assumption) (by omega)) (by first | assumption | exact Rd.up (by assumption) hB | exact Osl.rd (by assumption) | exact Osn.rdR (by assumption) | exact NL.rd (by assumption) | exact rdII (by assumption) (by assumption) | exact Inn.rd (by assumption) (by omega)) (by first | assumption | omega | (simp only [marks_len, marksB_len, marksR_len, sumL_marksS, List.length_take]; omega)) (by first | assumption | omega | (simp only [marks_len, marksB_len, marksR_len, sumL_marksS, List.length_take]; omega)) (by first | assumption | omega | (simp only [marks_len, marksB_len, marksR_len, sumL_marksS, List.length_take]; omega))) (fun rv2 w6 hR => ?_))
    obtain ⟨hXw6, v6, og6, rfl, ho6, hq6⟩ := hR
    have hl6 := Lo.up hq6 hB
    have hv6 := Lo.up hq6 hS
    have hd2_6 := Dj.lo ho2.ltO hq6
    have hd3_6 := DI.fresh hn3 hq6
    have hd5_6 := Dj.lo ho5.ltO hq6
    have hk0_6 := OkN.lo hU0 hq6
    have hg0_6 := OgR.lo hU0.size hq6
    refine ⟨Upd.trans hS hXw6, ?_⟩
    have hS := Upd.trans hS hXw6
    have hB := hB.trans hXw6
    have ho2 := ho2.up hXw6
    have hn3 := hn3.up hXw6
    have ho5 := ho5.up hXw6
    have hU0 := hU0.ext hXw6
    have hwk := rdE (fM_rd (k := k) hn3 (by rw [List.length_map]; omega)) hwa.1
    have hcp1 := gM_cells (Osn.cellsEP ho2 hpp1 (by omega) nM) hqt
    refine HP.must rfl rfl (OpK.call rfl T.cf90 rfl (c_spec_l05Normal (by first | assumption | exact Rd.up (by assumption) hB | exact rdCh (by assumption) (by assumption)) (by first | assumption | exact Rd.up (by assumption) hB | exact Osl.rd (by assumption) | exact Osn.rdR (by assumption) | exact NL.rd (by assumption) | exact rdII (by assumption) (by assumption) | exact Inn.rd (by assumption) (by omega)) (by first | assumption | omega | (simp only [marks_len, marksB_len, marksR_len, sumL_marksS, List.length_take]; omega)) (by first | assumption | omega | (simp only [marks_len, marksB_len, marksR_len, sumL_marksS, List.length_take]; omega)) (by first | assumption | (intro k9 h9; simp only [List.length_cons, List.length_nil] at h9; (obtain rfl : k9 = 0 := (by omega)); assumption))) (fun rv3 w7 hR => ?_))
    obtain ⟨hXw7, v7, og7, rfl, ho7, hq7⟩ := hR
    have hl7 := Lo.up hq7 hB
    have hv7 := Lo.up hq7 hS
    have hd2_7 := Dj.lo ho2.ltO hq7
    have hd3_7 := DI.fresh hn3 hq7
    have hd5_7 := Dj.lo ho5.ltO hq7
    have hd6_7 := Dj.lo ho6.ltO hq7
    have hk0_7 := OkN.lo hU0 hq7
    have hg0_7 := OgR.lo hU0.size hq7
    refine ⟨Upd.trans hS hXw7, ?_⟩
    have hS := Upd.trans hS hXw7
    have hB := hB.trans hXw7
    have ho2 := ho2.up hXw7
    have hn3 := hn3.up hXw7
    have ho5 := ho5.up hXw7
    have ho6 := ho6.up hXw7
    have hU0 := hU0.ext hXw7
    have hwk := rdE (fM_rd (k := k) hn3 (by rw [List.length_map]; omega)) hwa.1
    have hcp1 := gM_cells (Osn.cellsEP ho2 hpp1 (by omega) nM) hqt
    refine HP.take rfl rfl rfl rfl hS (fun wS hS1 => PV.move rfl) ?_
    refine HP.take rfl rfl rfl rfl hS (fun wS hS1 => PV.extract rfl rfl) ?_
    refine HP.take rfl rfl rfl rfl hS (fun wS hS1 => PV.extract rfl rfl) ?_
    refine HP.take rfl rfl rfl rfl hS (fun wS hS1 => PV.extract rfl rfl) ?_
    refine HP.take rfl rfl rfl rfl hS (fun wS hS1 => PV.assign rfl) ?_
    refine HP.take rfl rfl rfl rfl hS (fun wS hS1 => PV.assign rfl) ?_
    refine HP.take rfl rfl rfl rfl hS (fun wS hS1 => PV.assign rfl) ?_
    refine HP.doneS ?_
    refine CW.seq ?_
    refine CW.draw T.mixed (by kernel_rfl) (fun _ _ _ _ _ h => h) (fun w8 w9 => Upd none w8 w9) 36 (.take 0 (.take 1 (.take 2 (.take 3 (.take 4 (.take 5 (.take 6 (.take 7 (.take 8 (.take 9 (.take 10 (.take 11 (.take 12 (.take 13 (.take 14 (.take 15 (.take 16 (.take 17 (.take 18 (.take 19 (.take 20 (.take 21 (.take 22 (.take 23 (.take 24 (.take 25 (.take 27 (.must 26 (.must 28 (.take 29 (.take 30 (.take 31 (.take 32 (.take 33 (.take 34 (.take 35 .done)))))))))))))))))))))))))))))))))))) (by kernel_rfl) (fun w8 hXd => ?_)
    have hB := hB.trans hXd
    have ho2 := ho2.up hXd
    have hn3 := hn3.up hXd
    have ho5 := ho5.up hXd
    have ho6 := ho6.up hXd
    have ho7 := ho7.up hXd
    have hU0 := hU0.ext hXd
    have hBr := hB
    have hS : Upd none w8 w8 := Ext.toUpd (Ext.refl _)
    have hwk := rdE (fM_rd (k := k) hn3 (by rw [List.length_map]; omega)) hwa.1
    have hcp1 := gM_cells (Osn.cellsEP ho2 hpp1 (by omega) nM) hqt
    refine HP.take rfl rfl rfl rfl hS (fun wS hS1 => PV.move rfl) ?_
    refine HP.take rfl rfl rfl rfl hS (fun wS hS1 => PV.move rfl) ?_
    refine HP.take rfl rfl rfl rfl hS (fun wS hS1 => PV.nilCheck rfl) ?_
    refine HP.take rfl rfl rfl rfl hS (fun wS hS1 => (by first | exact PV.fieldAddr T.fl102_0 rfl (by first | assumption | exact Bx.cells (by assumption)) | exact PV.fieldAddrP T.fl102_0 rfl rfl)) ?_
    refine HP.take rfl rfl rfl rfl hS (fun wS hS1 => (by first | exact PV.load0 T.na26 rfl (by first | exact Cells.up (by assumption) (hBr.trans hS1) | exact Bx.cells (Bx.updD (by assumption) hS1 (Dj.nlR _)) | exact Cells.upd (by assumption) hS1 (by simp)) (Ext.refl _) rfl | exact PV.load1 T.na26 rfl (by first | exact Cells.up (by assumption) (hBr.trans hS1) | exact Bx.cells (Bx.updD (by assumption) hS1 (Dj.nlR _)) | exact Cells.upd (by assumption) hS1 (by simp)) (Ext.refl _) rfl)) ?_
    refine HP.take rfl rfl rfl rfl hS (fun wS hS1 => PV.move rfl) ?_
    refine HP.take rfl rfl rfl rfl hS (fun wS hS1 => PV.nilCheck rfl) ?_
    refine HP.take rfl rfl rfl rfl hS (fun wS hS1 => (by first | exact PV.fieldAddr T.fl102_1 rfl (by first | assumption | exact Bx.cells (by assumption)) | exact PV.fieldAddrP T.fl102_1 rfl rfl)) ?_
    refine HP.take rfl rfl rfl rfl hS (fun wS hS1 => (by first | exact PV.load0 T.na3 rfl (by first | exact Cells.up (by assumption) (hBr.trans hS1) | exact Bx.cells (Bx.updD (by assumption) hS1 (Dj.nlR _)) | exact Cells.upd (by assumption) hS1 (by simp)) (Ext.refl _) rfl | exact PV.load1 T.na3 rfl (by first | exact Cells.up (by assumption) (hBr.trans hS1) | exact Bx.cells (Bx.updD (by assumption) hS1 (Dj.nlR _)) | exact Cells.upd (by assumption) hS1 (by simp)) (Ext.refl _) rfl)) ?_
    refine HP.take rfl rfl rfl rfl hS (fun wS hS1 => PV.move rfl) ?_
    refine HP.take rfl rfl rfl rfl hS (fun wS hS1 => PV.move rfl) ?_
    refine HP.take rfl rfl rfl rfl hS (fun wS hS1 => PV.nilCheck rfl) ?_
    refine HP.take rfl rfl rfl rfl hS (fun wS hS1 => (by first | exact PV.fieldAddr T.fl102_3 rfl (by first | assumption | exact Bx.cells (by assumption)) | exact PV.fieldAddrP T.fl102_3 rfl rfl)) ?_
    refine HP.take rfl rfl rfl rfl hS (fun wS hS1 => (by first | exact PV.load0 T.na3 rfl (by first | exact Cells.up (by assumption) (hBr.trans hS1) | exact Bx.cells (Bx.updD (by assumption) hS1 (Dj.nlR _)) | exact Cells.upd (by assumption) hS1 (by simp)) (Ext.refl _) rfl | exact PV.load1 T.na3 rfl (by first | exact Cells.up (by assumption) (hBr.trans hS1) | exact Bx.cells (Bx.updD (by assumption) hS1 (Dj.nlR _)) | exact Cells.upd (by assumption) hS1 (by simp)) (Ext.refl _) rfl)) ?_
    first
      | refine HP.at (x := .tmp 77) (y := .tmp 81) (E := ECh) (d4) rfl rfl (by first | assumption | exact Inn.rd (by assumption) (by omega)) (by first | omega | (simp only [List.length_set]; omega) | (simp only [List.length_append, List.length_take, List.length_replicate, List.length_drop]; omega)) (fun p4 csp4 hpp4 hcp4 hq => ?_)
      | refine HP.atZ (x := .tmp 77) (y := .tmp 81) (E := ECh) (d4) rfl rfl (by first | assumption | exact Inn.rd (by assumption) (by omega)) (by first | omega | (simp only [List.length_set]; omega) | (simp only [List.length_append, List.length_take, List.length_replicate, List.length_drop]; omega)) (fun p4 csp4 hpp4 hzp4 hcp4 hq => ?_)
    obtain ⟨vq0, vq1, vq2, vq3, rfl, hq0, hq1, hq2, hq3⟩ := ECh.parts hq
    refine HP.take rfl rfl rfl rfl hS (fun wS hS1 => (by first | exact PV.indexAddr hpp4 rfl rfl T.sl46 | exact PV.indexAddr hpp4 rfl (by rw [← hzp4]; rfl) T.sl46)) ?_
    refine HP.take rfl rfl rfl rfl hS (fun wS hS1 => (by first | exact PV.fieldAddr T.fl58_1 rfl (by first | assumption | exact Bx.cells (by assumption)) | exact PV.fieldAddrP T.fl58_1 rfl rfl)) ?_
    refine HP.take rfl rfl rfl rfl hS (fun wS hS1 => (by first | exact PV.load0 T.na26 rfl (by first | exact Cells.up (by assumption) (hBr.trans hS1) | exact Bx.cells (Bx.updD (by assumption) hS1 (Dj.nlR _)) | exact Cells.upd (by assumption) hS1 (by simp)) (Ext.refl _) rfl | exact PV.load1 T.na26 rfl (by first | exact Cells.up (by assumption) (hBr.trans hS1) | exact Bx.cells (Bx.updD (by assumption) hS1 (Dj.nlR _)) | exact Cells.upd (by assumption) hS1 (by simp)) (Ext.refl _) rfl)) ?_
    refine HP.take rfl rfl rfl rfl hS (fun wS hS1 => (by first | exact PV.len rfl (by assumption) T.sl26 | exact PV.lenOs rfl (by assumption) T.sl26 | exact PV.len rfl (NL.rd (by assumption)) T.sl26 | exact PV.len rfl (Inn.rd (by assumption) (by omega)) T.sl26)) ?_
    refine HP.take rfl rfl rfl rfl hS (fun wS hS1 => PV.move rfl) ?_
    refine HP.take rfl rfl rfl rfl hS (fun wS hS1 => PV.move rfl) ?_
    refine HP.take rfl rfl rfl rfl hS (fun wS hS1 => PV.nilCheck rfl) ?_
    refine HP.take rfl rfl rfl rfl hS (fun wS hS1 => (by first | exact PV.fieldAddr T.fl102_3 rfl (by first | assumption | exact Bx.cells (by assumption)) | exact PV.fieldAddrP T.fl102_3 rfl rfl)) ?_
    refine HP.take rfl rfl rfl rfl hS (fun wS hS1 => (by first | exact PV.load0 T.na3 rfl (by first | exact Cells.up (by assumption) (hBr.trans hS1) | exact Bx.cells (Bx.updD (by assumption) hS1 (Dj.nlR _)) | exact Cells.upd (by assumption) hS1 (by simp)) (Ext.refl _) rfl | exact PV.load1 T.na3 rfl (by first | exact Cells.up (by assumption) (hBr.trans hS1) | exact Bx.cells (Bx.updD (by assumption) hS1 (Dj.nlR _)) | exact Cells.upd (by assumption) hS1 (by simp)) (Ext.refl _) rfl)) ?_
    first
      | refine HP.at (x := .tmp 86) (y := .tmp 90) (E := ECh) (d4) rfl rfl (by first | assumption | exact Inn.rd (by assumption) (by omega)) (by first | omega | (simp only [List.length_set]; omega) | (simp only [List.length_append, List.length_take, List.length_replicate, List.length_drop]; omega)) (fun p5 csp5 hpp5 hcp5 hq => ?_)
      | refine HP.atZ (x := .tmp 86) (y := .tmp 90) (E := ECh) (d4) rfl rfl (by first | assumption | exact Inn.rd (by assumption) (by omega)) (by first | omega | (simp only [List.length_set]; omega) | (simp only [List.length_append, List.length_take, List.length_replicate, List.length_drop]; omega)) (fun p5 csp5 hpp5 hzp5 hcp5 hq => ?_)
    obtain ⟨vq0, vq1, vq2, vq3, rfl, hq0, hq1, hq2, hq3⟩ := ECh.parts hq
    refine HP.take rfl rfl rfl rfl hS (fun wS hS1 => (by first | exact PV.indexAddr hpp5 rfl rfl T.sl46 | exact PV.indexAddr hpp5 rfl (by rw [← hzp5]; rfl) T.sl46)) ?_
    refine HP.take rfl rfl rfl rfl hS (fun wS hS1 => (by first | exact PV.fieldAddr T.fl58_2 rfl (by first | assumption | exact Bx.cells (by assumption)) | exact PV.fieldAddrP T.fl58_2 rfl rfl)) ?_
    refine HP.take rfl rfl rfl rfl hS (fun wS hS1 => (by first | exact PV.load0 T.na26 rfl (by first | exact Cells.up (by assumption) (hBr.trans hS1) | exact Bx.cells (Bx.updD (by assumption) hS1 (Dj.nlR _)) | exact Cells.upd (by assumption) hS1 (by simp)) (Ext.refl _) rfl | exact PV.load1 T.na26 rfl (by first | exact Cells.up (by assumption) (hBr.trans hS1) | exact Bx.cells (Bx.updD (by assumption) hS1 (Dj.nlR _)) | exact Cells.upd (by assumption) hS1 (by simp)) (Ext.refl _) rfl)) ?_
    refine HP.take rfl rfl rfl rfl hS (fun wS hS1 => PV.move rfl) ?_
    refine HP.must rfl rfl (OpK.call rfl T.cf91 rfl (c_spec_l05Put (by first | assumption | exact Rd.up (by assumption) hB | exact Osl.rd (by assumption) | exact Osn.rdR (by assumption) | exact NL.rd (by assumption) | exact rdII (by assumption) (by assumption) | exact Inn.rd (by assumption) (by omega)) (by first | assumption | exact Rd.up (by assumption) hB | exact Osl.rd (by assumption) | exact Osn.rdR (by assumption) | exact NL.rd (by assumption) | exact rdII (by assumption) (by assumption) | exact Inn.rd (by assumption) (by omega)) (by first | assumption | omega | (simp only [marks_len, marksB_len, marksR_len, sumL_marksS, List.length_take]; omega)) (by first | assumption | omega | (simp only [marks_len, marksB_len, marksR_len, sumL_marksS, List.length_take]; omega)) (by first | assumption | omega | (simp only [marks_len, marksB_len, marksR_len, sumL_marksS, List.length_take]; omega))) (fun rv4 w9 hR => ?_))
    obtain ⟨hXw9, v8, og8, rfl, ho8, hq8⟩ := hR
    have hl8 := Lo.up hq8 hB
    have hv8 := Lo.up hq8 hS
    have hd2_8 := Dj.lo ho2.ltO hq8
    have hd3_8 := DI.fresh hn3 hq8
    have hd5_8 := Dj.lo ho5.ltO hq8
    have hd6_8 := Dj.lo ho6.ltO hq8
    have hd7_8 := Dj.lo ho7.ltO hq8
    have hk0_8 := OkN.lo hU0 hq8
    have hg0_8 := OgR.lo hU0.size hq8
    refine ⟨Upd.trans hS hXw9, ?_⟩
    have hS := Upd.trans hS hXw9
    have hB := hB.trans hXw9
    have ho2 := ho2.up hXw9
    have hn3 := hn3.up hXw9
    have ho5 := ho5.up hXw9
    have ho6 := ho6.up hXw9
    have ho7 := ho7.up hXw9
    have hU0 := hU0.ext hXw9
    have hwk := rdE (fM_rd (k := k) hn3 (by rw [List.length_map]; omega)) hwa.1
    have hcp1 := gM_cells (Osn.cellsEP ho2 hpp1 (by omega) nM) hqt
    refine HP.must rfl rfl (OpK.call rfl T.cf90 rfl (c_spec_l05Normal (by first | assumption | exact Rd.up (by assumption) hB | exact rdCh (by assumption) (by assumption)) (by first | assumption | exact Rd.up (by assumption) hB | exact Osl.rd (by assumption) | exact Osn.rdR (by assumption) | exact NL.rd (by assumption) | exact rdII (by assumption) (by assumption) | exact Inn.rd (by assumption) (by omega)) (by first | assumption | omega | (simp only [marks_len, marksB_len, marksR_len, sumL_marksS, List.length_take]; omega)) (by first | assumption | omega | (simp only [marks_len, marksB_len, marksR_len, sumL_marksS, List.length_take]; omega)) (by first | assumption | (intro k9 h9; simp only [List.length_cons, List.length_nil] at h9; (obtain rfl : k9 = 0 := (by omega)); assumption))) (fun rv5 w10 hR => ?_))
    obtain ⟨hXw10, v9, og9, rfl, ho9, hq9⟩ := hR
    have hl9 := Lo.up hq9 hB
    have hv9 := Lo.up hq9 hS
    have hd2_9 := Dj.lo ho2.ltO hq9
    have hd3_9 := DI.fresh hn3 hq9
    have hd5_9 := Dj.lo ho5.ltO hq9
    have hd6_9 := Dj.lo ho6.ltO hq9
    have hd7_9 := Dj.lo ho7.ltO hq9
    have hd8_9 := Dj.lo ho8.ltO hq9
    have hk0_9 := OkN.lo hU0 hq9
    have hg0_9 := OgR.lo hU0.size hq9
    refine ⟨Upd.trans hS hXw10, ?_⟩
    have hS := Upd.trans hS hXw10
    have hB := hB.trans hXw10
    have ho2 := ho2.up hXw10
    have hn3 := hn3.up hXw10
    have ho5 := ho5.up hXw10
    have ho6 := ho6.up hXw10
    have ho7 := ho7.up hXw10
    have ho8 := ho8.up hXw10
    have hU0 := hU0.ext hXw10
    have hwk := rdE (fM_rd (k := k) hn3 (by rw [List.length_map]; omega)) hwa.1
    have hcp1 := gM_cells (Osn.cellsEP ho2 hpp1 (by omega) nM) hqt
    refine HP.take rfl rfl rfl rfl hS (fun wS hS1 => PV.move rfl) ?_
    refine HP.take rfl rfl rfl rfl hS (fun wS hS1 => PV.extract rfl rfl) ?_
    refine HP.take rfl rfl rfl rfl hS (fun wS hS1 => PV.extract rfl rfl) ?_
    refine HP.take rfl rfl rfl rfl hS (fun wS hS1 => PV.extract rfl rfl) ?_
    refine HP.take rfl rfl rfl rfl hS (fun wS hS1 => PV.assign rfl) ?_
    refine HP.take rfl rfl rfl rfl hS (fun wS hS1 => PV.assign rfl) ?_
    refine HP.take rfl rfl rfl rfl hS (fun wS hS1 => PV.assign rfl) ?_
    refine HP.doneS ?_
    refine CW.seq ?_
    refine CW.seq ?_
    refine CW.reg ?_
    refine WL.pure rfl rfl rfl (PV.move rfl) ?_
    refine WL.pure rfl rfl rfl (PV.not rfl) ?_
    refine WL.pure rfl rfl rfl (PV.move rfl) ?_
    refine WL.split (t := 102) rfl (fun hc4 => ?_) (fun hc4 => ?_)
    · skip
      try simp only [decide_eq_true_eq, decide_eq_false_iff_not, Bool.not_eq_true', Bool.not_eq_false', Bool.not_eq_eq_eq_not, Bool.not_true, Bool.not_false, Int.not_lt, Int.not_le, Classical.not_not, beq_iff_eq, beq_eq_false_iff_ne] at hc4
      refine WL.skip rfl rfl rfl rfl rfl ?_
      refine WL.skip rfl rfl rfl rfl rfl ?_
      refine WL.pure rfl rfl rfl (PV.pickT rfl rfl) ?_
      refine WL.nilS ?_
      refine CW.condT rfl ?_
      refine CW.seq ?_
      refine CW.reg ?_
      refine WL.pure rfl rfl rfl (PV.assign rfl) ?_
      refine WL.pure rfl rfl rfl (PV.assign rfl) ?_
      refine WL.nilS ?_
      refine CW.ret ?_
      refine RQ.then ?_
      refine RQ.block ?_
      refine RQ.then ?_
      refine RQ.then ?_
      refine RQ.block ?_
      refine RQ.then ?_
      refine RQ.r2 rfl rfl ?_
      first | (have hS : lsB cs L mo = false := (by first | exact ls_n1 (by assumption) | exact ls_n2 (by omega) | exact ls_n3 (k := k) (by omega) (lsO_n1 htk (by assumption)) | exact ls_n3 (k := k) (by omega) (lsO_n2 htk (by assumption))); exact ⟨hB, .slice none 0 0, none, [], [], tE2 rfl (bE hS.symm), Osl.nil _ _, Lo.nl _, innE (Inn.zero _) (onT_no (by rw [hS]; decide)).symm, LoI.nl _, DI.nl _⟩) | (obtain rfl : k = (ov1 cs cs.length).length := (by omega); have hS := ls_y (by assumption : plnB cs L = true) hmo2 he; exact ⟨hB, _, _, _, _, tE2 rfl (bE hS.symm), ho5, hl5, innE (Inn.sel hn3 _ (by rw [List.length_map]; exact Nat.le_refl _)) (onT_yes hS).symm, LoI.sel hl3 (by rw [hn3.lo, List.length_map]; exact Nat.le_refl _), DI.sel hd3_5 (by rw [hn3.lo, List.length_map]; exact Nat.le_refl _)⟩)
    try simp only [decide_eq_true_eq, decide_eq_false_iff_not, Bool.not_eq_true', Bool.not_eq_false', Bool.not_eq_eq_eq_not, Bool.not_true, Bool.not_false, Int.not_lt, Int.not_le, Classical.not_not, beq_iff_eq, beq_eq_false_iff_ne] at hc4
    refine WL.pureG rfl rfl rfl rfl rfl (PV.move rfl) ?_
    refine WL.pureG rfl rfl rfl rfl rfl (PV.not rfl) ?_
    refine WL.pure rfl rfl rfl (PV.pickF rfl rfl) ?_
    refine WL.nilS ?_
    refine CW.cond rfl (fun hc5 => ?_) (fun hc5 => ?_)
    · skip
      try simp only [decide_eq_true_eq, decide_eq_false_iff_not, Bool.not_eq_true', Bool.not_eq_false', Bool.not_eq_eq_eq_not, Bool.not_true, Bool.not_false, Int.not_lt, Int.not_le, Classical.not_not, beq_iff_eq, beq_eq_false_iff_ne] at hc5
      refine CW.seq ?_
      refine CW.reg ?_
      refine WL.pure rfl rfl rfl (PV.assign rfl) ?_
      refine WL.pure rfl rfl rfl (PV.assign rfl) ?_
      refine WL.nilS ?_
      refine CW.ret ?_
      refine RQ.then ?_
      refine RQ.block ?_
      refine RQ.then ?_
      refine RQ.then ?_
      refine RQ.block ?_
      refine RQ.then ?_
      refine RQ.r2 rfl rfl ?_
      first | (have hS : lsB cs L mo = false := (by first | exact ls_n1 (by assumption) | exact ls_n2 (by omega) | exact ls_n3 (k := k) (by omega) (lsO_n1 htk (by assumption)) | exact ls_n3 (k := k) (by omega) (lsO_n2 htk (by assumption))); exact ⟨hB, .slice none 0 0, none, [], [], tE2 rfl (bE hS.symm), Osl.nil _ _, Lo.nl _, innE (Inn.zero _) (onT_no (by rw [hS]; decide)).symm, LoI.nl _, DI.nl _⟩) | (obtain rfl : k = (ov1 cs cs.length).length := (by omega); have hS := ls_y (by assumption : plnB cs L = true) hmo2 he; exact ⟨hB, _, _, _, _, tE2 rfl (bE hS.symm), ho5, hl5, innE (Inn.sel hn3 _ (by rw [List.length_map]; exact Nat.le_refl _)) (onT_yes hS).symm, LoI.sel hl3 (by rw [hn3.lo, List.length_map]; exact Nat.le_refl _), DI.sel hd3_5 (by rw [hn3.lo, List.length_map]; exact Nat.le_refl _)⟩)
    try simp only [decide_eq_true_eq, decide_eq_false_iff_not, Bool.not_eq_true', Bool.not_eq_false', Bool.not_eq_eq_eq_not, Bool.not_true, Bool.not_false, Int.not_lt, Int.not_le, Classical.not_not, beq_iff_eq, beq_eq_false_iff_ne] at hc5
    refine CW.skipS ?_
    refine CW.seq ?_
    refine CW.reg ?_
    refine WL.pure rfl rfl rfl (PV.move rfl) ?_
    refine WL.pure rfl rfl rfl (PV.move rfl) ?_
    refine WL.op rfl (OpK.callR rfl T.cf92 rfl (c_spec_l00Same (by first | assumption | exact Rd.up (by assumption) hB | exact Osl.rd (by assumption) | exact Osn.rdR (by assumption) | exact NL.rd (by assumption) | exact rdII (by assumption) (by assumption) | exact Inn.rd (by assumption) (by omega)) (by first | assumption | exact Rd.up (by assumption) hB | exact Osl.rd (by assumption) | exact Osn.rdR (by assumption) | exact NL.rd (by assumption) | exact rdII (by assumption) (by assumption) | exact Inn.rd (by assumption) (by omega))) (fun w11 hXw11 => ?_))
    have hB := hB.trans hXw11
    have ho2 := ho2.up hXw11
    have hn3 := hn3.up hXw11
    have ho5 := ho5.up hXw11
    have ho6 := ho6.up hXw11
    have ho7 := ho7.up hXw11
    have ho8 := ho8.up hXw11
    have ho9 := ho9.up hXw11
    have hU0 := hU0.ext hXw11
    have hwk := rdE (fM_rd (k := k) hn3 (by rw [List.length_map]; omega)) hwa.1
    have hcp1 := gM_cells (Osn.cellsEP ho2 hpp1 (by omega) nM) hqt
    refine WL.pure rfl rfl rfl (PV.not rfl) ?_
    refine WL.nilS ?_
    refine CW.cond rfl (fun hc6 => ?_) (fun hc6 => ?_)
    · skip
      try simp only [decide_eq_true_eq, decide_eq_false_iff_not, Bool.not_eq_true', Bool.not_eq_false', Bool.not_eq_eq_eq_not, Bool.not_true, Bool.not_false, Int.not_lt, Int.not_le, Classical.not_not, beq_iff_eq, beq_eq_false_iff_ne] at hc6
      refine CW.reg ?_
      refine WL.pure rfl rfl rfl (PV.move rfl) ?_
      refine WL.pure rfl rfl rfl (PV.move rfl) ?_
      refine WL.pure rfl rfl rfl (PV.nilCheck rfl) ?_
      refine WL.pure rfl rfl rfl ((by first | exact PV.fieldAddr T.fl102_0 rfl (by first | assumption | exact Bx.cells (by assumption)) | exact PV.fieldAddrP T.fl102_0 rfl rfl)) ?_
      refine WL.pure rfl rfl rfl ((by first | exact PV.load0 T.na26 rfl (by first | exact Cells.up (by assumption) hB | exact Bx.cells (by assumption) | assumption) (Ext.refl _) rfl | exact PV.load1 T.na26 rfl (by first | exact Cells.up (by assumption) hB | exact Bx.cells (by assumption) | assumption) (Ext.refl _) rfl)) ?_
      refine WL.op rfl (OpK.buildS VV (os := [.tmp 114]) [_] rfl T.sl28 rfl rfl T.zv26 rfl (by intro z hz; first | rfl | (simp only [List.mem_cons, List.not_mem_nil, or_false] at hz; subst hz; exact (by first | exact Rd.cells1 (by assumption) | exact Osl.cells1 (by assumption) | exact Osn.cells1 (by assumption) | exact Rd.cells1 (NL.rd (by assumption)) | exact Inn.cell1 (by assumption) (by omega) | rfl))) rfl (fun v10 g10 w12 hXw12 ho10 hge10 => ?_))
      have hl10 := Lo.new hB hge10
      have hd2_10 := Dj.new ho2.ltO hge10
      have hd3_10 := DI.new hn3 hge10
      have hd5_10 := Dj.new ho5.ltO hge10
      have hd6_10 := Dj.new ho6.ltO hge10
      have hd7_10 := Dj.new ho7.ltO hge10
      have hd8_10 := Dj.new ho8.ltO hge10
      have hd9_10 := Dj.new ho9.ltO hge10
      have hk0_10 := OkN.new hU0 hge10
      have hg0_10 := OgR.new hU0.size hge10
      have hB := hB.trans hXw12
      have ho2 := ho2.up hXw12
      have hn3 := hn3.up hXw12
      have ho5 := ho5.up hXw12
      have ho6 := ho6.up hXw12
      have ho7 := ho7.up hXw12
      have ho8 := ho8.up hXw12
      have ho9 := ho9.up hXw12
      have hU0 := hU0.ext hXw12
      have hwk := rdE (fM_rd (k := k) hn3 (by rw [List.length_map]; omega)) hwa.1
      have hcp1 := gM_cells (Osn.cellsEP ho2 hpp1 (by omega) nM) hqt
      refine WL.op rfl (OpK.appendS (f := VV) rfl T.sl28 T.zv26 rfl rfl ho5 rfl (Osl.srcM ho10 (one_mem (rfl))) (by first | (simp only [List.length_cons, List.length_nil]; omega) | (simp_all; omega)) (fun v11 og11 w13 hXw13 ho11 hap11 => ?_))
      have hl11 := Lo.app hl5 hB hap11
      have hd2_11 := Dj.app hd2_5 ho2.ltO hap11
      have hd3_11 := DI.app hd3_5 hn3 hap11
      have hd6_11 := Dj.app (Dj.symm hd5_6) ho6.ltO hap11
      have hd7_11 := Dj.app (Dj.symm hd5_7) ho7.ltO hap11
      have hd8_11 := Dj.app (Dj.symm hd5_8) ho8.ltO hap11
      have hd9_11 := Dj.app (Dj.symm hd5_9) ho9.ltO hap11
      have hd10_11 := Dj.app (Dj.symm hd5_10) ho10.ltO hap11
      have hk0_11 := OkN.app hU0 hk0_5 hap11
      have hg0_11 := OgR.app hg0_5 hU0.size hap11
      have hB := hB.updL hXw13 hl5
      have ho2 := ho2.updD hXw13 hd2_5
      have hn3 := hn3.updD hXw13 hd3_5
      have ho6 := ho6.updD hXw13 (Dj.symm hd5_6)
      have ho7 := ho7.updD hXw13 (Dj.symm hd5_7)
      have ho8 := ho8.updD hXw13 (Dj.symm hd5_8)
      have ho9 := ho9.updD hXw13 (Dj.symm hd5_9)
      have ho10 := ho10.updD hXw13 (Dj.symm hd5_10)
      have hU0 := hU0.step hXw13 hk0_5
      have hwk := rdE (fM_rd (k := k) hn3 (by rw [List.length_map]; omega)) hwa.1
      have hcp1 := gM_cells (Osn.cellsEP ho2 hpp1 (by omega) nM) hqt
      refine WL.pure rfl rfl rfl (PV.assign rfl) ?_
      refine WL.nil ?_
      refine NQ.block ?_
      refine NQ.then ?_
      refine CW.reg ?_
      refine WL.pure rfl rfl rfl (PV.add rfl rfl (by constructor <;> omega)) ?_
      refine WL.pure rfl rfl rfl (PV.move rfl) ?_
      refine WL.nil ?_
      refine NQ.next (ρ := [(8, _), (32, _)]) ⟨rfl, rfl, rfl, rfl, rfl, rfl, trivial⟩ ?_
      exact ⟨_, ⟨v11, og11, k + 1, rfl, rfl, hU0, osE ho11 (by first | exact (sel_no (lsP_n htk (by assumption))) | (rw [fM_get (by omega)]; exact sel_put (lsP_y htk (by assumption)))), (by first | exact hg0_11 | exact OgR.weak hg0_11), (by first | omega | assumption | (simp_all; done) | (simp_all; omega)), (by intro j h; rcases Nat.lt_succ_iff_lt_or_eq.1 h with h | rfl; exact he j h; exact lsO_y htk (by assumption) (by assumption))⟩, by omega⟩
    try simp only [decide_eq_true_eq, decide_eq_false_iff_not, Bool.not_eq_true', Bool.not_eq_false', Bool.not_eq_eq_eq_not, Bool.not_true, Bool.not_false, Int.not_lt, Int.not_le, Classical.not_not, beq_iff_eq, beq_eq_false_iff_ne] at hc6
    refine CW.skip ?_
    refine NQ.block ?_
    refine NQ.then ?_
    refine CW.reg ?_
    refine WL.pure rfl rfl rfl (PV.add rfl rfl (by constructor <;> omega)) ?_
    refine WL.pure rfl rfl rfl (PV.move rfl) ?_
    refine WL.nil ?_
    refine NQ.next (ρ := [(8, _), (32, _)]) ⟨rfl, rfl, rfl, rfl, rfl, rfl, trivial⟩ ?_
    exact ⟨_, ⟨v5, og5, k + 1, rfl, rfl, hU0, osE ho5 (by first | exact (sel_no (lsP_n htk (by assumption))) | (rw [fM_get (by omega)]; exact sel_put (lsP_y htk (by assumption)))), (by first | exact hg0_5 | exact OgR.weak hg0_5), (by first | omega | assumption | (simp_all; done) | (simp_all; omega)), (by intro j h; rcases Nat.lt_succ_iff_lt_or_eq.1 h with h | rfl; exact he j h; exact lsO_y htk (by assumption) (by assumption))⟩, by omega⟩
  try simp only [decide_eq_true_eq, decide_eq_false_iff_not, Bool.not_eq_true', Bool.not_eq_false', Bool.not_eq_eq_eq_not, Bool.not_true, Bool.not_false, Int.not_lt, Int.not_le, Classical.not_not, beq_iff_eq, beq_eq_false_iff_ne] at hc3
  refine CW.exit ?_
  refine XQ.then ?_
  refine XQ.then ?_
  refine XQ.here ?_
  refine NQ.then ?_
  refine CW.seq ?_
  refine CW.reg ?_
  refine WL.pure rfl rfl rfl (PV.move rfl) ?_
  refine WL.pure rfl rfl rfl (PV.assign rfl) ?_
  refine WL.pure rfl rfl rfl (PV.assign rfl) ?_
  refine WL.nilS ?_
  refine CW.ret ?_
  refine RQ.r2 rfl rfl ?_
  first | (have hS : lsB cs L mo = false := (by first | exact ls_n1 (by assumption) | exact ls_n2 (by omega) | exact ls_n3 (k := k) (by omega) (lsO_n1 htk (by assumption)) | exact ls_n3 (k := k) (by omega) (lsO_n2 htk (by assumption))); exact ⟨hB, .slice none 0 0, none, [], [], tE2 rfl (bE hS.symm), Osl.nil _ _, Lo.nl _, innE (Inn.zero _) (onT_no (by rw [hS]; decide)).symm, LoI.nl _, DI.nl _⟩) | (obtain rfl : k = (ov1 cs cs.length).length := (by omega); have hS := ls_y (by assumption : plnB cs L = true) hmo2 he; exact ⟨hB, _, _, _, _, tE2 rfl (bE hS.symm), ho5, hl5, innE (Inn.sel hn3 _ (by rw [List.length_map]; exact Nat.le_refl _)) (onT_yes hS).symm, LoI.sel hl3 (by rw [hn3.lo, List.length_map]; exact Nat.le_refl _), DI.sel hd3_5 (by rw [hn3.lo, List.length_map]; exact Nat.le_refl _)⟩)
theorem c_impl_within {w : World} {n lo hi : Int} : Calls Try.prog 81 #[.int .i64 n, .int .i64 lo, .int .i64 hi] w (Ret1 (RQt (.bool (decide (lo ≤ n ∧ n ≤ hi))) w)) := by
  have hB : Ext w w := Ext.refl w
  refine callsOf (vs := [_, _, _]) Try.func81 rfl Try.ntmps81 rfl rfl ?_
  refine CW.seq ?_
  refine CW.reg ?_
  refine WL.pure rfl rfl rfl (PV.assign rfl) ?_
  refine WL.nilS ?_
  refine CW.seq ?_
  refine CW.reg ?_
  refine WL.pure rfl rfl rfl (PV.move rfl) ?_
  refine WL.pure rfl rfl rfl (PV.move rfl) ?_
  refine WL.pure rfl rfl rfl (PV.geq rfl rfl) ?_
  refine WL.pure rfl rfl rfl (PV.move rfl) ?_
  refine WL.split (t := 10) rfl (fun hc1 => ?_) (fun hc1 => ?_)
  rotate_left
  · skip
    try simp only [decide_eq_true_eq, decide_eq_false_iff_not, Bool.not_eq_true', Bool.not_eq_false', Bool.not_eq_eq_eq_not, Bool.not_true, Bool.not_false, Int.not_lt, Int.not_le, Classical.not_not, beq_iff_eq, beq_eq_false_iff_ne] at hc1
    refine WL.skip rfl rfl rfl rfl rfl ?_
    refine WL.skip rfl rfl rfl rfl rfl ?_
    refine WL.skip rfl rfl rfl rfl rfl ?_
    refine WL.pure rfl rfl rfl (PV.pickF rfl rfl) ?_
    refine WL.pure rfl rfl rfl (PV.assign rfl) ?_
    refine WL.nilS ?_
    refine CW.ret ?_
    refine RQ.r1 rfl ?_
    refine ⟨?_, hB⟩
    first | rfl | exact bT (by omega) | exact bF (by omega) | exact bD (by omega) | exact iE (by omega) | (simp_all; done) | (simp_all; omega) | (simp_all; intros; omega)
  try simp only [decide_eq_true_eq, decide_eq_false_iff_not, Bool.not_eq_true', Bool.not_eq_false', Bool.not_eq_eq_eq_not, Bool.not_true, Bool.not_false, Int.not_lt, Int.not_le, Classical.not_not, beq_iff_eq, beq_eq_false_iff_ne] at hc1
  refine WL.pureG rfl rfl rfl rfl rfl (PV.move rfl) ?_
  refine WL.pureG rfl rfl rfl rfl rfl (PV.move rfl) ?_
  refine WL.pureG rfl rfl rfl rfl rfl (PV.leq rfl rfl) ?_
  refine WL.pure rfl rfl rfl (PV.pickT rfl rfl) ?_
  refine WL.pure rfl rfl rfl (PV.assign rfl) ?_
  refine WL.nilS ?_
  refine CW.ret ?_
  refine RQ.r1 rfl ?_
  refine ⟨?_, hB⟩
  first | rfl | exact bT (by omega) | exact bF (by omega) | exact bD (by omega) | exact iE (by omega) | (simp_all; done) | (simp_all; omega) | (simp_all; intros; omega)
theorem c_impl_areWithin {w : World} {va : Value} {xs : List Int} {lo hi : Int} (ha : Rd EI w va xs) : Calls Try.prog 120 #[va, .int .i64 lo, .int .i64 hi] w (Ret1 (RQt (.bool (allIn xs lo hi)) w)) := by
  have hB : Ext w w := Ext.refl w
  have hla := ha.leI
  refine callsOf (vs := [_, _, _]) Try.func120 rfl Try.ntmps120 rfl rfl ?_
  refine CW.seq ?_
  refine CW.reg ?_
  refine WL.pure rfl rfl rfl (PV.assign rfl) ?_
  refine WL.nilS ?_
  refine CW.seq ?_
  refine CW.seq ?_
  refine CW.reg ?_
  refine WL.pure rfl rfl rfl (PV.move rfl) ?_
  refine WL.pure rfl rfl rfl ((by first | exact PV.len rfl (by assumption) T.sl26 | exact PV.lenOs rfl (by assumption) T.sl26 | exact PV.len rfl (NL.rd (by assumption)) T.sl26 | exact PV.len rfl (Inn.rd (by assumption) (by omega)) T.sl26)) ?_
  refine WL.pure rfl rfl rfl (PV.move rfl) ?_
  refine WL.nilS ?_
  refine CW.block ?_
  refine CW.loop (σk := [(1, _), (2, _), (9, _), (10, _)]) (fun ρ wz m => ∃ (k : Nat), ρ = [(11, .int .i64 (k : Nat))] ∧ m = xs.length - k ∧ UpdL [] w wz ∧ (k ≤ xs.length) ∧ (allIn (xs.take k) lo hi = true)) (ρ₀ := [(11, _)]) (m₀ := _) ⟨rfl, rfl, rfl, rfl, rfl, trivial⟩ ⟨0, rfl, rfl, (UpdL.refl _ _), (by first | omega | rfl | (simp; done) | assumption | (simp_all; done)), (by exact allIn_zero _ _ _)⟩ ?_
  rintro _ wl1 _ ⟨k, rfl, rfl, hU0, hk, he⟩
  have hB := hB.loop hU0 trivial
  refine CW.seq ?_
  refine CW.reg ?_
  refine WL.pure rfl rfl rfl (PV.lss rfl rfl) ?_
  refine WL.nilS ?_
  refine CW.seq ?_
  refine CW.cond rfl (fun hc1 => ?_) (fun hc1 => ?_)
  · skip
    try simp only [decide_eq_true_eq, decide_eq_false_iff_not, Bool.not_eq_true', Bool.not_eq_false', Bool.not_eq_eq_eq_not, Bool.not_true, Bool.not_false, Int.not_lt, Int.not_le, Classical.not_not, beq_iff_eq, beq_eq_false_iff_ne] at hc1
    refine CW.skipS ?_
    refine CW.seq ?_
    refine CW.block ?_
    refine CW.seq ?_
    refine CW.reg ?_
    first
      | refine WL.at (x := .tmp 9) (y := .tmp 11) (E := EI) (0) rfl rfl (by first | assumption | exact Inn.rd (by assumption) (by omega)) (by first | omega | (simp only [List.length_set]; omega) | (simp only [List.length_append, List.length_take, List.length_replicate, List.length_drop]; omega)) (fun p1 csp1 hpp1 hcp1 hq => ?_)
      | refine WL.atZ (x := .tmp 9) (y := .tmp 11) (E := EI) (0) rfl rfl (by first | assumption | exact Inn.rd (by assumption) (by omega)) (by first | omega | (simp only [List.length_set]; omega) | (simp only [List.length_append, List.length_take, List.length_replicate, List.length_drop]; omega)) (fun p1 csp1 hpp1 hzp1 hcp1 hq => ?_)
    cases hq
    refine WL.pure rfl rfl rfl ((by first | exact PV.indexAddr hpp1 rfl rfl T.sl26 | exact PV.indexAddr hpp1 rfl (by rw [← hzp1]; rfl) T.sl26)) ?_
    refine WL.pure rfl rfl rfl ((by first | exact PV.load0 T.na2 rfl (by first | exact Cells.up (by assumption) hB | exact Bx.cells (by assumption) | assumption) (Ext.refl _) rfl | exact PV.load1 T.na2 rfl (by first | exact Cells.up (by assumption) hB | exact Bx.cells (by assumption) | assumption) (Ext.refl _) rfl)) ?_
    refine WL.pure rfl rfl rfl (PV.assign rfl) ?_
    refine WL.nilS ?_
    refine CW.seq ?_
    refine CW.reg ?_
    refine WL.pure rfl rfl rfl (PV.move rfl) ?_
    refine WL.pure rfl rfl rfl (PV.move rfl) ?_
    refine WL.pure rfl rfl rfl (PV.move rfl) ?_
    refine WL.op rfl (OpK.callR rfl T.cf81 rfl (c_impl_within) (fun w1 hXw1 => ?_))
    have hB := hB.trans hXw1
    have hU0 := hU0.ext hXw1
    refine WL.pure rfl rfl rfl (PV.not rfl) ?_
    refine WL.nilS ?_
    refine CW.cond rfl (fun hc2 => ?_) (fun hc2 => ?_)
    · skip
      try simp only [decide_eq_true_eq, decide_eq_false_iff_not, Bool.not_eq_true', Bool.not_eq_false', Bool.not_eq_eq_eq_not, Bool.not_true, Bool.not_false, Int.not_lt, Int.not_le, Classical.not_not, beq_iff_eq, beq_eq_false_iff_ne] at hc2
      refine CW.seq ?_
      refine CW.reg ?_
      refine WL.pure rfl rfl rfl (PV.assign rfl) ?_
      refine WL.nilS ?_
      refine CW.ret ?_
      refine RQ.block ?_
      refine RQ.then ?_
      refine RQ.then ?_
      refine RQ.block ?_
      refine RQ.then ?_
      refine RQ.r1 rfl ?_
      refine ⟨?_, hB⟩
      exact bE (allIn_bad (k := k) (by omega) (by assumption)).symm
    try simp only [decide_eq_true_eq, decide_eq_false_iff_not, Bool.not_eq_true', Bool.not_eq_false', Bool.not_eq_eq_eq_not, Bool.not_true, Bool.not_false, Int.not_lt, Int.not_le, Classical.not_not, beq_iff_eq, beq_eq_false_iff_ne] at hc2
    refine CW.skip ?_
    refine NQ.block ?_
    refine NQ.then ?_
    refine CW.reg ?_
    refine WL.pure rfl rfl rfl (PV.add rfl rfl (by constructor <;> omega)) ?_
    refine WL.pure rfl rfl rfl (PV.move rfl) ?_
    refine WL.nil ?_
    refine NQ.next (ρ := [(11, _)]) ⟨rfl, rfl, rfl, rfl, rfl, trivial⟩ ?_
    exact ⟨_, ⟨k + 1, rfl, rfl, hU0, (by first | omega | assumption | (simp_all; done) | (simp_all; omega)), (by exact allIn_step (by omega) he (by assumption))⟩, by omega⟩
  try simp only [decide_eq_true_eq, decide_eq_false_iff_not, Bool.not_eq_true', Bool.not_eq_false', Bool.not_eq_eq_eq_not, Bool.not_true, Bool.not_false, Int.not_lt, Int.not_le, Classical.not_not, beq_iff_eq, beq_eq_false_iff_ne] at hc1
  refine CW.exit ?_
  refine XQ.then ?_
  refine XQ.then ?_
  refine XQ.here ?_
  refine NQ.then ?_
  refine CW.seq ?_
  refine CW.reg ?_
  refine WL.pure rfl rfl rfl (PV.assign rfl) ?_
  refine WL.nilS ?_
  refine CW.ret ?_
  refine RQ.r1 rfl ?_
  refine ⟨?_, hB⟩
  exact bE (allIn_all (k := k) (by omega) he).symm
theorem c_impl_IsLongWord {w : World} {vw : Value} {xs : List Int} {L : Int} (hw : Rd EI w vw xs) : Calls Try.prog 67 #[vw, .int .i64 L] w (Ret1 (RQt (.bool (longB xs L)) w)) := by
  have hB : Ext w w := Ext.refl w
  have hlw := hw.leI
  refine callsOf (vs := [_, _]) Try.func67 rfl Try.ntmps67 rfl rfl ?_
  refine CW.seq ?_
  refine CW.reg ?_
  refine WL.pure rfl rfl rfl (PV.assign rfl) ?_
  refine WL.nilS ?_
  refine CW.seq ?_
  refine CW.reg ?_
  refine WL.pure rfl rfl rfl (PV.move rfl) ?_
  refine WL.op rfl (OpK.callR rfl T.cf81 rfl (c_impl_within) (fun w1 hXw1 => ?_))
  have hB := hB.trans hXw1
  refine WL.pure rfl rfl rfl (PV.move rfl) ?_
  refine WL.split (t := 7) rfl (fun hc1 => ?_) (fun hc1 => ?_)
  rotate_left
  · skip
    try simp only [decide_eq_true_eq, decide_eq_false_iff_not, Bool.not_eq_true', Bool.not_eq_false', Bool.not_eq_eq_eq_not, Bool.not_true, Bool.not_false, Int.not_lt, Int.not_le, Classical.not_not, beq_iff_eq, beq_eq_false_iff_ne] at hc1
    refine WL.skip rfl rfl rfl rfl rfl ?_
    refine WL.skip rfl rfl rfl rfl rfl ?_
    refine WL.skip rfl rfl rfl rfl rfl ?_
    refine WL.pure rfl rfl rfl (PV.pickF rfl rfl) ?_
    refine WL.pure rfl rfl rfl (PV.move rfl) ?_
    refine WL.skip rfl rfl rfl rfl rfl ?_
    refine WL.skip rfl rfl rfl rfl rfl ?_
    refine WL.skip rfl rfl rfl rfl rfl ?_
    refine WL.skip rfl rfl rfl rfl rfl ?_
    refine WL.pure rfl rfl rfl (PV.pickF rfl rfl) ?_
    refine WL.pure rfl rfl rfl (PV.assign rfl) ?_
    refine WL.nilS ?_
    refine CW.ret ?_
    refine RQ.r1 rfl ?_
    refine ⟨?_, hB⟩
    simp only [longB]; first | (simp_all; done) | (simp_all; omega) | (simp_all; intros; omega)
  try simp only [decide_eq_true_eq, decide_eq_false_iff_not, Bool.not_eq_true', Bool.not_eq_false', Bool.not_eq_eq_eq_not, Bool.not_true, Bool.not_false, Int.not_lt, Int.not_le, Classical.not_not, beq_iff_eq, beq_eq_false_iff_ne] at hc1
  refine WL.pureG rfl rfl rfl rfl rfl (PV.move rfl) ?_
  refine WL.pureG rfl rfl rfl rfl rfl ((by first | exact PV.len rfl (by assumption) T.sl26 | exact PV.lenOs rfl (by assumption) T.sl26 | exact PV.len rfl (NL.rd (by assumption)) T.sl26 | exact PV.len rfl (Inn.rd (by assumption) (by omega)) T.sl26)) ?_
  refine WL.pureG rfl rfl rfl rfl rfl (PV.leq rfl rfl) ?_
  refine WL.pure rfl rfl rfl (PV.pickT rfl rfl) ?_
  refine WL.pure rfl rfl rfl (PV.move rfl) ?_
  refine WL.split (t := 12) rfl (fun hc2 => ?_) (fun hc2 => ?_)
  rotate_left
  · skip
    try simp only [decide_eq_true_eq, decide_eq_false_iff_not, Bool.not_eq_true', Bool.not_eq_false', Bool.not_eq_eq_eq_not, Bool.not_true, Bool.not_false, Int.not_lt, Int.not_le, Classical.not_not, beq_iff_eq, beq_eq_false_iff_ne] at hc2
    refine WL.skip rfl rfl rfl rfl rfl ?_
    refine WL.skip rfl rfl rfl rfl rfl ?_
    refine WL.skip rfl rfl rfl rfl rfl ?_
    refine WL.skip rfl rfl rfl rfl rfl ?_
    refine WL.pure rfl rfl rfl (PV.pickF rfl rfl) ?_
    refine WL.pure rfl rfl rfl (PV.assign rfl) ?_
    refine WL.nilS ?_
    refine CW.ret ?_
    refine RQ.r1 rfl ?_
    refine ⟨?_, hB⟩
    simp only [longB]; first | (simp_all; done) | (simp_all; omega) | (simp_all; intros; omega)
  try simp only [decide_eq_true_eq, decide_eq_false_iff_not, Bool.not_eq_true', Bool.not_eq_false', Bool.not_eq_eq_eq_not, Bool.not_true, Bool.not_false, Int.not_lt, Int.not_le, Classical.not_not, beq_iff_eq, beq_eq_false_iff_ne] at hc2
  refine WL.pureG rfl rfl rfl rfl rfl (PV.move rfl) ?_
  refine WL.pureG rfl rfl rfl rfl rfl (PV.move rfl) ?_
  refine WL.pureG rfl rfl rfl rfl rfl (PV.sub rfl rfl (by constructor <;> omega)) ?_
  refine WL.opG rfl rfl rfl (OpK.callR rfl T.cf120 rfl (c_impl_areWithin (by first | assumption | exact Rd.up (by assumption) hB | exact Osl.rd (by assumption) | exact Osn.rdR (by assumption) | exact NL.rd (by assumption) | exact rdII (by assumption) (by assumption) | exact Inn.rd (by assumption) (by omega))) (fun w2 hXw2 => ?_))
  have hB := hB.trans hXw2
  refine WL.pure rfl rfl rfl (PV.pickT rfl rfl) ?_
  refine WL.pure rfl rfl rfl (PV.assign rfl) ?_
  refine WL.nilS ?_
  refine CW.ret ?_
  refine RQ.r1 rfl ?_
  refine ⟨?_, hB⟩
  simp only [longB]; first | (simp_all; done) | (simp_all; omega) | (simp_all; intros; omega)
theorem c_impl_ValidChange {w : World} {uc0 uc1 uc2 uc3 : Value} {c : C4} {L : Int} (hch0 : Rd EI w uc0 c.1) (hch1 : Rd EI w uc1 c.2.1) (hch2 : Rd EI w uc2 c.2.2.1) (hch3 : Rd EI w uc3 c.2.2.2) : Calls Try.prog 65 #[.agg #[uc0, uc1, uc2, uc3], .int .i64 L] w (Ret1 (RQt (.bool (chB c L)) w)) := by
  have hB : Ext w w := Ext.refl w
  have hlc0 := hch0.leI; have hlc1 := hch1.leI; have hlc2 := hch2.leI; have hlc3 := hch3.leI; have hl4 : ([uc0, uc1, uc2, uc3] : List Value).length = 4 := rfl
  refine callsOf (vs := [_, _]) Try.func65 rfl Try.ntmps65 rfl rfl ?_
  refine CW.seq ?_
  refine CW.reg ?_
  refine WL.op rfl (OpK.box rfl rfl (by first | exact Rd.cells1 (by assumption) | exact Osl.cells1 (by assumption) | exact Osn.cells1 (by assumption) | exact Rd.cells1 (NL.rd (by assumption)) | exact Inn.cell1 (by assumption) (by omega) | rfl) (fun b1 w1 hXw1 hb1 hge1 => ?_))
  have hl1 := Lo.new hB hge1
  have hB := hB.trans hXw1
  refine WL.pure rfl rfl rfl (PV.assign rfl) ?_
  refine WL.nilS ?_
  refine CW.seq ?_
  refine CW.seq ?_
  refine CW.reg ?_
  refine WL.pure rfl rfl rfl ((by first | exact PV.fieldAddr T.fl58_0 rfl (by first | assumption | exact Bx.cells (by assumption)) | exact PV.fieldAddrP T.fl58_0 rfl rfl)) ?_
  refine WL.pure rfl rfl rfl ((by first | exact PV.load0 T.na26 rfl (by first | exact Cells.up (by assumption) hB | exact Bx.cells (by assumption) | assumption) (Ext.refl _) rfl | exact PV.load1 T.na26 rfl (by first | exact Cells.up (by assumption) hB | exact Bx.cells (by assumption) | assumption) (Ext.refl _) rfl)) ?_
  refine WL.pure rfl rfl rfl ((by first | exact PV.fieldAddr T.fl58_1 rfl (by first | assumption | exact Bx.cells (by assumption)) | exact PV.fieldAddrP T.fl58_1 rfl rfl)) ?_
  refine WL.pure rfl rfl rfl ((by first | exact PV.load0 T.na26 rfl (by first | exact Cells.up (by assumption) hB | exact Bx.cells (by assumption) | assumption) (Ext.refl _) rfl | exact PV.load1 T.na26 rfl (by first | exact Cells.up (by assumption) hB | exact Bx.cells (by assumption) | assumption) (Ext.refl _) rfl)) ?_
  refine WL.pure rfl rfl rfl ((by first | exact PV.fieldAddr T.fl58_2 rfl (by first | assumption | exact Bx.cells (by assumption)) | exact PV.fieldAddrP T.fl58_2 rfl rfl)) ?_
  refine WL.pure rfl rfl rfl ((by first | exact PV.load0 T.na26 rfl (by first | exact Cells.up (by assumption) hB | exact Bx.cells (by assumption) | assumption) (Ext.refl _) rfl | exact PV.load1 T.na26 rfl (by first | exact Cells.up (by assumption) hB | exact Bx.cells (by assumption) | assumption) (Ext.refl _) rfl)) ?_
  refine WL.pure rfl rfl rfl ((by first | exact PV.fieldAddr T.fl58_3 rfl (by first | assumption | exact Bx.cells (by assumption)) | exact PV.fieldAddrP T.fl58_3 rfl rfl)) ?_
  refine WL.pure rfl rfl rfl ((by first | exact PV.load0 T.na26 rfl (by first | exact Cells.up (by assumption) hB | exact Bx.cells (by assumption) | assumption) (Ext.refl _) rfl | exact PV.load1 T.na26 rfl (by first | exact Cells.up (by assumption) hB | exact Bx.cells (by assumption) | assumption) (Ext.refl _) rfl)) ?_
  refine WL.op rfl (OpK.buildS VV (os := [.tmp 8, .tmp 10, .tmp 12, .tmp 14]) [_, _, _, _] rfl T.sl28 rfl rfl T.zv26 rfl (by intro z hz; first | rfl | (simp only [List.mem_cons, List.not_mem_nil, or_false] at hz; rcases hz with hz | hz | hz | hz <;> subst hz <;> exact (by first | exact Rd.cells1 (by assumption) | exact Osl.cells1 (by assumption) | exact Osn.cells1 (by assumption) | exact Rd.cells1 (NL.rd (by assumption)) | exact Inn.cell1 (by assumption) (by omega) | rfl))) rfl (fun v2 g2 w2 hXw2 ho2 hge2 => ?_))
  have hl2 := Lo.new hB hge2
  have hd1_2 := Dj.new hb1.ltO hge2
  have hB := hB.trans hXw2
  have hb1 := hb1.up hXw2
  refine WL.pure rfl rfl rfl ((PV.lenOs rfl ho2 T.sl28)) ?_
  refine WL.pure rfl rfl rfl (PV.move rfl) ?_
  refine WL.nilS ?_
  refine CW.block ?_
  refine CW.loop (σk := [(1, _), (2, _), (15, _), (16, _)]) (fun ρ wz m => ∃ (k : Nat), ρ = [(17, .int .i64 (k : Nat))] ∧ m = 4 - k ∧ UpdL [] w2 wz ∧ (k ≤ 4) ∧ (∀ j : Nat, j < k → fourB ([c.1, c.2.1, c.2.2.1, c.2.2.2].getD j []) L = true)) (ρ₀ := [(17, _)]) (m₀ := _) ⟨rfl, rfl, rfl, rfl, rfl, trivial⟩ ⟨0, rfl, rfl, (UpdL.refl _ _), (by first | omega | rfl | (simp; done) | assumption | (simp_all; done)), (by intro j h; omega)⟩ ?_
  rintro _ wl1 _ ⟨k, rfl, rfl, hU0, hk, he⟩
  have hb1 := hb1.loop hU0 trivial
  have ho2 := ho2.loop hU0 trivial
  have hB := hB.loop hU0 trivial
  refine CW.seq ?_
  refine CW.reg ?_
  refine WL.pure rfl rfl rfl (PV.lss rfl rfl) ?_
  refine WL.nilS ?_
  refine CW.seq ?_
  refine CW.cond rfl (fun hc1 => ?_) (fun hc1 => ?_)
  · skip
    try simp only [decide_eq_true_eq, decide_eq_false_iff_not, Bool.not_eq_true', Bool.not_eq_false', Bool.not_eq_eq_eq_not, Bool.not_true, Bool.not_false, Int.not_lt, Int.not_le, Classical.not_not, beq_iff_eq, beq_eq_false_iff_ne] at hc1
    refine CW.skipS ?_
    refine CW.seq ?_
    refine CW.block ?_
    refine CW.seq ?_
    refine CW.reg ?_
    first
      | refine WL.atO (x := .tmp 15) (y := .tmp 17) (f := VV) (.slice none 0 0) rfl rfl ho2 (by first | omega | (simp only [List.length_set]; omega) | (simp only [List.length_append, List.length_take, List.length_replicate, List.length_drop]; omega)) (fun p1 hpp1 hcp1 => ?_)
      | refine WL.atOZ (x := .tmp 15) (y := .tmp 17) (f := VV) (.slice none 0 0) rfl rfl ho2 (by first | omega | (simp only [List.length_set]; omega) | (simp only [List.length_append, List.length_take, List.length_replicate, List.length_drop]; omega)) (fun p1 hpp1 hzp1 hcp1 => ?_)
    refine WL.pure rfl rfl rfl ((by first | exact PV.indexAddr hpp1 rfl rfl T.sl28 | exact PV.indexAddr hpp1 rfl (by rw [← hzp1]; rfl) T.sl28)) ?_
    refine WL.pure rfl rfl rfl ((by first | exact PV.load0 T.na26 rfl (by first | exact Cells.up (by assumption) hB | exact Bx.cells (by assumption) | assumption) (Ext.refl _) rfl | exact PV.load1 T.na26 rfl (by first | exact Cells.up (by assumption) hB | exact Bx.cells (by assumption) | assumption) (Ext.refl _) rfl)) ?_
    refine WL.pure rfl rfl rfl (PV.assign rfl) ?_
    refine WL.nilS ?_
    refine CW.seq ?_
    refine CW.reg ?_
    have hrx := rd4get hch0 hch1 hch2 hch3 (k := k) (by omega)
    refine WL.pure rfl rfl rfl (PV.move rfl) ?_
    refine WL.pure rfl rfl rfl (PV.move rfl) ?_
    refine WL.op rfl (OpK.callR rfl T.cf67 rfl (c_impl_IsLongWord (by first | assumption | exact Rd.up (by assumption) hB | exact Osl.rd (by assumption) | exact Osn.rdR (by assumption) | exact NL.rd (by assumption) | exact rdII (by assumption) (by assumption) | exact Inn.rd (by assumption) (by omega))) (fun w3 hXw3 => ?_))
    have hB := hB.trans hXw3
    have hb1 := hb1.up hXw3
    have ho2 := ho2.up hXw3
    have hU0 := hU0.ext hXw3
    refine WL.pure rfl rfl rfl (PV.not rfl) ?_
    refine WL.pure rfl rfl rfl (PV.move rfl) ?_
    refine WL.split (t := 25) rfl (fun hc2 => ?_) (fun hc2 => ?_)
    · skip
      try simp only [decide_eq_true_eq, decide_eq_false_iff_not, Bool.not_eq_true', Bool.not_eq_false', Bool.not_eq_eq_eq_not, Bool.not_true, Bool.not_false, Int.not_lt, Int.not_le, Classical.not_not, beq_iff_eq, beq_eq_false_iff_ne] at hc2
      refine WL.skip rfl rfl rfl rfl rfl ?_
      refine WL.skip rfl rfl rfl rfl rfl ?_
      refine WL.skip rfl rfl rfl rfl rfl ?_
      refine WL.pure rfl rfl rfl (PV.pickT rfl rfl) ?_
      refine WL.nilS ?_
      refine CW.condT rfl ?_
      refine CW.seq ?_
      refine CW.reg ?_
      refine WL.pure rfl rfl rfl (PV.assign rfl) ?_
      refine WL.nilS ?_
      refine CW.ret ?_
      refine RQ.block ?_
      refine RQ.then ?_
      refine RQ.then ?_
      refine RQ.block ?_
      refine RQ.then ?_
      refine RQ.r1 rfl ?_
      refine ⟨?_, hB⟩
      exact bE (chB_n (k := k) (by omega) (by simp only [fourB]; first | (rw [(by assumption : longB _ L = false)]; simp; done) | (rw [decide_eq_false (by omega)]; simp; done)))
    try simp only [decide_eq_true_eq, decide_eq_false_iff_not, Bool.not_eq_true', Bool.not_eq_false', Bool.not_eq_eq_eq_not, Bool.not_true, Bool.not_false, Int.not_lt, Int.not_le, Classical.not_not, beq_iff_eq, beq_eq_false_iff_ne] at hc2
    refine WL.pureG rfl rfl rfl rfl rfl (PV.move rfl) ?_
    refine WL.pureG rfl rfl rfl rfl rfl ((by first | exact PV.len rfl (by assumption) T.sl26 | exact PV.lenOs rfl (by assumption) T.sl26 | exact PV.len rfl (NL.rd (by assumption)) T.sl26 | exact PV.len rfl (Inn.rd (by assumption) (by omega)) T.sl26)) ?_
    refine WL.pureG rfl rfl rfl rfl rfl (PV.gtr rfl rfl) ?_
    refine WL.pure rfl rfl rfl (PV.pickF rfl rfl) ?_
    refine WL.nilS ?_
    refine CW.cond rfl (fun hc3 => ?_) (fun hc3 => ?_)
    · skip
      try simp only [decide_eq_true_eq, decide_eq_false_iff_not, Bool.not_eq_true', Bool.not_eq_false', Bool.not_eq_eq_eq_not, Bool.not_true, Bool.not_false, Int.not_lt, Int.not_le, Classical.not_not, beq_iff_eq, beq_eq_false_iff_ne] at hc3
      refine CW.seq ?_
      refine CW.reg ?_
      refine WL.pure rfl rfl rfl (PV.assign rfl) ?_
      refine WL.nilS ?_
      refine CW.ret ?_
      refine RQ.block ?_
      refine RQ.then ?_
      refine RQ.then ?_
      refine RQ.block ?_
      refine RQ.then ?_
      refine RQ.r1 rfl ?_
      refine ⟨?_, hB⟩
      exact bE (chB_n (k := k) (by omega) (by simp only [fourB]; first | (rw [(by assumption : longB _ L = false)]; simp; done) | (rw [decide_eq_false (by omega)]; simp; done)))
    try simp only [decide_eq_true_eq, decide_eq_false_iff_not, Bool.not_eq_true', Bool.not_eq_false', Bool.not_eq_eq_eq_not, Bool.not_true, Bool.not_false, Int.not_lt, Int.not_le, Classical.not_not, beq_iff_eq, beq_eq_false_iff_ne] at hc3
    refine CW.skip ?_
    refine NQ.block ?_
    refine NQ.then ?_
    refine CW.reg ?_
    refine WL.pure rfl rfl rfl (PV.add rfl rfl (by constructor <;> omega)) ?_
    refine WL.pure rfl rfl rfl (PV.move rfl) ?_
    refine WL.nil ?_
    refine NQ.next (ρ := [(17, _)]) ⟨rfl, rfl, rfl, rfl, rfl, trivial⟩ ?_
    exact ⟨_, ⟨k + 1, rfl, rfl, hU0, (by first | omega | assumption | (simp_all; done) | (simp_all; omega)), (by intro j h; rcases Nat.lt_succ_iff_lt_or_eq.1 h with h | rfl; exact he j h; simp only [fourB]; rw [(by assumption : longB _ L = true), decide_eq_true (by omega)]; rfl)⟩, by omega⟩
  try simp only [decide_eq_true_eq, decide_eq_false_iff_not, Bool.not_eq_true', Bool.not_eq_false', Bool.not_eq_eq_eq_not, Bool.not_true, Bool.not_false, Int.not_lt, Int.not_le, Classical.not_not, beq_iff_eq, beq_eq_false_iff_ne] at hc1
  refine CW.exit ?_
  refine XQ.then ?_
  refine XQ.then ?_
  refine XQ.here ?_
  refine NQ.then ?_
  refine CW.seq ?_
  refine CW.reg ?_
  refine WL.pure rfl rfl rfl ((by first | exact PV.fieldAddr T.fl58_1 rfl (by first | assumption | exact Bx.cells (by assumption)) | exact PV.fieldAddrP T.fl58_1 rfl rfl)) ?_
  refine WL.pure rfl rfl rfl ((by first | exact PV.load0 T.na26 rfl (by first | exact Cells.up (by assumption) hB | exact Bx.cells (by assumption) | assumption) (Ext.refl _) rfl | exact PV.load1 T.na26 rfl (by first | exact Cells.up (by assumption) hB | exact Bx.cells (by assumption) | assumption) (Ext.refl _) rfl)) ?_
  refine WL.pure rfl rfl rfl ((by first | exact PV.len rfl (by assumption) T.sl26 | exact PV.lenOs rfl (by assumption) T.sl26 | exact PV.len rfl (NL.rd (by assumption)) T.sl26 | exact PV.len rfl (Inn.rd (by assumption) (by omega)) T.sl26)) ?_
  refine WL.pure rfl rfl rfl (PV.gtr rfl rfl) ?_
  refine WL.pure rfl rfl rfl (PV.assign rfl) ?_
  refine WL.nilS ?_
  refine CW.ret ?_
  refine RQ.r1 rfl ?_
  refine ⟨?_, hB⟩
  exact bE (chB_e (fun j h => he j (by omega)))
theorem c_impl_areChanges {w : World} {va : Value} {cs : List C4} {L : Int} (ha : Rd ECh w va cs) : Calls Try.prog 106 #[va, .int .i64 L] w (Ret1 (RQt (.bool (listB cs L)) w)) := by
  have hB : Ext w w := Ext.refl w
  have hla := ha.leI
  refine callsOf (vs := [_, _]) Try.func106 rfl Try.ntmps106 rfl rfl ?_
  refine CW.seq ?_
  refine CW.reg ?_
  refine WL.pure rfl rfl rfl (PV.assign rfl) ?_
  refine WL.nilS ?_
  refine CW.seq ?_
  refine CW.seq ?_
  refine CW.reg ?_
  refine WL.pure rfl rfl rfl (PV.move rfl) ?_
  refine WL.pure rfl rfl rfl ((by first | exact PV.len rfl (by assumption) T.sl46 | exact PV.lenOs rfl (by assumption) T.sl46 | exact PV.len rfl (NL.rd (by assumption)) T.sl46 | exact PV.len rfl (Inn.rd (by assumption) (by omega)) T.sl46)) ?_
  refine WL.pure rfl rfl rfl (PV.move rfl) ?_
  refine WL.nilS ?_
  refine CW.block ?_
  refine CW.loop (σk := [(0, _), (1, _), (7, _), (8, _)]) (fun ρ wz m => ∃ (k : Nat), ρ = [(9, .int .i64 (k : Nat))] ∧ m = cs.length - k ∧ UpdL [] w wz ∧ (k ≤ cs.length) ∧ (∀ j : Nat, j < k → chB (cs.getD j d4) L = true)) (ρ₀ := [(9, _)]) (m₀ := _) ⟨rfl, rfl, rfl, rfl, rfl, trivial⟩ ⟨0, rfl, rfl, (UpdL.refl _ _), (by first | omega | rfl | (simp; done) | assumption | (simp_all; done)), (by intro j h; omega)⟩ ?_
  rintro _ wl1 _ ⟨k, rfl, rfl, hU0, hk, he⟩
  have hB := hB.loop hU0 trivial
  refine CW.seq ?_
  refine CW.reg ?_
  refine WL.pure rfl rfl rfl (PV.lss rfl rfl) ?_
  refine WL.nilS ?_
  refine CW.seq ?_
  refine CW.cond rfl (fun hc1 => ?_) (fun hc1 => ?_)
  · skip
    try simp only [decide_eq_true_eq, decide_eq_false_iff_not, Bool.not_eq_true', Bool.not_eq_false', Bool.not_eq_eq_eq_not, Bool.not_true, Bool.not_false, Int.not_lt, Int.not_le, Classical.not_not, beq_iff_eq, beq_eq_false_iff_ne] at hc1
    refine CW.skipS ?_
    refine CW.seq ?_
    refine CW.block ?_
    refine CW.seq ?_
    refine CW.reg ?_
    first
      | refine WL.at (x := .tmp 7) (y := .tmp 9) (E := ECh) (d4) rfl rfl (by first | assumption | exact Inn.rd (by assumption) (by omega)) (by first | omega | (simp only [List.length_set]; omega) | (simp only [List.length_append, List.length_take, List.length_replicate, List.length_drop]; omega)) (fun p1 csp1 hpp1 hcp1 hq => ?_)
      | refine WL.atZ (x := .tmp 7) (y := .tmp 9) (E := ECh) (d4) rfl rfl (by first | assumption | exact Inn.rd (by assumption) (by omega)) (by first | omega | (simp only [List.length_set]; omega) | (simp only [List.length_append, List.length_take, List.length_replicate, List.length_drop]; omega)) (fun p1 csp1 hpp1 hzp1 hcp1 hq => ?_)
    obtain ⟨vq0, vq1, vq2, vq3, rfl, hq0, hq1, hq2, hq3⟩ := ECh.parts hq
    refine WL.pure rfl rfl rfl ((by first | exact PV.indexAddr hpp1 rfl rfl T.sl46 | exact PV.indexAddr hpp1 rfl (by rw [← hzp1]; rfl) T.sl46)) ?_
    refine WL.pure rfl rfl rfl ((by first | exact PV.loadA T.ag58 rfl (by first | exact Cells.up (by assumption) hB | exact Bx.cells (by assumption) | assumption) (Ext.refl _) rfl | exact PV.loadP (ds := [_, _, _, _]) T.ag58 rfl (by first | exact Cells.up (by assumption) hB | exact Bx.cells (by assumption) | assumption) (Ext.refl _) rfl rfl)) ?_
    refine WL.op rfl (OpK.alloc rfl T.zv58 rfl (fun b1 w1 hXw1 hb1 hge1 => ?_))
    have hl1 := Lo.new hB hge1
    have hk0_1 := OkN.new hU0 hge1
    have hg0_1 := OgR.new hU0.size hge1
    have hB := hB.trans hXw1
    have hU0 := hU0.ext hXw1
    refine WL.op rfl (OpK.storeA T.sz58 rfl rfl rfl rfl (by simp [Value.oneCell'] <;> first | done | (repeat' apply And.intro) <;> first | rfl | exact Inn.one1 (by assumption) (by omega) | exact Osl.oneCell (by assumption) | exact Osn.oneCell (by assumption) | exact Rd.oneCell (by assumption) | exact Rd.oneCell (NL.rd (by assumption)) | assumption) hb1 (fun w2 hXw2 hb1 => ?_))
    have hB := hB.updL hXw2 hl1
    have hU0 := hU0.step hXw2 hk0_1
    refine WL.nilS ?_
    refine CW.seq ?_
    refine CW.reg ?_
    refine WL.pure rfl rfl rfl ((by first | exact PV.loadA T.ag58 rfl (by first | exact Cells.up (by assumption) hB | exact Bx.cells (by assumption) | assumption) (Ext.refl _) rfl | exact PV.loadP (ds := [_, _, _, _]) T.ag58 rfl (by first | exact Cells.up (by assumption) hB | exact Bx.cells (by assumption) | assumption) (Ext.refl _) rfl rfl)) ?_
    refine WL.pure rfl rfl rfl (PV.move rfl) ?_
    refine WL.op rfl (OpK.callR rfl T.cf65 rfl (c_impl_ValidChange (by first | assumption | exact Rd.up (by assumption) hB | exact Osl.rd (by assumption) | exact Osn.rdR (by assumption) | exact NL.rd (by assumption) | exact rdII (by assumption) (by assumption) | exact Inn.rd (by assumption) (by omega)) (by first | assumption | exact Rd.up (by assumption) hB | exact Osl.rd (by assumption) | exact Osn.rdR (by assumption) | exact NL.rd (by assumption) | exact rdII (by assumption) (by assumption) | exact Inn.rd (by assumption) (by omega)) (by first | assumption | exact Rd.up (by assumption) hB | exact Osl.rd (by assumption) | exact Osn.rdR (by assumption) | exact NL.rd (by assumption) | exact rdII (by assumption) (by assumption) | exact Inn.rd (by assumption) (by omega)) (by first | assumption | exact Rd.up (by assumption) hB | exact Osl.rd (by assumption) | exact Osn.rdR (by assumption) | exact NL.rd (by assumption) | exact rdII (by assumption) (by assumption) | exact Inn.rd (by assumption) (by omega))) (fun w3 hXw3 => ?_))
    have hB := hB.trans hXw3
    have hb1 := hb1.up hXw3
    have hU0 := hU0.ext hXw3
    refine WL.pure rfl rfl rfl (PV.not rfl) ?_
    refine WL.nilS ?_
    refine CW.cond rfl (fun hc2 => ?_) (fun hc2 => ?_)
    · skip
      try simp only [decide_eq_true_eq, decide_eq_false_iff_not, Bool.not_eq_true', Bool.not_eq_false', Bool.not_eq_eq_eq_not, Bool.not_true, Bool.not_false, Int.not_lt, Int.not_le, Classical.not_not, beq_iff_eq, beq_eq_false_iff_ne] at hc2
      refine CW.seq ?_
      refine CW.reg ?_
      refine WL.pure rfl rfl rfl (PV.assign rfl) ?_
      refine WL.nilS ?_
      refine CW.ret ?_
      refine RQ.block ?_
      refine RQ.then ?_
      refine RQ.then ?_
      refine RQ.block ?_
      refine RQ.then ?_
      refine RQ.r1 rfl ?_
      refine ⟨?_, hB⟩
      first | exact bE (listB_n (k := k) (by omega) (by assumption)) | exact bE (listB_e2 (by omega)) | exact bE (listB_e3 (by omega)) | exact bE (listB_e1 (fun j h => he j (by omega)) (by omega)) | exact bE (listB_y1 (fun j h => he j (by omega)) (by omega) (by omega))
    try simp only [decide_eq_true_eq, decide_eq_false_iff_not, Bool.not_eq_true', Bool.not_eq_false', Bool.not_eq_eq_eq_not, Bool.not_true, Bool.not_false, Int.not_lt, Int.not_le, Classical.not_not, beq_iff_eq, beq_eq_false_iff_ne] at hc2
    refine CW.skip ?_
    refine NQ.block ?_
    refine NQ.then ?_
    refine CW.reg ?_
    refine WL.pure rfl rfl rfl (PV.add rfl rfl (by constructor <;> omega)) ?_
    refine WL.pure rfl rfl rfl (PV.move rfl) ?_
    refine WL.nil ?_
    refine NQ.next (ρ := [(9, _)]) ⟨rfl, rfl, rfl, rfl, rfl, trivial⟩ ?_
    exact ⟨_, ⟨k + 1, rfl, rfl, hU0, (by first | omega | assumption | (simp_all; done) | (simp_all; omega)), (by intro j h; rcases Nat.lt_succ_iff_lt_or_eq.1 h with h | rfl; exact he j h; assumption)⟩, by omega⟩
  try simp only [decide_eq_true_eq, decide_eq_false_iff_not, Bool.not_eq_true', Bool.not_eq_false', Bool.not_eq_eq_eq_not, Bool.not_true, Bool.not_false, Int.not_lt, Int.not_le, Classical.not_not, beq_iff_eq, beq_eq_false_iff_ne] at hc1
  refine CW.exit ?_
  refine XQ.then ?_
  refine XQ.then ?_
  refine XQ.here ?_
  refine NQ.then ?_
  refine CW.seq ?_
  refine CW.reg ?_
  refine WL.pure rfl rfl rfl (PV.move rfl) ?_
  refine WL.pure rfl rfl rfl ((by first | exact PV.len rfl (by assumption) T.sl46 | exact PV.lenOs rfl (by assumption) T.sl46 | exact PV.len rfl (NL.rd (by assumption)) T.sl46 | exact PV.len rfl (Inn.rd (by assumption) (by omega)) T.sl46)) ?_
  refine WL.pure rfl rfl rfl (PV.leq rfl rfl) ?_
  refine WL.pure rfl rfl rfl (PV.move rfl) ?_
  refine WL.split (t := 21) rfl (fun hc3 => ?_) (fun hc3 => ?_)
  rotate_left
  · skip
    try simp only [decide_eq_true_eq, decide_eq_false_iff_not, Bool.not_eq_true', Bool.not_eq_false', Bool.not_eq_eq_eq_not, Bool.not_true, Bool.not_false, Int.not_lt, Int.not_le, Classical.not_not, beq_iff_eq, beq_eq_false_iff_ne] at hc3
    refine WL.skip rfl rfl rfl rfl rfl ?_
    refine WL.skip rfl rfl rfl rfl rfl ?_
    refine WL.pure rfl rfl rfl (PV.pickF rfl rfl) ?_
    refine WL.pure rfl rfl rfl (PV.assign rfl) ?_
    refine WL.nilS ?_
    refine CW.ret ?_
    refine RQ.r1 rfl ?_
    refine ⟨?_, hB⟩
    first | exact bE (listB_n (k := k) (by omega) (by assumption)) | exact bE (listB_e2 (by omega)) | exact bE (listB_e3 (by omega)) | exact bE (listB_e1 (fun j h => he j (by omega)) (by omega)) | exact bE (listB_y1 (fun j h => he j (by omega)) (by omega) (by omega))
  try simp only [decide_eq_true_eq, decide_eq_false_iff_not, Bool.not_eq_true', Bool.not_eq_false', Bool.not_eq_eq_eq_not, Bool.not_true, Bool.not_false, Int.not_lt, Int.not_le, Classical.not_not, beq_iff_eq, beq_eq_false_iff_ne] at hc3
  refine WL.pureG rfl rfl rfl rfl rfl (PV.move rfl) ?_
  refine WL.opG rfl rfl rfl (OpK.callR rfl T.cf81 rfl (c_impl_within) (fun w4 hXw4 => ?_))
  have hB := hB.trans hXw4
  refine WL.pure rfl rfl rfl (PV.pickT rfl rfl) ?_
  refine WL.pure rfl rfl rfl (PV.assign rfl) ?_
  refine WL.nilS ?_
  refine CW.ret ?_
  refine RQ.r1 rfl ?_
  refine ⟨?_, hB⟩
  first | exact bE (listB_n (k := k) (by omega) (by assumption)) | exact bE (listB_e2 (by omega)) | exact bE (listB_e3 (by omega)) | exact bE (listB_e1 (fun j h => he j (by omega)) (by omega)) | exact bE (listB_y1 (fun j h => he j (by omega)) (by omega) (by omega))
theorem c_impl_arePlain_1 {w : World} {uc0 uc1 uc2 uc3 : Value} {c : C4}  (hch0 : Rd EI w uc0 c.1) (hch1 : Rd EI w uc1 c.2.1) (hch2 : Rd EI w uc2 c.2.2.1) (hch3 : Rd EI w uc3 c.2.2.2) (hok : okC c) : Calls Try.prog 128 #[.agg #[uc0, uc1, uc2, uc3]] w (Ret1 (RQt (.bool (decide (0 < (c.1.length : Int) + (c.2.2.2.length : Int)))) w)) := by
  have hB : Ext w w := Ext.refl w
  have hlc0 := hch0.leI; have hlc1 := hch1.leI; have hlc2 := hch2.leI; have hlc3 := hch3.leI; have hok0 := hok.1; have hok1 := hok.2.1; have hok2 := hok.2.2.1; have hok3 := hok.2.2.2
  refine callsOf (vs := [_]) Try.func128 rfl Try.ntmps128 rfl rfl ?_
  refine CW.seq ?_
  refine CW.reg ?_
  refine WL.op rfl (OpK.box rfl rfl (by first | exact Rd.cells1 (by assumption) | exact Osl.cells1 (by assumption) | exact Osn.cells1 (by assumption) | exact Rd.cells1 (NL.rd (by assumption)) | exact Inn.cell1 (by assumption) (by omega) | rfl) (fun b1 w1 hXw1 hb1 hge1 => ?_))
  have hl1 := Lo.new hB hge1
  have hB := hB.trans hXw1
  refine WL.pure rfl rfl rfl (PV.assign rfl) ?_
  refine WL.nilS ?_
  refine CW.seq ?_
  refine CW.reg ?_
  refine WL.pure rfl rfl rfl ((by first | exact PV.fieldAddr T.fl58_0 rfl (by first | assumption | exact Bx.cells (by assumption)) | exact PV.fieldAddrP T.fl58_0 rfl rfl)) ?_
  refine WL.pure rfl rfl rfl ((by first | exact PV.load0 T.na26 rfl (by first | exact Cells.up (by assumption) hB | exact Bx.cells (by assumption) | assumption) (Ext.refl _) rfl | exact PV.load1 T.na26 rfl (by first | exact Cells.up (by assumption) hB | exact Bx.cells (by assumption) | assumption) (Ext.refl _) rfl)) ?_
  refine WL.pure rfl rfl rfl ((by first | exact PV.len rfl (by assumption) T.sl26 | exact PV.lenOs rfl (by assumption) T.sl26 | exact PV.len rfl (NL.rd (by assumption)) T.sl26 | exact PV.len rfl (Inn.rd (by assumption) (by omega)) T.sl26)) ?_
  refine WL.pure rfl rfl rfl ((by first | exact PV.fieldAddr T.fl58_3 rfl (by first | assumption | exact Bx.cells (by assumption)) | exact PV.fieldAddrP T.fl58_3 rfl rfl)) ?_
  refine WL.pure rfl rfl rfl ((by first | exact PV.load0 T.na26 rfl (by first | exact Cells.up (by assumption) hB | exact Bx.cells (by assumption) | assumption) (Ext.refl _) rfl | exact PV.load1 T.na26 rfl (by first | exact Cells.up (by assumption) hB | exact Bx.cells (by assumption) | assumption) (Ext.refl _) rfl)) ?_
  refine WL.pure rfl rfl rfl ((by first | exact PV.len rfl (by assumption) T.sl26 | exact PV.lenOs rfl (by assumption) T.sl26 | exact PV.len rfl (NL.rd (by assumption)) T.sl26 | exact PV.len rfl (Inn.rd (by assumption) (by omega)) T.sl26)) ?_
  refine WL.pure rfl rfl rfl (PV.add rfl rfl (by constructor <;> omega)) ?_
  refine WL.pure rfl rfl rfl (PV.gtr rfl rfl) ?_
  refine WL.pure rfl rfl rfl (PV.assign rfl) ?_
  refine WL.nilS ?_
  refine CW.ret ?_
  refine RQ.r1 rfl ?_
  refine ⟨?_, hB⟩
  first | rfl | exact bT (by omega) | exact bF (by omega) | exact bD (by omega) | exact iE (by omega) | (simp_all; done) | (simp_all; omega) | (simp_all; intros; omega)
theorem c_slices_Equal_int64_int64 {w : World} {va vb : Value} {xs ys : List Int} (ha : Rd EI w va xs) (hb : Rd EI w vb ys) : Calls Try.prog 97 #[va, vb] w (Ret1 (RQt (.bool (decide (xs = ys))) w)) := by
  have hB : Ext w w := Ext.refl w
  have hla := ha.leI; have hlb := hb.leI
  refine callsOf (vs := [_, _]) Try.func97 rfl Try.ntmps97 rfl rfl ?_
  refine CW.seq ?_
  refine CW.reg ?_
  refine WL.pure rfl rfl rfl (PV.assign rfl) ?_
  refine WL.nilS ?_
  refine CW.seq ?_
  refine CW.seq ?_
  refine CW.reg ?_
  refine WL.pure rfl rfl rfl (PV.move rfl) ?_
  refine WL.pure rfl rfl rfl ((by first | exact PV.len rfl (by assumption) T.sl26 | exact PV.lenOs rfl (by assumption) T.sl26 | exact PV.len rfl (NL.rd (by assumption)) T.sl26 | exact PV.len rfl (Inn.rd (by assumption) (by omega)) T.sl26)) ?_
  refine WL.pure rfl rfl rfl (PV.move rfl) ?_
  refine WL.pure rfl rfl rfl ((by first | exact PV.len rfl (by assumption) T.sl26 | exact PV.lenOs rfl (by assumption) T.sl26 | exact PV.len rfl (NL.rd (by assumption)) T.sl26 | exact PV.len rfl (Inn.rd (by assumption) (by omega)) T.sl26)) ?_
  refine WL.pure rfl rfl rfl (PV.neq rfl rfl) ?_
  refine WL.nilS ?_
  refine CW.cond rfl (fun hc1 => ?_) (fun hc1 => ?_)
  · skip
    try simp only [decide_eq_true_eq, decide_eq_false_iff_not, Bool.not_eq_true', Bool.not_eq_false', Bool.not_eq_eq_eq_not, Bool.not_true, Bool.not_false, Int.not_lt, Int.not_le, Classical.not_not, beq_iff_eq, beq_eq_false_iff_ne] at hc1
    refine CW.seq ?_
    refine CW.reg ?_
    refine WL.pure rfl rfl rfl (PV.assign rfl) ?_
    refine WL.nilS ?_
    refine CW.ret ?_
    refine RQ.then ?_
    refine RQ.r1 rfl ?_
    refine ⟨?_, hB⟩
    first | exact bT (eq_of_takes (by omega) (by omega) he) | exact bF (by rintro rfl; simp_all)
  try simp only [decide_eq_true_eq, decide_eq_false_iff_not, Bool.not_eq_true', Bool.not_eq_false', Bool.not_eq_eq_eq_not, Bool.not_true, Bool.not_false, Int.not_lt, Int.not_le, Classical.not_not, beq_iff_eq, beq_eq_false_iff_ne] at hc1
  refine CW.skipS ?_
  refine CW.seq ?_
  refine CW.seq ?_
  refine CW.reg ?_
  refine WL.pure rfl rfl rfl (PV.move rfl) ?_
  refine WL.pure rfl rfl rfl ((by first | exact PV.len rfl (by assumption) T.sl26 | exact PV.lenOs rfl (by assumption) T.sl26 | exact PV.len rfl (NL.rd (by assumption)) T.sl26 | exact PV.len rfl (Inn.rd (by assumption) (by omega)) T.sl26)) ?_
  refine WL.pure rfl rfl rfl (PV.move rfl) ?_
  refine WL.nilS ?_
  refine CW.block ?_
  refine CW.loop (σk := [(0, _), (1, _), (12, _)]) (fun ρ wz m => ∃ (k : Nat), ρ = [(13, .int .i64 (k : Nat))] ∧ m = xs.length - k ∧ UpdL [] w wz ∧ (k ≤ xs.length) ∧ (xs.take k = ys.take k)) (ρ₀ := [(13, _)]) (m₀ := _) ⟨rfl, rfl, rfl, rfl, trivial⟩ ⟨0, rfl, rfl, (UpdL.refl _ _), (by first | omega | rfl | (simp; done) | assumption | (simp_all; done)), (by first | omega | rfl | (simp; done) | assumption | (simp_all; done))⟩ ?_
  rintro _ wl1 _ ⟨k, rfl, rfl, hU0, hk, he⟩
  have hB := hB.loop hU0 trivial
  refine CW.seq ?_
  refine CW.reg ?_
  refine WL.pure rfl rfl rfl (PV.lss rfl rfl) ?_
  refine WL.nilS ?_
  refine CW.seq ?_
  refine CW.cond rfl (fun hc2 => ?_) (fun hc2 => ?_)
  · skip
    try simp only [decide_eq_true_eq, decide_eq_false_iff_not, Bool.not_eq_true', Bool.not_eq_false', Bool.not_eq_eq_eq_not, Bool.not_true, Bool.not_false, Int.not_lt, Int.not_le, Classical.not_not, beq_iff_eq, beq_eq_false_iff_ne] at hc2
    refine CW.skipS ?_
    refine CW.seq ?_
    refine CW.block ?_
    refine CW.seq ?_
    refine CW.reg ?_
    refine WL.pure rfl rfl rfl (PV.move rfl) ?_
    refine WL.pure rfl rfl rfl (PV.assign rfl) ?_
    refine WL.nilS ?_
    refine CW.seq ?_
    refine CW.draw T.mixed (by kernel_rfl) (fun _ _ _ _ _ h => h) (fun w8 w9 => Upd none w8 w9) 9 (.take 0 (.take 1 (.take 2 (.take 3 (.take 4 (.take 5 (.take 6 (.take 7 (.take 8 .done))))))))) (by kernel_rfl) (fun w1 hXd => ?_)
    have hB := hB.trans hXd
    have hU0 := hU0.ext hXd
    have hBr := hB
    have hS : Upd none w1 w1 := Ext.toUpd (Ext.refl _)
    refine HP.take rfl rfl rfl rfl hS (fun wS hS1 => PV.move rfl) ?_
    refine HP.take rfl rfl rfl rfl hS (fun wS hS1 => PV.move rfl) ?_
    first
      | refine HP.at (x := .tmp 16) (y := .tmp 17) (E := EI) (0) rfl rfl (by first | assumption | exact Inn.rd (by assumption) (by omega)) (by first | omega | (simp only [List.length_set]; omega) | (simp only [List.length_append, List.length_take, List.length_replicate, List.length_drop]; omega)) (fun p1 csp1 hpp1 hcp1 hq => ?_)
      | refine HP.atZ (x := .tmp 16) (y := .tmp 17) (E := EI) (0) rfl rfl (by first | assumption | exact Inn.rd (by assumption) (by omega)) (by first | omega | (simp only [List.length_set]; omega) | (simp only [List.length_append, List.length_take, List.length_replicate, List.length_drop]; omega)) (fun p1 csp1 hpp1 hzp1 hcp1 hq => ?_)
    cases hq
    refine HP.take rfl rfl rfl rfl hS (fun wS hS1 => (by first | exact PV.indexAddr hpp1 rfl rfl T.sl26 | exact PV.indexAddr hpp1 rfl (by rw [← hzp1]; rfl) T.sl26)) ?_
    refine HP.take rfl rfl rfl rfl hS (fun wS hS1 => (by first | exact PV.load0 T.na2 rfl (by first | exact Cells.up (by assumption) (hBr.trans hS1) | exact Bx.cells (Bx.updD (by assumption) hS1 (Dj.nlR _)) | exact Cells.upd (by assumption) hS1 (by simp)) (Ext.refl _) rfl | exact PV.load1 T.na2 rfl (by first | exact Cells.up (by assumption) (hBr.trans hS1) | exact Bx.cells (Bx.updD (by assumption) hS1 (Dj.nlR _)) | exact Cells.upd (by assumption) hS1 (by simp)) (Ext.refl _) rfl)) ?_
    refine HP.take rfl rfl rfl rfl hS (fun wS hS1 => PV.move rfl) ?_
    refine HP.take rfl rfl rfl rfl hS (fun wS hS1 => PV.move rfl) ?_
    first
      | refine HP.at (x := .tmp 20) (y := .tmp 21) (E := EI) (0) rfl rfl (by first | assumption | exact Inn.rd (by assumption) (by omega)) (by first | omega | (simp only [List.length_set]; omega) | (simp only [List.length_append, List.length_take, List.length_replicate, List.length_drop]; omega)) (fun p2 csp2 hpp2 hcp2 hq => ?_)
      | refine HP.atZ (x := .tmp 20) (y := .tmp 21) (E := EI) (0) rfl rfl (by first | assumption | exact Inn.rd (by assumption) (by omega)) (by first | omega | (simp only [List.length_set]; omega) | (simp only [List.length_append, List.length_take, List.length_replicate, List.length_drop]; omega)) (fun p2 csp2 hpp2 hzp2 hcp2 hq => ?_)
    cases hq
    refine HP.take rfl rfl rfl rfl hS (fun wS hS1 => (by first | exact PV.indexAddr hpp2 rfl rfl T.sl26 | exact PV.indexAddr hpp2 rfl (by rw [← hzp2]; rfl) T.sl26)) ?_
    refine HP.take rfl rfl rfl rfl hS (fun wS hS1 => (by first | exact PV.load0 T.na2 rfl (by first | exact Cells.up (by assumption) (hBr.trans hS1) | exact Bx.cells (Bx.updD (by assumption) hS1 (Dj.nlR _)) | exact Cells.upd (by assumption) hS1 (by simp)) (Ext.refl _) rfl | exact PV.load1 T.na2 rfl (by first | exact Cells.up (by assumption) (hBr.trans hS1) | exact Bx.cells (Bx.updD (by assumption) hS1 (Dj.nlR _)) | exact Cells.upd (by assumption) hS1 (by simp)) (Ext.refl _) rfl)) ?_
    refine HP.take rfl rfl rfl rfl hS (fun wS hS1 => PV.neq rfl rfl) ?_
    refine HP.doneS ?_
    refine CW.cond rfl (fun hc3 => ?_) (fun hc3 => ?_)
    · skip
      try simp only [decide_eq_true_eq, decide_eq_false_iff_not, Bool.not_eq_true', Bool.not_eq_false', Bool.not_eq_eq_eq_not, Bool.not_true, Bool.not_false, Int.not_lt, Int.not_le, Classical.not_not, beq_iff_eq, beq_eq_false_iff_ne] at hc3
      refine CW.seq ?_
      refine CW.reg ?_
      refine WL.pure rfl rfl rfl (PV.assign rfl) ?_
      refine WL.nilS ?_
      refine CW.ret ?_
      refine RQ.block ?_
      refine RQ.then ?_
      refine RQ.then ?_
      refine RQ.block ?_
      refine RQ.then ?_
      refine RQ.r1 rfl ?_
      refine ⟨?_, hB⟩
      first | exact bT (eq_of_takes (by omega) (by omega) he) | exact bF (by rintro rfl; simp_all)
    try simp only [decide_eq_true_eq, decide_eq_false_iff_not, Bool.not_eq_true', Bool.not_eq_false', Bool.not_eq_eq_eq_not, Bool.not_true, Bool.not_false, Int.not_lt, Int.not_le, Classical.not_not, beq_iff_eq, beq_eq_false_iff_ne] at hc3
    refine CW.skip ?_
    refine NQ.block ?_
    refine NQ.then ?_
    refine CW.reg ?_
    refine WL.pure rfl rfl rfl (PV.add rfl rfl (by constructor <;> omega)) ?_
    refine WL.pure rfl rfl rfl (PV.move rfl) ?_
    refine WL.nil ?_
    refine NQ.next (ρ := [(13, _)]) ⟨rfl, rfl, rfl, rfl, trivial⟩ ?_
    exact ⟨_, ⟨k + 1, rfl, rfl, hU0, (by first | omega | assumption | (simp_all; done) | (simp_all; omega)), (by exact take_eq_succ (by omega) (by omega) he (by assumption))⟩, by omega⟩
  try simp only [decide_eq_true_eq, decide_eq_false_iff_not, Bool.not_eq_true', Bool.not_eq_false', Bool.not_eq_eq_eq_not, Bool.not_true, Bool.not_false, Int.not_lt, Int.not_le, Classical.not_not, beq_iff_eq, beq_eq_false_iff_ne] at hc2
  refine CW.exit ?_
  refine XQ.then ?_
  refine XQ.then ?_
  refine XQ.here ?_
  refine NQ.then ?_
  refine CW.seq ?_
  refine CW.reg ?_
  refine WL.pure rfl rfl rfl (PV.assign rfl) ?_
  refine WL.nilS ?_
  refine CW.ret ?_
  refine RQ.r1 rfl ?_
  refine ⟨?_, hB⟩
  first | exact bT (eq_of_takes (by omega) (by omega) he) | exact bF (by rintro rfl; simp_all)
theorem c_impl_hasAt {w : World} {vw vp : Value} {xs ys : List Int} {a : Int}  (hw : Rd EI w vw xs) (hp : Rd EI w vp ys) (hab : -64 ≤ a ∧ a ≤ 1000000) (hpl : ys.length ≤ 1000000) : Calls Try.prog 129 #[vw, .int .i64 a, vp] w (Ret1 (RQt (.bool (thereB xs ys a)) w)) := by
  have hB : Ext w w := Ext.refl w
  have hlw := hw.leI; have hlp := hp.leI
  refine callsOf (vs := [_, _, _]) Try.func129 rfl Try.ntmps129 rfl rfl ?_
  refine CW.seq ?_
  refine CW.reg ?_
  refine WL.pure rfl rfl rfl (PV.assign rfl) ?_
  refine WL.nilS ?_
  refine CW.seq ?_
  refine CW.reg ?_
  refine WL.pure rfl rfl rfl (PV.move rfl) ?_
  refine WL.pure rfl rfl rfl (PV.geq rfl rfl) ?_
  refine WL.pure rfl rfl rfl (PV.move rfl) ?_
  refine WL.split (t := 9) rfl (fun hc1 => ?_) (fun hc1 => ?_)
  rotate_left
  · skip
    try simp only [decide_eq_true_eq, decide_eq_false_iff_not, Bool.not_eq_true', Bool.not_eq_false', Bool.not_eq_eq_eq_not, Bool.not_true, Bool.not_false, Int.not_lt, Int.not_le, Classical.not_not, beq_iff_eq, beq_eq_false_iff_ne] at hc1
    refine WL.skip rfl rfl rfl rfl rfl ?_
    refine WL.skip rfl rfl rfl rfl rfl ?_
    refine WL.skip rfl rfl rfl rfl rfl ?_
    refine WL.skip rfl rfl rfl rfl rfl ?_
    refine WL.skip rfl rfl rfl rfl rfl ?_
    refine WL.skip rfl rfl rfl rfl rfl ?_
    refine WL.skip rfl rfl rfl rfl rfl ?_
    refine WL.pure rfl rfl rfl (PV.pickF rfl rfl) ?_
    refine WL.pure rfl rfl rfl (PV.move rfl) ?_
    refine WL.skip rfl rfl rfl rfl rfl ?_
    refine WL.skip rfl rfl rfl rfl rfl ?_
    refine WL.skip rfl rfl rfl rfl rfl ?_
    refine WL.skip rfl rfl rfl rfl rfl ?_
    refine WL.skip rfl rfl rfl rfl rfl ?_
    refine WL.skip rfl rfl rfl rfl rfl ?_
    refine WL.skip rfl rfl rfl rfl rfl ?_
    refine WL.skip rfl rfl rfl rfl rfl ?_
    refine WL.skip rfl rfl rfl rfl rfl ?_
    refine WL.pure rfl rfl rfl (PV.pickF rfl rfl) ?_
    refine WL.pure rfl rfl rfl (PV.assign rfl) ?_
    refine WL.nilS ?_
    refine CW.ret ?_
    refine RQ.r1 rfl ?_
    refine ⟨?_, hB⟩
    first | exact bE (there_n1 (by omega)) | exact bE (there_n2 (by omega)) | exact bE (there_e (by omega) (by omega))
  try simp only [decide_eq_true_eq, decide_eq_false_iff_not, Bool.not_eq_true', Bool.not_eq_false', Bool.not_eq_eq_eq_not, Bool.not_true, Bool.not_false, Int.not_lt, Int.not_le, Classical.not_not, beq_iff_eq, beq_eq_false_iff_ne] at hc1
  refine WL.pureG rfl rfl rfl rfl rfl (PV.move rfl) ?_
  refine WL.pureG rfl rfl rfl rfl rfl (PV.move rfl) ?_
  refine WL.pureG rfl rfl rfl rfl rfl ((by first | exact PV.len rfl (by assumption) T.sl26 | exact PV.lenOs rfl (by assumption) T.sl26 | exact PV.len rfl (NL.rd (by assumption)) T.sl26 | exact PV.len rfl (Inn.rd (by assumption) (by omega)) T.sl26)) ?_
  refine WL.pureG rfl rfl rfl rfl rfl (PV.add rfl rfl (by constructor <;> omega)) ?_
  refine WL.pureG rfl rfl rfl rfl rfl (PV.move rfl) ?_
  refine WL.pureG rfl rfl rfl rfl rfl ((by first | exact PV.len rfl (by assumption) T.sl26 | exact PV.lenOs rfl (by assumption) T.sl26 | exact PV.len rfl (NL.rd (by assumption)) T.sl26 | exact PV.len rfl (Inn.rd (by assumption) (by omega)) T.sl26)) ?_
  refine WL.pureG rfl rfl rfl rfl rfl (PV.leq rfl rfl) ?_
  refine WL.pure rfl rfl rfl (PV.pickT rfl rfl) ?_
  refine WL.pure rfl rfl rfl (PV.move rfl) ?_
  refine WL.split (t := 18) rfl (fun hc2 => ?_) (fun hc2 => ?_)
  rotate_left
  · skip
    try simp only [decide_eq_true_eq, decide_eq_false_iff_not, Bool.not_eq_true', Bool.not_eq_false', Bool.not_eq_eq_eq_not, Bool.not_true, Bool.not_false, Int.not_lt, Int.not_le, Classical.not_not, beq_iff_eq, beq_eq_false_iff_ne] at hc2
    refine WL.skip rfl rfl rfl rfl rfl ?_
    refine WL.skip rfl rfl rfl rfl rfl ?_
    refine WL.skip rfl rfl rfl rfl rfl ?_
    refine WL.skip rfl rfl rfl rfl rfl ?_
    refine WL.skip rfl rfl rfl rfl rfl ?_
    refine WL.skip rfl rfl rfl rfl rfl ?_
    refine WL.skip rfl rfl rfl rfl rfl ?_
    refine WL.skip rfl rfl rfl rfl rfl ?_
    refine WL.skip rfl rfl rfl rfl rfl ?_
    refine WL.pure rfl rfl rfl (PV.pickF rfl rfl) ?_
    refine WL.pure rfl rfl rfl (PV.assign rfl) ?_
    refine WL.nilS ?_
    refine CW.ret ?_
    refine RQ.r1 rfl ?_
    refine ⟨?_, hB⟩
    first | exact bE (there_n1 (by omega)) | exact bE (there_n2 (by omega)) | exact bE (there_e (by omega) (by omega))
  try simp only [decide_eq_true_eq, decide_eq_false_iff_not, Bool.not_eq_true', Bool.not_eq_false', Bool.not_eq_eq_eq_not, Bool.not_true, Bool.not_false, Int.not_lt, Int.not_le, Classical.not_not, beq_iff_eq, beq_eq_false_iff_ne] at hc2
  refine WL.pureG rfl rfl rfl rfl rfl (PV.move rfl) ?_
  refine WL.pureG rfl rfl rfl rfl rfl (PV.move rfl) ?_
  refine WL.pureG rfl rfl rfl rfl rfl (PV.move rfl) ?_
  refine WL.pureG rfl rfl rfl rfl rfl (PV.move rfl) ?_
  refine WL.pureG rfl rfl rfl rfl rfl ((by first | exact PV.len rfl (by assumption) T.sl26 | exact PV.lenOs rfl (by assumption) T.sl26 | exact PV.len rfl (NL.rd (by assumption)) T.sl26 | exact PV.len rfl (Inn.rd (by assumption) (by omega)) T.sl26)) ?_
  refine WL.pureG rfl rfl rfl rfl rfl (PV.add rfl rfl (by constructor <;> omega)) ?_
  refine WL.slRLH (x := .tmp 19) (lo := .tmp 20) (hi := .tmp 24) (E := EI) T.sl26 rfl rfl rfl  (by first | assumption | exact Osl.rd (by assumption)) (by first | omega | (simp; omega) | (simp_all; omega)) (fun u1 huu1 hru1 => ?_)
  refine WL.pureG rfl rfl rfl rfl rfl ((huu1 _ _ _ _ _ _)) ?_
  refine WL.pureG rfl rfl rfl rfl rfl (PV.move rfl) ?_
  refine WL.opG rfl rfl rfl (OpK.callR rfl T.cf97 rfl (c_slices_Equal_int64_int64 (by first | assumption | exact Rd.up (by assumption) hB | exact Osl.rd (by assumption) | exact Osn.rdR (by assumption) | exact NL.rd (by assumption) | exact rdII (by assumption) (by assumption) | exact Inn.rd (by assumption) (by omega)) (by first | assumption | exact Rd.up (by assumption) hB | exact Osl.rd (by assumption) | exact Osn.rdR (by assumption) | exact NL.rd (by assumption) | exact rdII (by assumption) (by assumption) | exact Inn.rd (by assumption) (by omega))) (fun w1 hXw1 => ?_))
  have hB := hB.trans hXw1
  refine WL.pure rfl rfl rfl (PV.pickT rfl rfl) ?_
  refine WL.pure rfl rfl rfl (PV.assign rfl) ?_
  refine WL.nilS ?_
  refine CW.ret ?_
  refine RQ.r1 rfl ?_
  refine ⟨?_, hB⟩
  first | exact bE (there_n1 (by omega)) | exact bE (there_n2 (by omega)) | exact bE (there_e (by omega) (by omega))
theorem c_impl_Change_fits {w : World} {uc0 uc1 uc2 uc3 : Value} {c : C4} {vw : Value} {xs : List Int} {a : Int} (hch0 : Rd EI w uc0 c.1) (hch1 : Rd EI w uc1 c.2.1) (hch2 : Rd EI w uc2 c.2.2.1) (hch3 : Rd EI w uc3 c.2.2.2) (hw : Rd EI w vw xs) (hok : okC c) (hab : 0 ≤ a ∧ a ≤ 100000) : Calls Try.prog 115 #[.agg #[uc0, uc1, uc2, uc3], vw, .int .i64 a] w (Ret1 (RQt (.bool (fitsB c xs a)) w)) := by
  have hB : Ext w w := Ext.refl w
  have hlc0 := hch0.leI; have hlc1 := hch1.leI; have hlc2 := hch2.leI; have hlc3 := hch3.leI; have hlw := hw.leI; have hok0 := hok.1; have hok1 := hok.2.1; have hok2 := hok.2.2.1; have hok3 := hok.2.2.2
  refine callsOf (vs := [_, _, _]) Try.func115 rfl Try.ntmps115 rfl rfl ?_
  refine CW.seq ?_
  refine CW.reg ?_
  refine WL.op rfl (OpK.box rfl rfl (by first | exact Rd.cells1 (by assumption) | exact Osl.cells1 (by assumption) | exact Osn.cells1 (by assumption) | exact Rd.cells1 (NL.rd (by assumption)) | exact Inn.cell1 (by assumption) (by omega) | rfl) (fun b1 w1 hXw1 hb1 hge1 => ?_))
  have hl1 := Lo.new hB hge1
  have hB := hB.trans hXw1
  refine WL.pure rfl rfl rfl (PV.assign rfl) ?_
  refine WL.nilS ?_
  refine CW.seq ?_
  refine CW.reg ?_
  refine WL.pure rfl rfl rfl (PV.move rfl) ?_
  refine WL.pure rfl rfl rfl (PV.move rfl) ?_
  refine WL.pure rfl rfl rfl ((by first | exact PV.fieldAddr T.fl58_0 rfl (by first | assumption | exact Bx.cells (by assumption)) | exact PV.fieldAddrP T.fl58_0 rfl rfl)) ?_
  refine WL.pure rfl rfl rfl ((by first | exact PV.load0 T.na26 rfl (by first | exact Cells.up (by assumption) hB | exact Bx.cells (by assumption) | assumption) (Ext.refl _) rfl | exact PV.load1 T.na26 rfl (by first | exact Cells.up (by assumption) hB | exact Bx.cells (by assumption) | assumption) (Ext.refl _) rfl)) ?_
  refine WL.pure rfl rfl rfl ((by first | exact PV.len rfl (by assumption) T.sl26 | exact PV.lenOs rfl (by assumption) T.sl26 | exact PV.len rfl (NL.rd (by assumption)) T.sl26 | exact PV.len rfl (Inn.rd (by assumption) (by omega)) T.sl26)) ?_
  refine WL.pure rfl rfl rfl (PV.sub rfl rfl (by constructor <;> omega)) ?_
  refine WL.pure rfl rfl rfl ((by first | exact PV.fieldAddr T.fl58_0 rfl (by first | assumption | exact Bx.cells (by assumption)) | exact PV.fieldAddrP T.fl58_0 rfl rfl)) ?_
  refine WL.pure rfl rfl rfl ((by first | exact PV.load0 T.na26 rfl (by first | exact Cells.up (by assumption) hB | exact Bx.cells (by assumption) | assumption) (Ext.refl _) rfl | exact PV.load1 T.na26 rfl (by first | exact Cells.up (by assumption) hB | exact Bx.cells (by assumption) | assumption) (Ext.refl _) rfl)) ?_
  refine WL.op rfl (OpK.callR rfl T.cf129 rfl (c_impl_hasAt (by first | assumption | exact Rd.up (by assumption) hB | exact Osl.rd (by assumption) | exact Osn.rdR (by assumption) | exact NL.rd (by assumption) | exact rdII (by assumption) (by assumption) | exact Inn.rd (by assumption) (by omega)) (by first | assumption | exact Rd.up (by assumption) hB | exact Osl.rd (by assumption) | exact Osn.rdR (by assumption) | exact NL.rd (by assumption) | exact rdII (by assumption) (by assumption) | exact Inn.rd (by assumption) (by omega)) (by first | assumption | omega | (simp only [marks_len, marksB_len, marksR_len, sumL_marksS, List.length_take]; omega)) (by first | assumption | omega | (simp only [marks_len, marksB_len, marksR_len, sumL_marksS, List.length_take]; omega))) (fun w2 hXw2 => ?_))
  have hB := hB.trans hXw2
  have hb1 := hb1.up hXw2
  refine WL.pure rfl rfl rfl (PV.move rfl) ?_
  refine WL.split (t := 16) rfl (fun hc1 => ?_) (fun hc1 => ?_)
  rotate_left
  · skip
    try simp only [decide_eq_true_eq, decide_eq_false_iff_not, Bool.not_eq_true', Bool.not_eq_false', Bool.not_eq_eq_eq_not, Bool.not_true, Bool.not_false, Int.not_lt, Int.not_le, Classical.not_not, beq_iff_eq, beq_eq_false_iff_ne] at hc1
    refine WL.skip rfl rfl rfl rfl rfl ?_
    refine WL.skip rfl rfl rfl rfl rfl ?_
    refine WL.skip rfl rfl rfl rfl rfl ?_
    refine WL.skip rfl rfl rfl rfl rfl ?_
    refine WL.skip rfl rfl rfl rfl rfl ?_
    refine WL.pure rfl rfl rfl (PV.pickF rfl rfl) ?_
    refine WL.pure rfl rfl rfl (PV.move rfl) ?_
    refine WL.skip rfl rfl rfl rfl rfl ?_
    refine WL.skip rfl rfl rfl rfl rfl ?_
    refine WL.skip rfl rfl rfl rfl rfl ?_
    refine WL.skip rfl rfl rfl rfl rfl ?_
    refine WL.skip rfl rfl rfl rfl rfl ?_
    refine WL.skip rfl rfl rfl rfl rfl ?_
    refine WL.skip rfl rfl rfl rfl rfl ?_
    refine WL.skip rfl rfl rfl rfl rfl ?_
    refine WL.skip rfl rfl rfl rfl rfl ?_
    refine WL.pure rfl rfl rfl (PV.pickF rfl rfl) ?_
    refine WL.pure rfl rfl rfl (PV.assign rfl) ?_
    refine WL.nilS ?_
    refine CW.ret ?_
    refine RQ.r1 rfl ?_
    refine ⟨?_, hB⟩
    simp only [fitsB]; first | rfl | (simp_all; done)
  try simp only [decide_eq_true_eq, decide_eq_false_iff_not, Bool.not_eq_true', Bool.not_eq_false', Bool.not_eq_eq_eq_not, Bool.not_true, Bool.not_false, Int.not_lt, Int.not_le, Classical.not_not, beq_iff_eq, beq_eq_false_iff_ne] at hc1
  refine WL.pureG rfl rfl rfl rfl rfl (PV.move rfl) ?_
  refine WL.pureG rfl rfl rfl rfl rfl (PV.move rfl) ?_
  refine WL.pureG rfl rfl rfl rfl rfl ((by first | exact PV.fieldAddr T.fl58_1 rfl (by first | assumption | exact Bx.cells (by assumption)) | exact PV.fieldAddrP T.fl58_1 rfl rfl)) ?_
  refine WL.pureG rfl rfl rfl rfl rfl ((by first | exact PV.load0 T.na26 rfl (by first | exact Cells.up (by assumption) hB | exact Bx.cells (by assumption) | assumption) (Ext.refl _) rfl | exact PV.load1 T.na26 rfl (by first | exact Cells.up (by assumption) hB | exact Bx.cells (by assumption) | assumption) (Ext.refl _) rfl)) ?_
  refine WL.opG rfl rfl rfl (OpK.callR rfl T.cf129 rfl (c_impl_hasAt (by first | assumption | exact Rd.up (by assumption) hB | exact Osl.rd (by assumption) | exact Osn.rdR (by assumption) | exact NL.rd (by assumption) | exact rdII (by assumption) (by assumption) | exact Inn.rd (by assumption) (by omega)) (by first | assumption | exact Rd.up (by assumption) hB | exact Osl.rd (by assumption) | exact Osn.rdR (by assumption) | exact NL.rd (by assumption) | exact rdII (by assumption) (by assumption) | exact Inn.rd (by assumption) (by omega)) (by first | assumption | omega | (simp only [marks_len, marksB_len, marksR_len, sumL_marksS, List.length_take]; omega)) (by first | assumption | omega | (simp only [marks_len, marksB_len, marksR_len, sumL_marksS, List.length_take]; omega))) (fun w3 hXw3 => ?_))
  have hB := hB.trans hXw3
  have hb1 := hb1.up hXw3
  refine WL.pure rfl rfl rfl (PV.pickT rfl rfl) ?_
  refine WL.pure rfl rfl rfl (PV.move rfl) ?_
  refine WL.split (t := 23) rfl (fun hc2 => ?_) (fun hc2 => ?_)
  rotate_left
  · skip
    try simp only [decide_eq_true_eq, decide_eq_false_iff_not, Bool.not_eq_true', Bool.not_eq_false', Bool.not_eq_eq_eq_not, Bool.not_true, Bool.not_false, Int.not_lt, Int.not_le, Classical.not_not, beq_iff_eq, beq_eq_false_iff_ne] at hc2
    refine WL.skip rfl rfl rfl rfl rfl ?_
    refine WL.skip rfl rfl rfl rfl rfl ?_
    refine WL.skip rfl rfl rfl rfl rfl ?_
    refine WL.skip rfl rfl rfl rfl rfl ?_
    refine WL.skip rfl rfl rfl rfl rfl ?_
    refine WL.skip rfl rfl rfl rfl rfl ?_
    refine WL.skip rfl rfl rfl rfl rfl ?_
    refine WL.skip rfl rfl rfl rfl rfl ?_
    refine WL.skip rfl rfl rfl rfl rfl ?_
    refine WL.pure rfl rfl rfl (PV.pickF rfl rfl) ?_
    refine WL.pure rfl rfl rfl (PV.assign rfl) ?_
    refine WL.nilS ?_
    refine CW.ret ?_
    refine RQ.r1 rfl ?_
    refine ⟨?_, hB⟩
    simp only [fitsB]; first | rfl | (simp_all; done)
  try simp only [decide_eq_true_eq, decide_eq_false_iff_not, Bool.not_eq_true', Bool.not_eq_false', Bool.not_eq_eq_eq_not, Bool.not_true, Bool.not_false, Int.not_lt, Int.not_le, Classical.not_not, beq_iff_eq, beq_eq_false_iff_ne] at hc2
  refine WL.pureG rfl rfl rfl rfl rfl (PV.move rfl) ?_
  refine WL.pureG rfl rfl rfl rfl rfl (PV.move rfl) ?_
  refine WL.pureG rfl rfl rfl rfl rfl ((by first | exact PV.fieldAddr T.fl58_1 rfl (by first | assumption | exact Bx.cells (by assumption)) | exact PV.fieldAddrP T.fl58_1 rfl rfl)) ?_
  refine WL.pureG rfl rfl rfl rfl rfl ((by first | exact PV.load0 T.na26 rfl (by first | exact Cells.up (by assumption) hB | exact Bx.cells (by assumption) | assumption) (Ext.refl _) rfl | exact PV.load1 T.na26 rfl (by first | exact Cells.up (by assumption) hB | exact Bx.cells (by assumption) | assumption) (Ext.refl _) rfl)) ?_
  refine WL.pureG rfl rfl rfl rfl rfl ((by first | exact PV.len rfl (by assumption) T.sl26 | exact PV.lenOs rfl (by assumption) T.sl26 | exact PV.len rfl (NL.rd (by assumption)) T.sl26 | exact PV.len rfl (Inn.rd (by assumption) (by omega)) T.sl26)) ?_
  refine WL.pureG rfl rfl rfl rfl rfl (PV.add rfl rfl (by constructor <;> omega)) ?_
  refine WL.pureG rfl rfl rfl rfl rfl ((by first | exact PV.fieldAddr T.fl58_3 rfl (by first | assumption | exact Bx.cells (by assumption)) | exact PV.fieldAddrP T.fl58_3 rfl rfl)) ?_
  refine WL.pureG rfl rfl rfl rfl rfl ((by first | exact PV.load0 T.na26 rfl (by first | exact Cells.up (by assumption) hB | exact Bx.cells (by assumption) | assumption) (Ext.refl _) rfl | exact PV.load1 T.na26 rfl (by first | exact Cells.up (by assumption) hB | exact Bx.cells (by assumption) | assumption) (Ext.refl _) rfl)) ?_
  refine WL.opG rfl rfl rfl (OpK.callR rfl T.cf129 rfl (c_impl_hasAt (by first | assumption | exact Rd.up (by assumption) hB | exact Osl.rd (by assumption) | exact Osn.rdR (by assumption) | exact NL.rd (by assumption) | exact rdII (by assumption) (by assumption) | exact Inn.rd (by assumption) (by omega)) (by first | assumption | exact Rd.up (by assumption) hB | exact Osl.rd (by assumption) | exact Osn.rdR (by assumption) | exact NL.rd (by assumption) | exact rdII (by assumption) (by assumption) | exact Inn.rd (by assumption) (by omega)) (by first | assumption | omega | (simp only [marks_len, marksB_len, marksR_len, sumL_marksS, List.length_take]; omega)) (by first | assumption | omega | (simp only [marks_len, marksB_len, marksR_len, sumL_marksS, List.length_take]; omega))) (fun w4 hXw4 => ?_))
  have hB := hB.trans hXw4
  have hb1 := hb1.up hXw4
  refine WL.pure rfl rfl rfl (PV.pickT rfl rfl) ?_
  refine WL.pure rfl rfl rfl (PV.assign rfl) ?_
  refine WL.nilS ?_
  refine CW.ret ?_
  refine RQ.r1 rfl ?_
  refine ⟨?_, hB⟩
  simp only [fitsB]; first | rfl | (simp_all; done)
theorem c_impl_Change_first {w : World} {uc0 uc1 uc2 uc3 : Value} {c : C4} {vw : Value} {xs : List Int}  (hch0 : Rd EI w uc0 c.1) (hch1 : Rd EI w uc1 c.2.1) (hch2 : Rd EI w uc2 c.2.2.1) (hch3 : Rd EI w uc3 c.2.2.2) (hw : Rd EI w vw xs) (hok : okC c) (hwn : xs.length ≤ 10000) : Calls Try.prog 116 #[.agg #[uc0, uc1, uc2, uc3], vw] w (Ret1 (RQt (.int .i64 (firstI c xs)) w)) := by
  have hB : Ext w w := Ext.refl w
  have hlc0 := hch0.leI; have hlc1 := hch1.leI; have hlc2 := hch2.leI; have hlc3 := hch3.leI; have hlw := hw.leI
  refine callsOf (vs := [_, _]) Try.func116 rfl Try.ntmps116 rfl rfl ?_
  refine CW.seq ?_
  refine CW.reg ?_
  refine WL.op rfl (OpK.box rfl rfl (by first | exact Rd.cells1 (by assumption) | exact Osl.cells1 (by assumption) | exact Osn.cells1 (by assumption) | exact Rd.cells1 (NL.rd (by assumption)) | exact Inn.cell1 (by assumption) (by omega) | rfl) (fun b1 w1 hXw1 hb1 hge1 => ?_))
  have hl1 := Lo.new hB hge1
  have hB := hB.trans hXw1
  refine WL.pure rfl rfl rfl (PV.assign rfl) ?_
  refine WL.nilS ?_
  refine CW.seq ?_
  refine CW.seq ?_
  refine CW.reg ?_
  refine WL.pure rfl rfl rfl (PV.move rfl) ?_
  refine WL.pure rfl rfl rfl ((by first | exact PV.len rfl (by assumption) T.sl26 | exact PV.lenOs rfl (by assumption) T.sl26 | exact PV.len rfl (NL.rd (by assumption)) T.sl26 | exact PV.len rfl (Inn.rd (by assumption) (by omega)) T.sl26)) ?_
  refine WL.pure rfl rfl rfl (PV.move rfl) ?_
  refine WL.nilS ?_
  refine CW.block ?_
  refine CW.loop (σk := [(1, _), (2, _), (7, _)]) (fun ρ wz m => ∃ (k : Nat), ρ = [(8, .int .i64 (k : Nat))] ∧ m = xs.length - k ∧ UpdL [] w1 wz ∧ (k ≤ xs.length) ∧ (∀ j : Nat, j < k → fitsB c xs (j : Int) = false)) (ρ₀ := [(8, _)]) (m₀ := _) ⟨rfl, rfl, rfl, rfl, trivial⟩ ⟨0, rfl, rfl, (UpdL.refl _ _), (by first | omega | rfl | (simp; done) | assumption | (simp_all; done)), (by intro j h; omega)⟩ ?_
  rintro _ wl1 _ ⟨k, rfl, rfl, hU0, hk, he⟩
  have hb1 := hb1.loop hU0 trivial
  have hB := hB.loop hU0 trivial
  refine CW.seq ?_
  refine CW.reg ?_
  refine WL.pure rfl rfl rfl (PV.lss rfl rfl) ?_
  refine WL.nilS ?_
  refine CW.seq ?_
  refine CW.cond rfl (fun hc1 => ?_) (fun hc1 => ?_)
  · skip
    try simp only [decide_eq_true_eq, decide_eq_false_iff_not, Bool.not_eq_true', Bool.not_eq_false', Bool.not_eq_eq_eq_not, Bool.not_true, Bool.not_false, Int.not_lt, Int.not_le, Classical.not_not, beq_iff_eq, beq_eq_false_iff_ne] at hc1
    refine CW.skipS ?_
    refine CW.seq ?_
    refine CW.block ?_
    refine CW.seq ?_
    refine CW.reg ?_
    refine WL.pure rfl rfl rfl (PV.move rfl) ?_
    refine WL.pure rfl rfl rfl (PV.assign rfl) ?_
    refine WL.nilS ?_
    refine CW.seq ?_
    refine CW.reg ?_
    refine WL.pure rfl rfl rfl ((by first | exact PV.loadA T.ag58 rfl (by first | exact Cells.up (by assumption) hB | exact Bx.cells (by assumption) | assumption) (Ext.refl _) rfl | exact PV.loadP (ds := [_, _, _, _]) T.ag58 rfl (by first | exact Cells.up (by assumption) hB | exact Bx.cells (by assumption) | assumption) (Ext.refl _) rfl rfl)) ?_
    refine WL.pure rfl rfl rfl (PV.move rfl) ?_
    refine WL.pure rfl rfl rfl (PV.move rfl) ?_
    refine WL.op rfl (OpK.callR rfl T.cf115 rfl (c_impl_Change_fits (by first | assumption | exact Rd.up (by assumption) hB | exact Osl.rd (by assumption) | exact Osn.rdR (by assumption) | exact NL.rd (by assumption) | exact rdII (by assumption) (by assumption) | exact Inn.rd (by assumption) (by omega)) (by first | assumption | exact Rd.up (by assumption) hB | exact Osl.rd (by assumption) | exact Osn.rdR (by assumption) | exact NL.rd (by assumption) | exact rdII (by assumption) (by assumption) | exact Inn.rd (by assumption) (by omega)) (by first | assumption | exact Rd.up (by assumption) hB | exact Osl.rd (by assumption) | exact Osn.rdR (by assumption) | exact NL.rd (by assumption) | exact rdII (by assumption) (by assumption) | exact Inn.rd (by assumption) (by omega)) (by first | assumption | exact Rd.up (by assumption) hB | exact Osl.rd (by assumption) | exact Osn.rdR (by assumption) | exact NL.rd (by assumption) | exact rdII (by assumption) (by assumption) | exact Inn.rd (by assumption) (by omega)) (by first | assumption | exact Rd.up (by assumption) hB | exact Osl.rd (by assumption) | exact Osn.rdR (by assumption) | exact NL.rd (by assumption) | exact rdII (by assumption) (by assumption) | exact Inn.rd (by assumption) (by omega)) (by first | assumption | omega | (simp only [marks_len, marksB_len, marksR_len, sumL_marksS, List.length_take]; omega)) (by first | assumption | omega | (simp only [marks_len, marksB_len, marksR_len, sumL_marksS, List.length_take]; omega))) (fun w2 hXw2 => ?_))
    have hB := hB.trans hXw2
    have hb1 := hb1.up hXw2
    have hU0 := hU0.ext hXw2
    refine WL.nilS ?_
    refine CW.cond rfl (fun hc2 => ?_) (fun hc2 => ?_)
    · skip
      try simp only [decide_eq_true_eq, decide_eq_false_iff_not, Bool.not_eq_true', Bool.not_eq_false', Bool.not_eq_eq_eq_not, Bool.not_true, Bool.not_false, Int.not_lt, Int.not_le, Classical.not_not, beq_iff_eq, beq_eq_false_iff_ne] at hc2
      refine CW.seq ?_
      refine CW.reg ?_
      refine WL.pure rfl rfl rfl (PV.move rfl) ?_
      refine WL.pure rfl rfl rfl (PV.assign rfl) ?_
      refine WL.nilS ?_
      refine CW.ret ?_
      refine RQ.block ?_
      refine RQ.then ?_
      refine RQ.then ?_
      refine RQ.block ?_
      refine RQ.then ?_
      refine RQ.r1 rfl ?_
      refine ⟨?_, hB⟩
      first | exact iE (idxB_at (by omega) he (by assumption)) | exact iE (idxB_no (fun j h => he j (by omega)))
    try simp only [decide_eq_true_eq, decide_eq_false_iff_not, Bool.not_eq_true', Bool.not_eq_false', Bool.not_eq_eq_eq_not, Bool.not_true, Bool.not_false, Int.not_lt, Int.not_le, Classical.not_not, beq_iff_eq, beq_eq_false_iff_ne] at hc2
    refine CW.skip ?_
    refine NQ.block ?_
    refine NQ.then ?_
    refine CW.reg ?_
    refine WL.pure rfl rfl rfl (PV.add rfl rfl (by constructor <;> omega)) ?_
    refine WL.pure rfl rfl rfl (PV.move rfl) ?_
    refine WL.nil ?_
    refine NQ.next (ρ := [(8, _)]) ⟨rfl, rfl, rfl, rfl, trivial⟩ ?_
    exact ⟨_, ⟨k + 1, rfl, rfl, hU0, (by first | omega | assumption | (simp_all; done) | (simp_all; omega)), (by intro j h; rcases Nat.lt_succ_iff_lt_or_eq.1 h with h | rfl; exact he j h; assumption)⟩, by omega⟩
  try simp only [decide_eq_true_eq, decide_eq_false_iff_not, Bool.not_eq_true', Bool.not_eq_false', Bool.not_eq_eq_eq_not, Bool.not_true, Bool.not_false, Int.not_lt, Int.not_le, Classical.not_not, beq_iff_eq, beq_eq_false_iff_ne] at hc1
  refine CW.exit ?_
  refine XQ.then ?_
  refine XQ.then ?_
  refine XQ.here ?_
  refine NQ.then ?_
  refine CW.seq ?_
  refine CW.reg ?_
  refine WL.pure rfl rfl rfl (PV.assign rfl) ?_
  refine WL.nilS ?_
  refine CW.ret ?_
  refine RQ.r1 rfl ?_
  refine ⟨?_, hB⟩
  first | exact iE (idxB_at (by omega) he (by assumption)) | exact iE (idxB_no (fun j h => he j (by omega)))
theorem c_impl_changeOften_1 {w : World} {uc0 uc1 uc2 uc3 : Value} {c : C4} {pw : Addr} {vw : Value} {xs : List Int}  (hch0 : Rd EI w uc0 c.1) (hch1 : Rd EI w uc1 c.2.1) (hch2 : Rd EI w uc2 c.2.2.1) (hch3 : Rd EI w uc3 c.2.2.2) (hbw : Cells w pw [vw]) (hw : Rd EI w vw xs) (hok : okC c) (hwn : xs.length ≤ 10000) : Calls Try.prog 132 #[.agg #[uc0, uc1, uc2, uc3], .pointer (some pw)] w (Ret1 (RQt (.bool (decide (0 ≤ firstI c xs))) w)) := by
  have hB : Ext w w := Ext.refl w
  have hlc0 := hch0.leI; have hlc1 := hch1.leI; have hlc2 := hch2.leI; have hlc3 := hch3.leI; have hlw := hw.leI
  refine callsOf (vs := [_, _]) Try.func132 rfl Try.ntmps132 rfl rfl ?_
  refine CW.seq ?_
  refine CW.reg ?_
  refine WL.op rfl (OpK.box rfl rfl (by first | exact Rd.cells1 (by assumption) | exact Osl.cells1 (by assumption) | exact Osn.cells1 (by assumption) | exact Rd.cells1 (NL.rd (by assumption)) | exact Inn.cell1 (by assumption) (by omega) | rfl) (fun b1 w1 hXw1 hb1 hge1 => ?_))
  have hl1 := Lo.new hB hge1
  have hB := hB.trans hXw1
  refine WL.pure rfl rfl rfl (PV.assign rfl) ?_
  refine WL.nilS ?_
  refine CW.seq ?_
  refine CW.reg ?_
  refine WL.pure rfl rfl rfl ((by first | exact PV.loadA T.ag58 rfl (by first | exact Cells.up (by assumption) hB | exact Bx.cells (by assumption) | assumption) (Ext.refl _) rfl | exact PV.loadP (ds := [_, _, _, _]) T.ag58 rfl (by first | exact Cells.up (by assumption) hB | exact Bx.cells (by assumption) | assumption) (Ext.refl _) rfl rfl)) ?_
  refine WL.pure rfl rfl rfl ((by first | exact PV.load0 T.na26 rfl (by first | exact Cells.up (by assumption) hB | exact Bx.cells (by assumption) | assumption) (Ext.refl _) rfl | exact PV.load1 T.na26 rfl (by first | exact Cells.up (by assumption) hB | exact Bx.cells (by assumption) | assumption) (Ext.refl _) rfl)) ?_
  refine WL.op rfl (OpK.callR rfl T.cf116 rfl (c_impl_Change_first (by first | assumption | exact Rd.up (by assumption) hB | exact Osl.rd (by assumption) | exact Osn.rdR (by assumption) | exact NL.rd (by assumption) | exact rdII (by assumption) (by assumption) | exact Inn.rd (by assumption) (by omega)) (by first | assumption | exact Rd.up (by assumption) hB | exact Osl.rd (by assumption) | exact Osn.rdR (by assumption) | exact NL.rd (by assumption) | exact rdII (by assumption) (by assumption) | exact Inn.rd (by assumption) (by omega)) (by first | assumption | exact Rd.up (by assumption) hB | exact Osl.rd (by assumption) | exact Osn.rdR (by assumption) | exact NL.rd (by assumption) | exact rdII (by assumption) (by assumption) | exact Inn.rd (by assumption) (by omega)) (by first | assumption | exact Rd.up (by assumption) hB | exact Osl.rd (by assumption) | exact Osn.rdR (by assumption) | exact NL.rd (by assumption) | exact rdII (by assumption) (by assumption) | exact Inn.rd (by assumption) (by omega)) (by first | assumption | exact Rd.up (by assumption) hB | exact Osl.rd (by assumption) | exact Osn.rdR (by assumption) | exact NL.rd (by assumption) | exact rdII (by assumption) (by assumption) | exact Inn.rd (by assumption) (by omega)) (by first | assumption | omega | (simp only [marks_len, marksB_len, marksR_len, sumL_marksS, List.length_take]; omega)) (by first | assumption | omega | (simp only [marks_len, marksB_len, marksR_len, sumL_marksS, List.length_take]; omega))) (fun w2 hXw2 => ?_))
  have hB := hB.trans hXw2
  have hb1 := hb1.up hXw2
  refine WL.pure rfl rfl rfl (PV.geq rfl rfl) ?_
  refine WL.pure rfl rfl rfl (PV.assign rfl) ?_
  refine WL.nilS ?_
  refine CW.ret ?_
  refine RQ.r1 rfl ?_
  refine ⟨?_, hB⟩
  first | rfl | exact bT (by omega) | exact bF (by omega) | exact bD (by omega) | exact iE (by omega) | (simp_all; done) | (simp_all; omega) | (simp_all; intros; omega)
theorem c_slices_IndexFunc_impl_Change_impl_Change_impl_changeOften_1 {w : World} {va : Value} {cs : List C4} {pw : Addr} {vw : Value} {xs : List Int}  (ha : Rd ECh w va cs) (hbw : Cells w pw [vw]) (hw : Rd EI w vw xs) (hwn : xs.length ≤ 10000) (hoks : ∀ k : Nat, k < cs.length → okC (cs.getD k d4)) : Calls Try.prog 131 #[va, .func (.func 132) #[] #[.pointer (some pw)]] w (Ret1 (RQt (.int .i64 (stepI cs xs)) w)) := by
  have hB : Ext w w := Ext.refl w
  have hla := ha.leI; have hlw := hw.leI
  refine callsOf (vs := [_, _]) Try.func131 rfl Try.ntmps131 rfl rfl ?_
  refine CW.seq ?_
  refine CW.reg ?_
  refine WL.pure rfl rfl rfl (PV.assign rfl) ?_
  refine WL.nilS ?_
  refine CW.seq ?_
  refine CW.seq ?_
  refine CW.reg ?_
  refine WL.pure rfl rfl rfl (PV.move rfl) ?_
  refine WL.pure rfl rfl rfl ((by first | exact PV.len rfl (by assumption) T.sl46 | exact PV.lenOs rfl (by assumption) T.sl46 | exact PV.len rfl (NL.rd (by assumption)) T.sl46 | exact PV.len rfl (Inn.rd (by assumption) (by omega)) T.sl46)) ?_
  refine WL.pure rfl rfl rfl (PV.move rfl) ?_
  refine WL.nilS ?_
  refine CW.block ?_
  refine CW.loop (σk := [(0, _), (1, _), (7, _)]) (fun ρ wz m => ∃ (k : Nat), ρ = [(8, .int .i64 (k : Nat))] ∧ m = cs.length - k ∧ UpdL [] w wz ∧ (k ≤ cs.length) ∧ (∀ j : Nat, j < k → decide (0 ≤ firstI (cs.getD j d4) xs) = false)) (ρ₀ := [(8, _)]) (m₀ := _) ⟨rfl, rfl, rfl, rfl, trivial⟩ ⟨0, rfl, rfl, (UpdL.refl _ _), (by first | omega | rfl | (simp; done) | assumption | (simp_all; done)), (by intro j h; omega)⟩ ?_
  rintro _ wl1 _ ⟨k, rfl, rfl, hU0, hk, he⟩
  have hB := hB.loop hU0 trivial
  refine CW.seq ?_
  refine CW.reg ?_
  refine WL.pure rfl rfl rfl (PV.lss rfl rfl) ?_
  refine WL.nilS ?_
  refine CW.seq ?_
  refine CW.cond rfl (fun hc1 => ?_) (fun hc1 => ?_)
  · skip
    try simp only [decide_eq_true_eq, decide_eq_false_iff_not, Bool.not_eq_true', Bool.not_eq_false', Bool.not_eq_eq_eq_not, Bool.not_true, Bool.not_false, Int.not_lt, Int.not_le, Classical.not_not, beq_iff_eq, beq_eq_false_iff_ne] at hc1
    refine CW.skipS ?_
    refine CW.seq ?_
    refine CW.block ?_
    refine CW.seq ?_
    refine CW.reg ?_
    refine WL.pure rfl rfl rfl (PV.move rfl) ?_
    refine WL.pure rfl rfl rfl (PV.assign rfl) ?_
    refine WL.nilS ?_
    refine CW.seq ?_
    refine CW.reg ?_
    refine WL.pure rfl rfl rfl (PV.move rfl) ?_
    have hok := hoks k (by omega)
    refine WL.pure rfl rfl rfl (PV.move rfl) ?_
    refine WL.pure rfl rfl rfl (PV.move rfl) ?_
    first
      | refine WL.at (x := .tmp 12) (y := .tmp 13) (E := ECh) (d4) rfl rfl (by first | assumption | exact Inn.rd (by assumption) (by omega)) (by first | omega | (simp only [List.length_set]; omega) | (simp only [List.length_append, List.length_take, List.length_replicate, List.length_drop]; omega)) (fun p1 csp1 hpp1 hcp1 hq => ?_)
      | refine WL.atZ (x := .tmp 12) (y := .tmp 13) (E := ECh) (d4) rfl rfl (by first | assumption | exact Inn.rd (by assumption) (by omega)) (by first | omega | (simp only [List.length_set]; omega) | (simp only [List.length_append, List.length_take, List.length_replicate, List.length_drop]; omega)) (fun p1 csp1 hpp1 hzp1 hcp1 hq => ?_)
    obtain ⟨vq0, vq1, vq2, vq3, rfl, hq0, hq1, hq2, hq3⟩ := ECh.parts hq
    refine WL.pure rfl rfl rfl ((by first | exact PV.indexAddr hpp1 rfl rfl T.sl46 | exact PV.indexAddr hpp1 rfl (by rw [← hzp1]; rfl) T.sl46)) ?_
    refine WL.pure rfl rfl rfl ((by first | exact PV.loadA T.ag58 rfl (by first | exact Cells.up (by assumption) hB | exact Bx.cells (by assumption) | assumption) (Ext.refl _) rfl | exact PV.loadP (ds := [_, _, _, _]) T.ag58 rfl (by first | exact Cells.up (by assumption) hB | exact Bx.cells (by assumption) | assumption) (Ext.refl _) rfl rfl)) ?_
    refine WL.op rfl (OpK.callV rfl T.cf132 rfl rfl (c_impl_changeOften_1 (by first | assumption | exact Rd.up (by assumption) hB | exact Osl.rd (by assumption) | exact Osn.rdR (by assumption) | exact NL.rd (by assumption) | exact rdII (by assumption) (by assumption) | exact Inn.rd (by assumption) (by omega)) (by first | assumption | exact Rd.up (by assumption) hB | exact Osl.rd (by assumption) | exact Osn.rdR (by assumption) | exact NL.rd (by assumption) | exact rdII (by assumption) (by assumption) | exact Inn.rd (by assumption) (by omega)) (by first | assumption | exact Rd.up (by assumption) hB | exact Osl.rd (by assumption) | exact Osn.rdR (by assumption) | exact NL.rd (by assumption) | exact rdII (by assumption) (by assumption) | exact Inn.rd (by assumption) (by omega)) (by first | assumption | exact Rd.up (by assumption) hB | exact Osl.rd (by assumption) | exact Osn.rdR (by assumption) | exact NL.rd (by assumption) | exact rdII (by assumption) (by assumption) | exact Inn.rd (by assumption) (by omega)) (by first | exact Bx.cells (by assumption) | exact Cells.up (by assumption) hB | assumption | exact Cells.add (Bx.cells (by assumption)) _ | exact Cells.add (Cells.up (by assumption) hB) _) (by first | assumption | exact Rd.up (by assumption) hB | exact Osl.rd (by assumption) | exact Osn.rdR (by assumption) | exact NL.rd (by assumption) | exact rdII (by assumption) (by assumption) | exact Inn.rd (by assumption) (by omega)) (by first | assumption | omega | (simp only [marks_len, marksB_len, marksR_len, sumL_marksS, List.length_take]; omega)) (by first | assumption | omega | (simp only [marks_len, marksB_len, marksR_len, sumL_marksS, List.length_take]; omega))) (fun w1 hXw1 => ?_))
    have hB := hB.trans hXw1
    have hU0 := hU0.ext hXw1
    refine WL.nilS ?_
    refine CW.cond rfl (fun hc2 => ?_) (fun hc2 => ?_)
    · skip
      try simp only [decide_eq_true_eq, decide_eq_false_iff_not, Bool.not_eq_true', Bool.not_eq_false', Bool.not_eq_eq_eq_not, Bool.not_true, Bool.not_false, Int.not_lt, Int.not_le, Classical.not_not, beq_iff_eq, beq_eq_false_iff_ne] at hc2
      refine CW.seq ?_
      refine CW.reg ?_
      refine WL.pure rfl rfl rfl (PV.move rfl) ?_
      refine WL.pure rfl rfl rfl (PV.assign rfl) ?_
      refine WL.nilS ?_
      refine CW.ret ?_
      refine RQ.block ?_
      refine RQ.then ?_
      refine RQ.then ?_
      refine RQ.block ?_
      refine RQ.then ?_
      refine RQ.r1 rfl ?_
      refine ⟨?_, hB⟩
      first | exact iE (idxB_at (by omega) he (decide_eq_true (by omega))) | exact iE (idxB_no (fun j h => he j (by omega)))
    try simp only [decide_eq_true_eq, decide_eq_false_iff_not, Bool.not_eq_true', Bool.not_eq_false', Bool.not_eq_eq_eq_not, Bool.not_true, Bool.not_false, Int.not_lt, Int.not_le, Classical.not_not, beq_iff_eq, beq_eq_false_iff_ne] at hc2
    refine CW.skip ?_
    refine NQ.block ?_
    refine NQ.then ?_
    refine CW.reg ?_
    refine WL.pure rfl rfl rfl (PV.add rfl rfl (by constructor <;> omega)) ?_
    refine WL.pure rfl rfl rfl (PV.move rfl) ?_
    refine WL.nil ?_
    refine NQ.next (ρ := [(8, _)]) ⟨rfl, rfl, rfl, rfl, trivial⟩ ?_
    exact ⟨_, ⟨k + 1, rfl, rfl, hU0, (by first | omega | assumption | (simp_all; done) | (simp_all; omega)), (by intro j h; rcases Nat.lt_succ_iff_lt_or_eq.1 h with h | rfl; exact he j h; exact decide_eq_false (by omega))⟩, by omega⟩
  try simp only [decide_eq_true_eq, decide_eq_false_iff_not, Bool.not_eq_true', Bool.not_eq_false', Bool.not_eq_eq_eq_not, Bool.not_true, Bool.not_false, Int.not_lt, Int.not_le, Classical.not_not, beq_iff_eq, beq_eq_false_iff_ne] at hc1
  refine CW.exit ?_
  refine XQ.then ?_
  refine XQ.then ?_
  refine XQ.here ?_
  refine NQ.then ?_
  refine CW.seq ?_
  refine CW.reg ?_
  refine WL.pure rfl rfl rfl (PV.assign rfl) ?_
  refine WL.nilS ?_
  refine CW.ret ?_
  refine RQ.r1 rfl ?_
  refine ⟨?_, hB⟩
  first | exact iE (idxB_at (by omega) he (decide_eq_true (by omega))) | exact iE (idxB_no (fun j h => he j (by omega)))
theorem c_slices_IndexFunc_impl_Change_impl_Change_impl_arePlain_1 {w : World} {va : Value} {cs : List C4}  (ha : Rd ECh w va cs) (hoks : ∀ k : Nat, k < cs.length → okC (cs.getD k d4)) : Calls Try.prog 131 #[va, .func (.func 128) #[] #[]] w (Ret1 (RQt (.int .i64 (idxB (platP cs) cs.length)) w)) := by
  have hB : Ext w w := Ext.refl w
  have hla := ha.leI
  refine callsOf (vs := [_, _]) Try.func131 rfl Try.ntmps131 rfl rfl ?_
  refine CW.seq ?_
  refine CW.reg ?_
  refine WL.pure rfl rfl rfl (PV.assign rfl) ?_
  refine WL.nilS ?_
  refine CW.seq ?_
  refine CW.seq ?_
  refine CW.reg ?_
  refine WL.pure rfl rfl rfl (PV.move rfl) ?_
  refine WL.pure rfl rfl rfl ((by first | exact PV.len rfl (by assumption) T.sl46 | exact PV.lenOs rfl (by assumption) T.sl46 | exact PV.len rfl (NL.rd (by assumption)) T.sl46 | exact PV.len rfl (Inn.rd (by assumption) (by omega)) T.sl46)) ?_
  refine WL.pure rfl rfl rfl (PV.move rfl) ?_
  refine WL.nilS ?_
  refine CW.block ?_
  refine CW.loop (σk := [(0, _), (1, _), (7, _)]) (fun ρ wz m => ∃ (k : Nat), ρ = [(8, .int .i64 (k : Nat))] ∧ m = cs.length - k ∧ UpdL [] w wz ∧ (k ≤ cs.length) ∧ (∀ j : Nat, j < k → platP cs j = false)) (ρ₀ := [(8, _)]) (m₀ := _) ⟨rfl, rfl, rfl, rfl, trivial⟩ ⟨0, rfl, rfl, (UpdL.refl _ _), (by first | omega | rfl | (simp; done) | assumption | (simp_all; done)), (by intro j h; omega)⟩ ?_
  rintro _ wl1 _ ⟨k, rfl, rfl, hU0, hk, he⟩
  have hB := hB.loop hU0 trivial
  refine CW.seq ?_
  refine CW.reg ?_
  refine WL.pure rfl rfl rfl (PV.lss rfl rfl) ?_
  refine WL.nilS ?_
  refine CW.seq ?_
  refine CW.cond rfl (fun hc1 => ?_) (fun hc1 => ?_)
  · skip
    try simp only [decide_eq_true_eq, decide_eq_false_iff_not, Bool.not_eq_true', Bool.not_eq_false', Bool.not_eq_eq_eq_not, Bool.not_true, Bool.not_false, Int.not_lt, Int.not_le, Classical.not_not, beq_iff_eq, beq_eq_false_iff_ne] at hc1
    refine CW.skipS ?_
    refine CW.seq ?_
    refine CW.block ?_
    refine CW.seq ?_
    refine CW.reg ?_
    refine WL.pure rfl rfl rfl (PV.move rfl) ?_
    refine WL.pure rfl rfl rfl (PV.assign rfl) ?_
    refine WL.nilS ?_
    refine CW.seq ?_
    refine CW.reg ?_
    refine WL.pure rfl rfl rfl (PV.move rfl) ?_
    have hok := hoks k (by omega)
    refine WL.pure rfl rfl rfl (PV.move rfl) ?_
    refine WL.pure rfl rfl rfl (PV.move rfl) ?_
    first
      | refine WL.at (x := .tmp 12) (y := .tmp 13) (E := ECh) (d4) rfl rfl (by first | assumption | exact Inn.rd (by assumption) (by omega)) (by first | omega | (simp only [List.length_set]; omega) | (simp only [List.length_append, List.length_take, List.length_replicate, List.length_drop]; omega)) (fun p1 csp1 hpp1 hcp1 hq => ?_)
      | refine WL.atZ (x := .tmp 12) (y := .tmp 13) (E := ECh) (d4) rfl rfl (by first | assumption | exact Inn.rd (by assumption) (by omega)) (by first | omega | (simp only [List.length_set]; omega) | (simp only [List.length_append, List.length_take, List.length_replicate, List.length_drop]; omega)) (fun p1 csp1 hpp1 hzp1 hcp1 hq => ?_)
    obtain ⟨vq0, vq1, vq2, vq3, rfl, hq0, hq1, hq2, hq3⟩ := ECh.parts hq
    refine WL.pure rfl rfl rfl ((by first | exact PV.indexAddr hpp1 rfl rfl T.sl46 | exact PV.indexAddr hpp1 rfl (by rw [← hzp1]; rfl) T.sl46)) ?_
    refine WL.pure rfl rfl rfl ((by first | exact PV.loadA T.ag58 rfl (by first | exact Cells.up (by assumption) hB | exact Bx.cells (by assumption) | assumption) (Ext.refl _) rfl | exact PV.loadP (ds := [_, _, _, _]) T.ag58 rfl (by first | exact Cells.up (by assumption) hB | exact Bx.cells (by assumption) | assumption) (Ext.refl _) rfl rfl)) ?_
    refine WL.op rfl (OpK.callV rfl T.cf128 rfl rfl (c_impl_arePlain_1 (by first | assumption | exact Rd.up (by assumption) hB | exact Osl.rd (by assumption) | exact Osn.rdR (by assumption) | exact NL.rd (by assumption) | exact rdII (by assumption) (by assumption) | exact Inn.rd (by assumption) (by omega)) (by first | assumption | exact Rd.up (by assumption) hB | exact Osl.rd (by assumption) | exact Osn.rdR (by assumption) | exact NL.rd (by assumption) | exact rdII (by assumption) (by assumption) | exact Inn.rd (by assumption) (by omega)) (by first | assumption | exact Rd.up (by assumption) hB | exact Osl.rd (by assumption) | exact Osn.rdR (by assumption) | exact NL.rd (by assumption) | exact rdII (by assumption) (by assumption) | exact Inn.rd (by assumption) (by omega)) (by first | assumption | exact Rd.up (by assumption) hB | exact Osl.rd (by assumption) | exact Osn.rdR (by assumption) | exact NL.rd (by assumption) | exact rdII (by assumption) (by assumption) | exact Inn.rd (by assumption) (by omega)) (by first | assumption | omega | (simp only [marks_len, marksB_len, marksR_len, sumL_marksS, List.length_take]; omega))) (fun w1 hXw1 => ?_))
    have hB := hB.trans hXw1
    have hU0 := hU0.ext hXw1
    refine WL.nilS ?_
    refine CW.cond rfl (fun hc2 => ?_) (fun hc2 => ?_)
    · skip
      try simp only [decide_eq_true_eq, decide_eq_false_iff_not, Bool.not_eq_true', Bool.not_eq_false', Bool.not_eq_eq_eq_not, Bool.not_true, Bool.not_false, Int.not_lt, Int.not_le, Classical.not_not, beq_iff_eq, beq_eq_false_iff_ne] at hc2
      refine CW.seq ?_
      refine CW.reg ?_
      refine WL.pure rfl rfl rfl (PV.move rfl) ?_
      refine WL.pure rfl rfl rfl (PV.assign rfl) ?_
      refine WL.nilS ?_
      refine CW.ret ?_
      refine RQ.block ?_
      refine RQ.then ?_
      refine RQ.then ?_
      refine RQ.block ?_
      refine RQ.then ?_
      refine RQ.r1 rfl ?_
      refine ⟨?_, hB⟩
      first | exact iE (idxB_at (by omega) he (decide_eq_true (by omega))) | exact iE (idxB_no (fun j h => he j (by omega)))
    try simp only [decide_eq_true_eq, decide_eq_false_iff_not, Bool.not_eq_true', Bool.not_eq_false', Bool.not_eq_eq_eq_not, Bool.not_true, Bool.not_false, Int.not_lt, Int.not_le, Classical.not_not, beq_iff_eq, beq_eq_false_iff_ne] at hc2
    refine CW.skip ?_
    refine NQ.block ?_
    refine NQ.then ?_
    refine CW.reg ?_
    refine WL.pure rfl rfl rfl (PV.add rfl rfl (by constructor <;> omega)) ?_
    refine WL.pure rfl rfl rfl (PV.move rfl) ?_
    refine WL.nil ?_
    refine NQ.next (ρ := [(8, _)]) ⟨rfl, rfl, rfl, rfl, trivial⟩ ?_
    exact ⟨_, ⟨k + 1, rfl, rfl, hU0, (by first | omega | assumption | (simp_all; done) | (simp_all; omega)), (by intro j h; rcases Nat.lt_succ_iff_lt_or_eq.1 h with h | rfl; exact he j h; exact decide_eq_false (by omega))⟩, by omega⟩
  try simp only [decide_eq_true_eq, decide_eq_false_iff_not, Bool.not_eq_true', Bool.not_eq_false', Bool.not_eq_eq_eq_not, Bool.not_true, Bool.not_false, Int.not_lt, Int.not_le, Classical.not_not, beq_iff_eq, beq_eq_false_iff_ne] at hc1
  refine CW.exit ?_
  refine XQ.then ?_
  refine XQ.then ?_
  refine XQ.here ?_
  refine NQ.then ?_
  refine CW.seq ?_
  refine CW.reg ?_
  refine WL.pure rfl rfl rfl (PV.assign rfl) ?_
  refine WL.nilS ?_
  refine CW.ret ?_
  refine RQ.r1 rfl ?_
  refine ⟨?_, hB⟩
  first | exact iE (idxB_at (by omega) he (decide_eq_true (by omega))) | exact iE (idxB_no (fun j h => he j (by omega)))
theorem c_slices_ContainsFunc_impl_Change_impl_Change {w : World} {va : Value} {cs : List C4}  (ha : Rd ECh w va cs) (hoks : ∀ k : Nat, k < cs.length → okC (cs.getD k d4)) : Calls Try.prog 127 #[va, .func (.func 128) #[] #[]] w (Ret1 (RQt (.bool (decide (0 ≤ idxB (platP cs) cs.length))) w)) := by
  have hB : Ext w w := Ext.refl w
  have hla := ha.leI
  refine callsOf (vs := [_, _]) Try.func127 rfl Try.ntmps127 rfl rfl ?_
  refine CW.seq ?_
  refine CW.reg ?_
  refine WL.pure rfl rfl rfl (PV.assign rfl) ?_
  refine WL.nilS ?_
  refine CW.seq ?_
  refine CW.reg ?_
  refine WL.pure rfl rfl rfl (PV.move rfl) ?_
  refine WL.pure rfl rfl rfl (PV.move rfl) ?_
  refine WL.op rfl (OpK.callR rfl T.cf131 rfl (c_slices_IndexFunc_impl_Change_impl_Change_impl_arePlain_1 (by first | assumption | exact Rd.up (by assumption) hB | exact rdCh (by assumption) (by assumption)) (by first | assumption | (intro k9 h9; simp only [List.length_cons, List.length_nil] at h9; (obtain rfl : k9 = 0 := (by omega)); assumption))) (fun w1 hXw1 => ?_))
  have hB := hB.trans hXw1
  refine WL.pure rfl rfl rfl (PV.geq rfl rfl) ?_
  refine WL.pure rfl rfl rfl (PV.assign rfl) ?_
  refine WL.nilS ?_
  refine CW.ret ?_
  refine RQ.r1 rfl ?_
  refine ⟨?_, hB⟩
  first | rfl | exact bT (by omega) | exact bF (by omega) | exact bD (by omega) | exact iE (by omega) | (simp_all; done) | (simp_all; omega) | (simp_all; intros; omega)
theorem c_impl_arePlain {w : World} {va : Value} {cs : List C4} {L : Int} (ha : Rd ECh w va cs) : Calls Try.prog 93 #[va, .int .i64 L] w (Ret1 (RQt (.bool (plnB cs L)) w)) := by
  have hB : Ext w w := Ext.refl w
  have hla := ha.leI
  refine callsOf (vs := [_, _]) Try.func93 rfl Try.ntmps93 rfl rfl ?_
  refine CW.seq ?_
  refine CW.reg ?_
  refine WL.pure rfl rfl rfl (PV.assign rfl) ?_
  refine WL.nilS ?_
  refine CW.seq ?_
  refine CW.reg ?_
  refine WL.pure rfl rfl rfl (PV.move rfl) ?_
  refine WL.pure rfl rfl rfl (PV.move rfl) ?_
  refine WL.op rfl (OpK.callR rfl T.cf106 rfl (c_impl_areChanges (by first | assumption | exact Rd.up (by assumption) hB | exact rdCh (by assumption) (by assumption))) (fun w1 hXw1 => ?_))
  have hB := hB.trans hXw1
  refine WL.pure rfl rfl rfl (PV.move rfl) ?_
  refine WL.split (t := 8) rfl (fun hc1 => ?_) (fun hc1 => ?_)
  rotate_left
  · skip
    try simp only [decide_eq_true_eq, decide_eq_false_iff_not, Bool.not_eq_true', Bool.not_eq_false', Bool.not_eq_eq_eq_not, Bool.not_true, Bool.not_false, Int.not_lt, Int.not_le, Classical.not_not, beq_iff_eq, beq_eq_false_iff_ne] at hc1
    refine WL.skip rfl rfl rfl rfl rfl ?_
    refine WL.skip rfl rfl rfl rfl rfl ?_
    refine WL.skip rfl rfl rfl rfl rfl ?_
    refine WL.pure rfl rfl rfl (PV.pickF rfl rfl) ?_
    refine WL.pure rfl rfl rfl (PV.assign rfl) ?_
    refine WL.nilS ?_
    refine CW.ret ?_
    refine RQ.r1 rfl ?_
    refine ⟨?_, hB⟩
    first | exact bE (pln_n1 (by assumption)) | exact bE (pln_e (by assumption))
  try simp only [decide_eq_true_eq, decide_eq_false_iff_not, Bool.not_eq_true', Bool.not_eq_false', Bool.not_eq_eq_eq_not, Bool.not_true, Bool.not_false, Int.not_lt, Int.not_le, Classical.not_not, beq_iff_eq, beq_eq_false_iff_ne] at hc1
  refine WL.pureG rfl rfl rfl rfl rfl (PV.move rfl) ?_
  have hoks := (listB_y (by assumption : listB cs L = true)).2.2.2
  refine WL.opG rfl rfl rfl (OpK.callR rfl T.cf127 rfl (c_slices_ContainsFunc_impl_Change_impl_Change (by first | assumption | exact Rd.up (by assumption) hB | exact rdCh (by assumption) (by assumption)) (by first | assumption | (intro k9 h9; simp only [List.length_cons, List.length_nil] at h9; (obtain rfl : k9 = 0 := (by omega)); assumption))) (fun w2 hXw2 => ?_))
  have hB := hB.trans hXw2
  refine WL.pureG rfl rfl rfl rfl rfl (PV.not rfl) ?_
  refine WL.pure rfl rfl rfl (PV.pickT rfl rfl) ?_
  refine WL.pure rfl rfl rfl (PV.assign rfl) ?_
  refine WL.nilS ?_
  refine CW.ret ?_
  refine RQ.r1 rfl ?_
  refine ⟨?_, hB⟩
  first | exact bE (pln_n1 (by assumption)) | exact bE (pln_e (by assumption))
theorem c_slices_Grow_int64_int64 {w : World} {N : Int} (hN : 0 ≤ N ∧ N ≤ 1048576) : Calls Try.prog 138 #[.slice none 0 0, .int .i64 N] w (Ret1 (fun v w' => Ext w w' ∧ ∃ u og_u, v = u ∧ Osl VI w' og_u u (([] : List Int)) ∧ Lo w og_u)) := by
  have hB : Ext w w := Ext.refl w
  have hnil : Rd EI w (.slice none 0 0) [] := Rd.nil _ _
  refine callsOf (vs := [_, _]) Try.func138 rfl Try.ntmps138 rfl rfl ?_
  refine CW.seq ?_
  refine CW.reg ?_
  refine WL.pure rfl rfl rfl (PV.assign rfl) ?_
  refine WL.nilS ?_
  refine CW.seq ?_
  refine CW.seq ?_
  refine CW.reg ?_
  refine WL.pure rfl rfl rfl (PV.move rfl) ?_
  refine WL.pure rfl rfl rfl (PV.lss rfl rfl) ?_
  refine WL.nilS ?_
  refine CW.cond rfl (fun hc1 => ?_) (fun hc1 => ?_)
  · skip
    try simp only [decide_eq_true_eq, decide_eq_false_iff_not, Bool.not_eq_true', Bool.not_eq_false', Bool.not_eq_eq_eq_not, Bool.not_true, Bool.not_false, Int.not_lt, Int.not_le, Classical.not_not, beq_iff_eq, beq_eq_false_iff_ne] at hc1
    exfalso; omega
  try simp only [decide_eq_true_eq, decide_eq_false_iff_not, Bool.not_eq_true', Bool.not_eq_false', Bool.not_eq_eq_eq_not, Bool.not_true, Bool.not_false, Int.not_lt, Int.not_le, Classical.not_not, beq_iff_eq, beq_eq_false_iff_ne] at hc1
  refine CW.skipS ?_
  refine CW.seq ?_
  refine CW.seq ?_
  refine CW.reg ?_
  refine WL.pure rfl rfl rfl (PV.move rfl) ?_
  refine WL.pure rfl rfl rfl (PV.move rfl) ?_
  refine WL.pure rfl rfl rfl (PV.capNil rfl T.sl26) ?_
  refine WL.pure rfl rfl rfl (PV.move rfl) ?_
  refine WL.pure rfl rfl rfl ((by first | exact PV.len rfl (by assumption) T.sl26 | exact PV.lenOs rfl (by assumption) T.sl26 | exact PV.len rfl (NL.rd (by assumption)) T.sl26 | exact PV.len rfl (Inn.rd (by assumption) (by omega)) T.sl26)) ?_
  simp only [List.length_nil]
  refine WL.pure rfl rfl rfl (PV.sub rfl rfl (by constructor <;> omega)) ?_
  refine WL.pure rfl rfl rfl (PV.sub rfl rfl (by constructor <;> omega)) ?_
  refine WL.pure rfl rfl rfl (PV.assign rfl) ?_
  refine WL.nilS ?_
  refine CW.seq ?_
  refine CW.reg ?_
  refine WL.pure rfl rfl rfl (PV.move rfl) ?_
  refine WL.pure rfl rfl rfl (PV.gtr rfl rfl) ?_
  refine WL.nilS ?_
  refine CW.cond rfl (fun hc2 => ?_) (fun hc2 => ?_)
  · skip
    try simp only [decide_eq_true_eq, decide_eq_false_iff_not, Bool.not_eq_true', Bool.not_eq_false', Bool.not_eq_eq_eq_not, Bool.not_true, Bool.not_false, Int.not_lt, Int.not_le, Classical.not_not, beq_iff_eq, beq_eq_false_iff_ne] at hc2
    refine CW.reg ?_
    refine WL.pure rfl rfl rfl (PV.move rfl) ?_
    refine WL.pure rfl rfl rfl (PV.move rfl) ?_
    refine WL.pure rfl rfl rfl (PV.capNil rfl T.sl26) ?_
    refine WL.pure rfl rfl rfl (PV.sliceNil T.sl26 rfl rfl) ?_
    refine WL.pure rfl rfl rfl (PV.move rfl) ?_
    refine WL.op rfl (OpK.growA rfl T.sl26 T.ik3 T.zv2 rfl rfl rfl rfl (by omega) rfl (fun v1 g1 cs1 w1 hXw1 ho1 hge1 => ?_))
    have hl1 := Lo.new hB hge1
    have hB := hB.trans hXw1
    refine WL.pure rfl rfl rfl (PV.move rfl) ?_
    refine WL.pure rfl rfl rfl ((by first | exact PV.len rfl (by assumption) T.sl26 | exact PV.lenOs rfl (by assumption) T.sl26 | exact PV.len rfl (NL.rd (by assumption)) T.sl26 | exact PV.len rfl (Inn.rd (by assumption) (by omega)) T.sl26)) ?_
    refine WL.slG (x := .tmp 22) (hi := .tmp 24) T.sl26 rfl rfl rfl ho1 (fun u2 huu2 hou2 => ?_)
    refine WL.pure rfl rfl rfl ((huu2 _ _ _ _ _ _)) ?_
    refine WL.pure rfl rfl rfl (PV.assign rfl) ?_
    have ho2 : Osl VI w1 (some g1) u2 [] := hou2
    have hl2 := hl1
    refine WL.nilS ?_
    refine CW.seq ?_
    refine CW.reg ?_
    refine WL.pure rfl rfl rfl (PV.move rfl) ?_
    refine WL.pure rfl rfl rfl (PV.assign rfl) ?_
    refine WL.nilS ?_
    refine CW.ret ?_
    refine RQ.r1 rfl ?_
    refine ⟨hB, u2, (some g1), ?_, osE ho2 ?_, hl2⟩
    · skip
      rfl
    · skip
      rfl
  try simp only [decide_eq_true_eq, decide_eq_false_iff_not, Bool.not_eq_true', Bool.not_eq_false', Bool.not_eq_eq_eq_not, Bool.not_true, Bool.not_false, Int.not_lt, Int.not_le, Classical.not_not, beq_iff_eq, beq_eq_false_iff_ne] at hc2
  refine CW.skipS ?_
  refine CW.seq ?_
  refine CW.reg ?_
  refine WL.pure rfl rfl rfl (PV.move rfl) ?_
  refine WL.pure rfl rfl rfl (PV.assign rfl) ?_
  refine WL.nilS ?_
  refine CW.ret ?_
  refine RQ.r1 rfl ?_
  refine ⟨hB, (.slice none 0 0), none, ?_, osE (Osl.nil _ _) ?_, Lo.nl _⟩
  · skip
    rfl
  · skip
    rfl
theorem c_slices_Concat_int64_int64 {w : World} {va : Value} {xs : List (List Int)} (ha : Rd (ESl EI) w va xs) (hT : xs.flatten.length ≤ 100000) : Calls Try.prog 130 #[va] w (Ret1 (fun v w' => Ext w w' ∧ ∃ u og_u, v = u ∧ Osl VI w' og_u u (xs.flatten) ∧ Lo w og_u)) := by
  have hB : Ext w w := Ext.refl w
  have hla := ha.leI
  refine callsOf (vs := [_]) Try.func130 rfl Try.ntmps130 rfl rfl ?_
  refine CW.seq ?_
  refine CW.reg ?_
  refine WL.pure rfl rfl rfl (PV.assign rfl) ?_
  refine WL.nilS ?_
  refine CW.seq ?_
  refine CW.reg ?_
  refine WL.pure rfl rfl rfl (PV.assign rfl) ?_
  refine WL.nilS ?_
  refine CW.seq ?_
  refine CW.seq ?_
  refine CW.reg ?_
  refine WL.pure rfl rfl rfl (PV.move rfl) ?_
  refine WL.pure rfl rfl rfl ((by first | exact PV.len rfl (by assumption) T.sl28 | exact PV.lenOs rfl (by assumption) T.sl28 | exact PV.len rfl (NL.rd (by assumption)) T.sl28 | exact PV.len rfl (Inn.rd (by assumption) (by omega)) T.sl28)) ?_
  refine WL.pure rfl rfl rfl (PV.move rfl) ?_
  refine WL.nilS ?_
  refine CW.block ?_
  refine CW.loop (σk := [(0, _), (9, _), (10, _)]) (fun ρ wz m => ∃ (k : Nat), ρ = [(3, .int .i64 (((xs.take k).flatten.length : Nat) : Int)), (11, .int .i64 (k : Nat))] ∧ m = xs.length - k ∧ UpdL [] w wz ∧ (k ≤ xs.length)) (ρ₀ := [(3, _), (11, _)]) (m₀ := _) ⟨rfl, rfl, rfl, rfl, rfl, trivial⟩ ⟨0, (by simp), rfl, (UpdL.refl _ _), (by first | omega | rfl | (simp; done) | assumption | (simp_all; done))⟩ ?_
  rintro _ wl1 _ ⟨k, rfl, rfl, hU0, hk⟩
  have hB := hB.loop hU0 trivial
  have hfl := flat_le (xs := xs) k
  refine CW.seq ?_
  refine CW.reg ?_
  refine WL.pure rfl rfl rfl (PV.lss rfl rfl) ?_
  refine WL.nilS ?_
  refine CW.seq ?_
  refine CW.cond rfl (fun hc1 => ?_) (fun hc1 => ?_)
  · skip
    try simp only [decide_eq_true_eq, decide_eq_false_iff_not, Bool.not_eq_true', Bool.not_eq_false', Bool.not_eq_eq_eq_not, Bool.not_true, Bool.not_false, Int.not_lt, Int.not_le, Classical.not_not, beq_iff_eq, beq_eq_false_iff_ne] at hc1
    refine CW.skipS ?_
    refine CW.seq ?_
    refine CW.block ?_
    refine CW.seq ?_
    refine CW.reg ?_
    first
      | refine WL.at (x := .tmp 9) (y := .tmp 11) (E := ESl EI) ([]) rfl rfl (by first | assumption | exact Inn.rd (by assumption) (by omega)) (by first | omega | (simp only [List.length_set]; omega) | (simp only [List.length_append, List.length_take, List.length_replicate, List.length_drop]; omega)) (fun p1 csp1 hpp1 hcp1 hq => ?_)
      | refine WL.atZ (x := .tmp 9) (y := .tmp 11) (E := ESl EI) ([]) rfl rfl (by first | assumption | exact Inn.rd (by assumption) (by omega)) (by first | omega | (simp only [List.length_set]; omega) | (simp only [List.length_append, List.length_take, List.length_replicate, List.length_drop]; omega)) (fun p1 csp1 hpp1 hzp1 hcp1 hq => ?_)
    obtain ⟨vq, rfl, hrq⟩ := hq; have hrql := hrq.leI
    refine WL.pure rfl rfl rfl ((by first | exact PV.indexAddr hpp1 rfl rfl T.sl28 | exact PV.indexAddr hpp1 rfl (by rw [← hzp1]; rfl) T.sl28)) ?_
    refine WL.pure rfl rfl rfl ((by first | exact PV.load0 T.na26 rfl (by first | exact Cells.up (by assumption) hB | exact Bx.cells (by assumption) | assumption) (Ext.refl _) rfl | exact PV.load1 T.na26 rfl (by first | exact Cells.up (by assumption) hB | exact Bx.cells (by assumption) | assumption) (Ext.refl _) rfl)) ?_
    refine WL.pure rfl rfl rfl (PV.assign rfl) ?_
    refine WL.nilS ?_
    refine CW.seq ?_
    refine CW.reg ?_
    have hfs := congrArg List.length (flat_succ (xs := xs) (k := k) (by omega)); rw [List.length_append] at hfs; have hfl1 := flat_le (xs := xs) (k + 1)
    refine WL.pure rfl rfl rfl (PV.move rfl) ?_
    refine WL.pure rfl rfl rfl (PV.move rfl) ?_
    refine WL.pure rfl rfl rfl ((by first | exact PV.len rfl (by assumption) T.sl26 | exact PV.lenOs rfl (by assumption) T.sl26 | exact PV.len rfl (NL.rd (by assumption)) T.sl26 | exact PV.len rfl (Inn.rd (by assumption) (by omega)) T.sl26)) ?_
    refine WL.pure rfl rfl rfl (PV.add rfl rfl (by constructor <;> omega)) ?_
    refine WL.pure rfl rfl rfl (PV.assign rfl) ?_
    refine WL.nilS ?_
    refine CW.seq ?_
    refine CW.reg ?_
    refine WL.pure rfl rfl rfl (PV.move rfl) ?_
    refine WL.pure rfl rfl rfl (PV.lss rfl rfl) ?_
    refine WL.nilS ?_
    refine CW.cond rfl (fun hc2 => ?_) (fun hc2 => ?_)
    · skip
      try simp only [decide_eq_true_eq, decide_eq_false_iff_not, Bool.not_eq_true', Bool.not_eq_false', Bool.not_eq_eq_eq_not, Bool.not_true, Bool.not_false, Int.not_lt, Int.not_le, Classical.not_not, beq_iff_eq, beq_eq_false_iff_ne] at hc2
      exfalso; omega
    try simp only [decide_eq_true_eq, decide_eq_false_iff_not, Bool.not_eq_true', Bool.not_eq_false', Bool.not_eq_eq_eq_not, Bool.not_true, Bool.not_false, Int.not_lt, Int.not_le, Classical.not_not, beq_iff_eq, beq_eq_false_iff_ne] at hc2
    refine CW.skip ?_
    refine NQ.block ?_
    refine NQ.then ?_
    refine CW.reg ?_
    refine WL.pure rfl rfl rfl (PV.add rfl rfl (by constructor <;> omega)) ?_
    refine WL.pure rfl rfl rfl (PV.move rfl) ?_
    refine WL.nil ?_
    refine NQ.next (ρ := [(3, _), (11, _)]) ⟨rfl, rfl, rfl, rfl, rfl, trivial⟩ ?_
    exact ⟨_, ⟨k + 1, (by have e9 : (((xs.take (k + 1)).flatten.length : Nat) : Int) = ((xs.take k).flatten.length : Int) + ((xs.getD k []).length : Int) := (by omega); rw [e9]; rfl), rfl, hU0, (by first | omega | assumption | (simp_all; done) | (simp_all; omega))⟩, by omega⟩
  try simp only [decide_eq_true_eq, decide_eq_false_iff_not, Bool.not_eq_true', Bool.not_eq_false', Bool.not_eq_eq_eq_not, Bool.not_true, Bool.not_false, Int.not_lt, Int.not_le, Classical.not_not, beq_iff_eq, beq_eq_false_iff_ne] at hc1
  refine CW.exit ?_
  refine XQ.then ?_
  refine XQ.then ?_
  refine XQ.here ?_
  refine NQ.then ?_
  refine CW.seq ?_
  refine CW.reg ?_
  refine WL.pure rfl rfl rfl (PV.move rfl) ?_
  refine WL.op rfl (OpK.call rfl T.cf138 rfl (c_slices_Grow_int64_int64 (by first | assumption | omega | (simp only [marks_len, marksB_len, marksR_len, sumL_marksS, List.length_take]; omega))) (fun rv1 w1 hR => ?_))
  obtain ⟨hXw1, v1, og1, rfl, ho1, hq1⟩ := hR
  have hl1 := Lo.up hq1 hB
  have hB := hB.trans hXw1
  refine WL.pure rfl rfl rfl (PV.assign rfl) ?_
  refine WL.nilS ?_
  refine CW.seq ?_
  refine CW.seq ?_
  refine CW.reg ?_
  refine WL.pure rfl rfl rfl (PV.move rfl) ?_
  refine WL.pure rfl rfl rfl ((by first | exact PV.len rfl (by assumption) T.sl28 | exact PV.lenOs rfl (by assumption) T.sl28 | exact PV.len rfl (NL.rd (by assumption)) T.sl28 | exact PV.len rfl (Inn.rd (by assumption) (by omega)) T.sl28)) ?_
  refine WL.pure rfl rfl rfl (PV.move rfl) ?_
  refine WL.nilS ?_
  refine CW.block ?_
  have hlt1 := ho1.ltO
  refine CW.loop (σk := [(25, _), (26, _)]) (fun ρ wz m => ∃ (v2 : Value) (og2 : Option Nat) (k : Nat), ρ = [(6, v2), (27, .int .i64 (k : Nat))] ∧ m = xs.length - k ∧ UpdL [og1] w1 wz ∧ Osl VI wz og2 v2 ((xs.take k).flatten) ∧ OgR w1 og1 og2 ∧ (k ≤ xs.length)) (ρ₀ := [(6, _), (27, _)]) (m₀ := _) ⟨rfl, rfl, rfl, rfl, trivial⟩ ⟨rv1, og1, 0, rfl, rfl, (UpdL.refl _ _), osE ho1 (by simp), OgR.refl _ _, (by first | omega | rfl | (simp; done) | assumption | (simp_all; done))⟩ ?_
  rintro _ wl2 _ ⟨v2, og2, k, rfl, rfl, hU1, ho2, ha2, hk⟩
  have hl2 := Lo.ogr hl1 hB ha2
  have hg1_2 := ha2
  have hk1_2 : OkB [og1] w1 og2 := OkB.ogr (OkB.mem (by simp)) (Nat.le_refl _) ha2
  have hB := hB.loop hU1 ⟨hl1, trivial⟩
  have hfl := flat_le (xs := xs) k
  refine CW.seq ?_
  refine CW.reg ?_
  refine WL.pure rfl rfl rfl (PV.lss rfl rfl) ?_
  refine WL.nilS ?_
  refine CW.seq ?_
  refine CW.cond rfl (fun hc3 => ?_) (fun hc3 => ?_)
  · skip
    try simp only [decide_eq_true_eq, decide_eq_false_iff_not, Bool.not_eq_true', Bool.not_eq_false', Bool.not_eq_eq_eq_not, Bool.not_true, Bool.not_false, Int.not_lt, Int.not_le, Classical.not_not, beq_iff_eq, beq_eq_false_iff_ne] at hc3
    refine CW.skipS ?_
    refine CW.seq ?_
    refine CW.block ?_
    refine CW.seq ?_
    refine CW.reg ?_
    first
      | refine WL.at (x := .tmp 25) (y := .tmp 27) (E := ESl EI) ([]) rfl rfl (by first | assumption | exact Inn.rd (by assumption) (by omega)) (by first | omega | (simp only [List.length_set]; omega) | (simp only [List.length_append, List.length_take, List.length_replicate, List.length_drop]; omega)) (fun p2 csp2 hpp2 hcp2 hq => ?_)
      | refine WL.atZ (x := .tmp 25) (y := .tmp 27) (E := ESl EI) ([]) rfl rfl (by first | assumption | exact Inn.rd (by assumption) (by omega)) (by first | omega | (simp only [List.length_set]; omega) | (simp only [List.length_append, List.length_take, List.length_replicate, List.length_drop]; omega)) (fun p2 csp2 hpp2 hzp2 hcp2 hq => ?_)
    obtain ⟨vq, rfl, hrq⟩ := hq; have hrql := hrq.leI
    refine WL.pure rfl rfl rfl ((by first | exact PV.indexAddr hpp2 rfl rfl T.sl28 | exact PV.indexAddr hpp2 rfl (by rw [← hzp2]; rfl) T.sl28)) ?_
    refine WL.pure rfl rfl rfl ((by first | exact PV.load0 T.na26 rfl (by first | exact Cells.up (by assumption) hB | exact Bx.cells (by assumption) | assumption) (Ext.refl _) rfl | exact PV.load1 T.na26 rfl (by first | exact Cells.up (by assumption) hB | exact Bx.cells (by assumption) | assumption) (Ext.refl _) rfl)) ?_
    refine WL.pure rfl rfl rfl (PV.assign rfl) ?_
    refine WL.nilS ?_
    refine CW.reg ?_
    have hfs := congrArg List.length (flat_succ (xs := xs) (k := k) (by omega)); rw [List.length_append] at hfs; have hfl1 := flat_le (xs := xs) (k + 1)
    refine WL.pure rfl rfl rfl (PV.move rfl) ?_
    refine WL.pure rfl rfl rfl (PV.move rfl) ?_
    refine WL.op rfl (OpK.appendS (f := VI) rfl T.sl26 T.zv2 rfl rfl ho2 rfl (Rd.src (by first | assumption | exact Rd.up (by assumption) hB | exact Inn.rd (by assumption) (by omega)) (fun _ => rfl)) (by first | (simp only [List.length_cons, List.length_nil]; omega) | (omega)) (fun v3 og3 w2 hXw2 ho3 hap3 => ?_))
    have hl3 := Lo.app hl2 hB hap3
    have hk1_3 := OkN.app hU1 hk1_2 hap3
    have hg1_3 := OgR.app hg1_2 hU1.size hap3
    have hB := hB.updL hXw2 hl2
    have hU1 := hU1.step hXw2 hk1_2
    refine WL.pure rfl rfl rfl (PV.assign rfl) ?_
    refine WL.nil ?_
    refine NQ.block ?_
    refine NQ.then ?_
    refine CW.reg ?_
    refine WL.pure rfl rfl rfl (PV.add rfl rfl (by constructor <;> omega)) ?_
    refine WL.pure rfl rfl rfl (PV.move rfl) ?_
    refine WL.nil ?_
    refine NQ.next (ρ := [(6, _), (27, _)]) ⟨rfl, rfl, rfl, rfl, trivial⟩ ?_
    exact ⟨_, ⟨v3, og3, k + 1, rfl, rfl, hU1, osE ho3 (by exact flat_put (by omega)), (by first | exact hg1_3 | exact OgR.weak hg1_3), (by first | omega | assumption | (simp_all; done) | (simp_all; omega))⟩, by omega⟩
  try simp only [decide_eq_true_eq, decide_eq_false_iff_not, Bool.not_eq_true', Bool.not_eq_false', Bool.not_eq_eq_eq_not, Bool.not_true, Bool.not_false, Int.not_lt, Int.not_le, Classical.not_not, beq_iff_eq, beq_eq_false_iff_ne] at hc3
  refine CW.exit ?_
  refine XQ.then ?_
  refine XQ.then ?_
  refine XQ.here ?_
  refine NQ.then ?_
  refine CW.seq ?_
  refine CW.reg ?_
  refine WL.pure rfl rfl rfl (PV.move rfl) ?_
  refine WL.pure rfl rfl rfl (PV.assign rfl) ?_
  refine WL.nilS ?_
  refine CW.ret ?_
  refine RQ.r1 rfl ?_
  refine ⟨hB, v2, og2, ?_, osE ho2 ?_, hl2⟩
  · skip
    rfl
  · skip
    rw [List.take_of_length_le (by omega)]

end Go.Proofs.Ythjeebjgdeldkaa
