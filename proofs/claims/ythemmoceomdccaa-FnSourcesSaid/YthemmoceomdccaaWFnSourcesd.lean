/- Walks of the functions that the law FnSources reaches: each says what its function computes. No condition. -/
import Derived.Test.YthemmoceomdccaaProg
import Derived.Test.YthemmoceomdccaaLibM
import Derived.Test.YthemmoceomdccaaPlA
import Derived.Test.YthemmoceomdccaaLibT
import Derived.Test.YthemmoceomdccaaLibV
import Derived.Test.YthemmoceomdccaaPlK
import Derived.Test.YthemmoceomdccaaPlQ
import Derived.Test.YthemmoceomdccaaPlL
import Derived.Test.YthemmoceomdccaaPlO
import Derived.Test.YthemmoceomdccaaPlG
import Derived.Test.YthemmoceomdccaaLibW
import Derived.Test.YthemmoceomdccaaPlSo
import Derived.Test.YthemmoceomdccaaPlFc
import Derived.Test.YthemmoceomdccaaPlDr
import Derived.Test.YthemmoceomdccaaLibY
import Derived.Test.YthemmoceomdccaaPlLs
import Derived.Test.YthemmoceomdccaaPlFs
import Derived.Test.YthemmoceomdccaaWFnSourcesc
namespace Go.Proofs.Ythemmoceomdccaa
open Go Go.WX Go.Proofs
set_option linter.unusedSimpArgs false
set_option linter.unusedVariables false

theorem c_spec_l05Meets {w : World} {va : Value} {cs : List C4}  (ha : Rd ECh w va cs) (hoks : ∀ k : Nat, k < cs.length → okC (cs.getD k d4)) (h8 : cs.length ≤ 8) : Calls Try.prog 184 #[va] w (Ret1 (fun v w' => Ext w w' ∧ ∃ (u : Value) (og_u : Option Nat) (vs_u : List M4) (os_u : List (Option Nat)), v = u ∧ (MO cs vs_u (ov1 cs cs.length)) ∧ Osn 4 gM w' og_u u vs_u ∧ Lo w og_u ∧ Inn w' os_u (vs_u.map fM) ((ov1 cs cs.length).map (ovW cs)) ∧ LoI w os_u ∧ DI os_u og_u)) := by
  have hB : Ext w w := Ext.refl w
  have hla := ha.leI
  refine callsOf (vs := [_]) Try.func184 rfl Try.ntmps184 rfl rfl ?_
  refine CW.seq ?_
  refine CW.reg ?_
  refine WL.pure rfl rfl rfl (PV.assign rfl) ?_
  refine WL.nilS ?_
  refine CW.seq ?_
  refine CW.reg ?_
  refine WL.op rfl (OpK.buildN (g := gM) (os := []) [] gM_ok rfl T.sl201 rfl rfl T.zv204 rfl rfl (fun v1 g1 w1 hXw1 ho1 hge1 => ?_))
  have hl1 := Lo.new hB hge1
  have hB := hB.trans hXw1
  refine WL.pure rfl rfl rfl (PV.assign rfl) ?_
  refine WL.nilS ?_
  refine CW.seq ?_
  refine CW.seq ?_
  refine CW.reg ?_
  refine WL.pure rfl rfl rfl (PV.move rfl) ?_
  refine WL.pure rfl rfl rfl ((by first | exact PV.len rfl (by assumption) T.sl98 | exact PV.lenOs rfl (by assumption) T.sl98 | exact PV.len rfl (NL.rd (by assumption)) T.sl98 | exact PV.len rfl (Inn.rd (by assumption) (by omega)) T.sl98)) ?_
  refine WL.pure rfl rfl rfl (PV.move rfl) ?_
  refine WL.nilS ?_
  refine CW.block ?_
  have hn2 := Inn.zero w1
  have hl2 := LoI.nl w
  have hd1_2 : DI [] (some g1) := DI.zero _
  have hlt1 := ho1.ltO
  have hlt2 := hn2.ltO
  refine CW.loop (σk := [(0, _), (13, _)]) (fun ρ wz m => ∃ (v3 : Value) (og3 : Option Nat) (vs3 : List M4) (os3 : List (Option Nat)) (i : Nat), ρ = [(3, v3), (14, .int .i64 (i : Nat))] ∧ m = cs.length - i ∧ UpdL [(some g1)] w1 wz ∧ Osn 4 gM wz og3 v3 (vs3) ∧ OgR w1 (some g1) og3 ∧ Inn wz os3 (vs3.map fM) ((ov1 cs i).map (ovW cs)) ∧ BlR w1 [] os3 ∧ DI os3 og3 ∧ (i ≤ cs.length) ∧ (MO cs vs3 (ov1 cs i))) (ρ₀ := [(3, _), (14, _)]) (m₀ := _) ⟨rfl, rfl, rfl, rfl, trivial⟩ ⟨v1, (some g1), _, [], 0, rfl, rfl, (UpdL.refl _ _), ho1, OgR.refl _ _, innE hn2 (by rfl), BlR.refl _ _, hd1_2, (by first | omega | rfl | (simp; done) | assumption | (simp_all; done)), (by exact MO.zero _)⟩ ?_
  rintro _ wl1 _ ⟨v3, og3, vs3, os3, i, rfl, rfl, hU0, ho3, ha3, hn4, hy4, hd3_4, hi, hC⟩
  have hl3 := Lo.ogr hl1 hB ha3
  have hg0_3 := ha3
  have hk0_3 : OkB [(some g1)] w1 og3 := OkB.ogr (OkB.mem (by simp)) (Nat.le_refl _) ha3
  have hBpre0 := hB
  have hB := hB.loop hU0 ⟨hl1, trivial⟩
  have hlv4 := hn4.lv
  have hz0_4 := hy4
  have hl4 := LoI.blr hl2 hBpre0 hy4
  refine CW.seq ?_
  refine CW.reg ?_
  refine WL.pure rfl rfl rfl (PV.lss rfl rfl) ?_
  refine WL.nilS ?_
  refine CW.seq ?_
  refine CW.cond rfl (fun hc1 => ?_) (fun hc1 => ?_)
  · skip
    try simp only [decide_eq_true_eq, decide_eq_false_iff_not, Bool.not_eq_true', Bool.not_eq_false', Bool.not_eq_eq_eq_not, Bool.not_true, Bool.not_false, Int.not_lt, Int.not_le, Classical.not_not, beq_iff_eq, beq_eq_false_iff_ne] at hc1
    refine CW.skipS ?_
    refine CW.seq ?_
    refine CW.block ?_
    refine CW.seq ?_
    refine CW.reg ?_
    have hoki := hoks i (by omega); have hok1i := hoki.2.1
    refine WL.pure rfl rfl rfl (PV.move rfl) ?_
    refine WL.pure rfl rfl rfl (PV.assign rfl) ?_
    refine WL.nilS ?_
    refine CW.seq ?_
    refine CW.reg ?_
    refine WL.pure rfl rfl rfl (PV.move rfl) ?_
    refine WL.pure rfl rfl rfl ((by first | exact PV.len rfl (by assumption) T.sl98 | exact PV.lenOs rfl (by assumption) T.sl98 | exact PV.len rfl (NL.rd (by assumption)) T.sl98 | exact PV.len rfl (Inn.rd (by assumption) (by omega)) T.sl98)) ?_
    refine WL.pure rfl rfl rfl (PV.move rfl) ?_
    refine WL.nilS ?_
    refine CW.block ?_
    have hlt4 := hn4.ltO
    have hlt3 := ho3.ltO
    refine CW.loop (σk := [(0, _), (4, _), (13, _), (14, _), (18, _)]) (fun ρ wz m => ∃ (v5 : Value) (og5 : Option Nat) (vs5 : List M4) (os5 : List (Option Nat)) (j : Nat), ρ = [(3, v5), (19, .int .i64 (j : Nat))] ∧ m = cs.length - j ∧ UpdL [og3] wl1 wz ∧ Osn 4 gM wz og5 v5 (vs5) ∧ OgR wl1 og3 og5 ∧ Inn wz os5 (vs5.map fM) ((ov1 cs i ++ ov2 cs i j).map (ovW cs)) ∧ BlR wl1 os3 os5 ∧ DI os5 og5 ∧ (j ≤ cs.length) ∧ (MO cs vs5 (ov1 cs i ++ ov2 cs i j))) (ρ₀ := [(3, _), (19, _)]) (m₀ := _) ⟨rfl, rfl, rfl, rfl, rfl, rfl, rfl, trivial⟩ ⟨v3, og3, _, os3, 0, rfl, rfl, (UpdL.refl _ _), ho3, OgR.refl _ _, innE hn4 (by rw [← ovQ_zero2]), BlR.refl _ _, hd3_4, (by first | omega | rfl | (simp; done) | assumption | (simp_all; done)), (by rw [← ovQ_zero2]; exact hC)⟩ ?_
    rintro _ wl2 _ ⟨v5, og5, vs5, os5, j, rfl, rfl, hU1, ho5, ha5, hn6, hy6, hd5_6, hj, hC⟩
    have hU0 := hU0.trans hU1 ⟨hk0_3, trivial⟩
    have hl5 := Lo.ogr hl3 hB ha5
    have hg1_5 := ha5
    have hk1_5 : OkB [og3] wl1 og5 := OkB.ogr (OkB.mem (by simp)) (Nat.le_refl _) ha5
    have hk0_5 := OkB.ogr hk0_3 (by first | assumption | exact UpdL.size (by assumption)) ha5
    have hg0_5 := OgR.trans hg0_3 (by first | assumption | exact UpdL.size (by assumption)) ha5
    have hBpre1 := hB
    have hB := hB.loop hU1 ⟨hl3, trivial⟩
    have hlv6 := hn6.lv
    have hz1_6 := hy6
    have hz0_6 := BlR.trans hz0_4 (by first | assumption | exact UpdL.size (by assumption)) hy6
    have hl6 := LoI.blr hl4 hBpre1 hy6
    refine CW.seq ?_
    refine CW.reg ?_
    refine WL.pure rfl rfl rfl (PV.lss rfl rfl) ?_
    refine WL.nilS ?_
    refine CW.seq ?_
    refine CW.cond rfl (fun hc2 => ?_) (fun hc2 => ?_)
    · skip
      try simp only [decide_eq_true_eq, decide_eq_false_iff_not, Bool.not_eq_true', Bool.not_eq_false', Bool.not_eq_eq_eq_not, Bool.not_true, Bool.not_false, Int.not_lt, Int.not_le, Classical.not_not, beq_iff_eq, beq_eq_false_iff_ne] at hc2
      refine CW.skipS ?_
      refine CW.seq ?_
      refine CW.block ?_
      refine CW.seq ?_
      refine CW.reg ?_
      have hokj := hoks j (by omega); have hok1j := hokj.2.1
      refine WL.pure rfl rfl rfl (PV.move rfl) ?_
      refine WL.pure rfl rfl rfl (PV.assign rfl) ?_
      refine WL.nilS ?_
      refine CW.seq ?_
      refine CW.reg ?_
      refine WL.pure rfl rfl rfl (PV.move rfl) ?_
      refine WL.pure rfl rfl rfl (PV.move rfl) ?_
      first
        | refine WL.at (x := .tmp 22) (y := .tmp 23) (E := ECh) (d4) rfl rfl (by first | assumption | exact Inn.rd (by assumption) (by omega)) (by first | omega | (simp only [List.length_set]; omega) | (simp only [List.length_append, List.length_take, List.length_replicate, List.length_drop]; omega)) (fun p1 csp1 hpp1 hcp1 hq => ?_)
        | refine WL.atZ (x := .tmp 22) (y := .tmp 23) (E := ECh) (d4) rfl rfl (by first | assumption | exact Inn.rd (by assumption) (by omega)) (by first | omega | (simp only [List.length_set]; omega) | (simp only [List.length_append, List.length_take, List.length_replicate, List.length_drop]; omega)) (fun p1 csp1 hpp1 hzp1 hcp1 hq => ?_)
      obtain ⟨vq0, vq1, vq2, vq3, rfl, hq0, hq1, hq2, hq3⟩ := ECh.parts hq
      refine WL.pure rfl rfl rfl ((by first | exact PV.indexAddr hpp1 rfl rfl T.sl98 | exact PV.indexAddr hpp1 rfl (by rw [← hzp1]; rfl) T.sl98)) ?_
      refine WL.pure rfl rfl rfl ((by first | exact PV.fieldAddr T.fl107_1 rfl (by first | assumption | exact Bx.cells (by assumption)) | exact PV.fieldAddrP T.fl107_1 rfl rfl)) ?_
      refine WL.pure rfl rfl rfl ((by first | exact PV.load0 T.na28 rfl (by first | exact Cells.up (by assumption) hB | exact Bx.cells (by assumption) | assumption) (Ext.refl _) rfl | exact PV.load1 T.na28 rfl (by first | exact Cells.up (by assumption) hB | exact Bx.cells (by assumption) | assumption) (Ext.refl _) rfl)) ?_
      refine WL.pure rfl rfl rfl (PV.assign rfl) ?_
      refine WL.nilS ?_
      refine CW.seq ?_
      refine CW.reg ?_
      refine WL.pure rfl rfl rfl (PV.move rfl) ?_
      refine WL.pure rfl rfl rfl (PV.move rfl) ?_
      first
        | refine WL.at (x := .tmp 27) (y := .tmp 28) (E := ECh) (d4) rfl rfl (by first | assumption | exact Inn.rd (by assumption) (by omega)) (by first | omega | (simp only [List.length_set]; omega) | (simp only [List.length_append, List.length_take, List.length_replicate, List.length_drop]; omega)) (fun p2 csp2 hpp2 hcp2 hq => ?_)
        | refine WL.atZ (x := .tmp 27) (y := .tmp 28) (E := ECh) (d4) rfl rfl (by first | assumption | exact Inn.rd (by assumption) (by omega)) (by first | omega | (simp only [List.length_set]; omega) | (simp only [List.length_append, List.length_take, List.length_replicate, List.length_drop]; omega)) (fun p2 csp2 hpp2 hzp2 hcp2 hq => ?_)
      obtain ⟨vq0, vq1, vq2, vq3, rfl, hq0, hq1, hq2, hq3⟩ := ECh.parts hq
      refine WL.pure rfl rfl rfl ((by first | exact PV.indexAddr hpp2 rfl rfl T.sl98 | exact PV.indexAddr hpp2 rfl (by rw [← hzp2]; rfl) T.sl98)) ?_
      refine WL.pure rfl rfl rfl ((by first | exact PV.fieldAddr T.fl107_1 rfl (by first | assumption | exact Bx.cells (by assumption)) | exact PV.fieldAddrP T.fl107_1 rfl rfl)) ?_
      refine WL.pure rfl rfl rfl ((by first | exact PV.load0 T.na28 rfl (by first | exact Cells.up (by assumption) hB | exact Bx.cells (by assumption) | assumption) (Ext.refl _) rfl | exact PV.load1 T.na28 rfl (by first | exact Cells.up (by assumption) hB | exact Bx.cells (by assumption) | assumption) (Ext.refl _) rfl)) ?_
      refine WL.pure rfl rfl rfl (PV.assign rfl) ?_
      refine WL.nilS ?_
      refine CW.seq ?_
      refine CW.reg ?_
      refine WL.pure rfl rfl rfl (PV.move rfl) ?_
      refine WL.pure rfl rfl rfl ((by first | exact PV.len rfl (by assumption) T.sl28 | exact PV.lenOs rfl (by assumption) T.sl28 | exact PV.len rfl (NL.rd (by assumption)) T.sl28 | exact PV.len rfl (Inn.rd (by assumption) (by omega)) T.sl28)) ?_
      refine WL.pure rfl rfl rfl (PV.move rfl) ?_
      refine WL.pure rfl rfl rfl ((by first | exact PV.len rfl (by assumption) T.sl28 | exact PV.lenOs rfl (by assumption) T.sl28 | exact PV.len rfl (NL.rd (by assumption)) T.sl28 | exact PV.len rfl (Inn.rd (by assumption) (by omega)) T.sl28)) ?_
      refine WL.pure rfl rfl rfl (PV.min2 rfl rfl) ?_
      refine WL.pure rfl rfl rfl (PV.assign rfl) ?_
      refine WL.nilS ?_
      refine CW.seq ?_
      refine CW.seq ?_
      refine CW.reg ?_
      refine WL.pure rfl rfl rfl (PV.move rfl) ?_
      refine WL.pure rfl rfl rfl (PV.move rfl) ?_
      refine WL.pure rfl rfl rfl (PV.eql rfl rfl) ?_
      refine WL.nilS ?_
      refine CW.cond rfl (fun hc3 => ?_) (fun hc3 => ?_)
      · skip
        try simp only [decide_eq_true_eq, decide_eq_false_iff_not, Bool.not_eq_true', Bool.not_eq_false', Bool.not_eq_eq_eq_not, Bool.not_true, Bool.not_false, Int.not_lt, Int.not_le, Classical.not_not, beq_iff_eq, beq_eq_false_iff_ne] at hc3
        have hmo := mostN_eq (cs := cs) (i := i) (j := j) (by omega) hok1i.1; unfold patL at hmo
        refine CW.reg ?_
        refine WL.pure rfl rfl rfl (PV.move rfl) ?_
        refine WL.pure rfl rfl rfl (PV.sub rfl rfl (by constructor <;> omega)) ?_
        refine WL.pure rfl rfl rfl (PV.assign rfl) ?_
        refine WL.nilS ?_
        refine CW.seq ?_
        refine CW.reg ?_
        refine WL.pure rfl rfl rfl (PV.assign rfl) ?_
        refine WL.nilS ?_
        refine CW.block ?_
        have hlt6 := hn6.ltO
        have hlt5 := ho5.ltO
        refine CW.loop (σk := [(0, _), (4, _), (5, _), (6, _), (7, _), (8, _), (13, _), (14, _), (18, _), (19, _)]) (fun ρ wz m => ∃ (v7 : Value) (og7 : Option Nat) (vs7 : List M4) (os7 : List (Option Nat)) (n : Nat), ρ = [(3, v7), (9, .int .i64 ((n + 1 : Nat) : Int))] ∧ m = mostN cs i j - n ∧ UpdL [og5] wl2 wz ∧ Osn 4 gM wz og7 v7 (vs7) ∧ OgR wl2 og5 og7 ∧ Inn wz os7 (vs7.map fM) ((ovQ cs i j n).map (ovW cs)) ∧ BlR wl2 os5 os7 ∧ DI os7 og7 ∧ (n ≤ mostN cs i j) ∧ (MO cs vs7 (ovQ cs i j n))) (ρ₀ := [(3, _), (9, _)]) (m₀ := _) ⟨rfl, rfl, rfl, rfl, rfl, rfl, rfl, rfl, rfl, rfl, rfl, rfl, trivial⟩ ⟨v5, og5, _, os5, 0, rfl, rfl, (UpdL.refl _ _), ho5, OgR.refl _ _, innE hn6 (by rw [← ovQ_zero3]), BlR.refl _ _, hd5_6, (by first | omega | rfl | (simp; done) | assumption | (simp_all; done)), (by rw [← ovQ_zero3]; exact hC)⟩ ?_
        rintro _ wl3 _ ⟨v7, og7, vs7, os7, n, rfl, rfl, hU2, ho7, ha7, hn8, hy8, hd7_8, hn, hC⟩
        have hU0 := hU0.trans hU2 ⟨hk0_5, trivial⟩
        have hU1 := hU1.trans hU2 ⟨hk1_5, trivial⟩
        have hl7 := Lo.ogr hl5 hB ha7
        have hg2_7 := ha7
        have hk2_7 : OkB [og5] wl2 og7 := OkB.ogr (OkB.mem (by simp)) (Nat.le_refl _) ha7
        have hk0_7 := OkB.ogr hk0_5 (by first | assumption | exact UpdL.size (by assumption)) ha7
        have hg0_7 := OgR.trans hg0_5 (by first | assumption | exact UpdL.size (by assumption)) ha7
        have hk1_7 := OkB.ogr hk1_5 (by first | assumption | exact UpdL.size (by assumption)) ha7
        have hg1_7 := OgR.trans hg1_5 (by first | assumption | exact UpdL.size (by assumption)) ha7
        have hBpre2 := hB
        have hB := hB.loop hU2 ⟨hl5, trivial⟩
        have hlv8 := hn8.lv
        have hz2_8 := hy8
        have hz0_8 := BlR.trans hz0_6 (by first | assumption | exact UpdL.size (by assumption)) hy8
        have hz1_8 := BlR.trans hz1_6 (by first | assumption | exact UpdL.size (by assumption)) hy8
        have hl8 := LoI.blr hl6 hBpre2 hy8
        have hq300 := ovQ_300 (n := n) h8 hoks (show i ≤ cs.length by omega) (show j ≤ cs.length by omega) hn
        refine CW.seq ?_
        refine CW.seq ?_
        refine CW.reg ?_
        refine WL.pure rfl rfl rfl (PV.move rfl) ?_
        refine WL.pure rfl rfl rfl (PV.move rfl) ?_
        refine WL.pure rfl rfl rfl (PV.leq rfl rfl) ?_
        refine WL.nilS ?_
        refine CW.cond rfl (fun hc4 => ?_) (fun hc4 => ?_)
        · skip
          try simp only [decide_eq_true_eq, decide_eq_false_iff_not, Bool.not_eq_true', Bool.not_eq_false', Bool.not_eq_eq_eq_not, Bool.not_true, Bool.not_false, Int.not_lt, Int.not_le, Classical.not_not, beq_iff_eq, beq_eq_false_iff_ne] at hc4
          refine CW.skipS ?_
          refine CW.seq ?_
          refine CW.block ?_
          refine CW.seq ?_
          refine CW.draw T.mixed (by kernel_rfl) (fun _ _ _ _ _ h => h) (fun w8 w9 => Upd none w8 w9) 10 (.take 0 (.take 1 (.take 2 (.take 3 (.take 4 (.take 5 (.take 6 (.take 7 (.take 8 (.must 9 .done)))))))))) (by kernel_rfl) (fun w2 hXd => ?_)
          have hB := hB.trans hXd
          have hn8 := hn8.up hXd
          have ho7 := ho7.up hXd
          have hU0 := hU0.ext hXd
          have hU1 := hU1.ext hXd
          have hU2 := hU2.ext hXd
          have hBr := hB
          have hS : Upd none w2 w2 := Ext.toUpd (Ext.refl _)
          have hmr := mostN_rng cs i j; have hmr1 : mostN cs i j ≤ (cs.getD i d4).2.1.length := hmr.1; have hmr2 : mostN cs i j ≤ (cs.getD j d4).2.1.length := hmr.2; have hov : decide ((cs.getD i d4).2.1.drop (((cs.getD i d4).2.1.length : Int) - ((n + 1 : Nat) : Int)).toNat = (cs.getD j d4).2.1.take ((n + 1 : Nat) : Int).toNat) = ovP cs i j (n + 1) := (by rw [show (((cs.getD i d4).2.1.length : Int) - ((n + 1 : Nat) : Int)).toNat = (cs.getD i d4).2.1.length - (n + 1) from (by omega)]; rfl)
          refine HP.take rfl rfl rfl rfl hS (fun wS hS1 => PV.move rfl) ?_
          refine HP.take rfl rfl rfl rfl hS (fun wS hS1 => PV.move rfl) ?_
          refine HP.take rfl rfl rfl rfl hS (fun wS hS1 => (by first | exact PV.len rfl (by assumption) T.sl28 | exact PV.lenOs rfl (by assumption) T.sl28 | exact PV.len rfl (NL.rd (by assumption)) T.sl28 | exact PV.len rfl (Inn.rd (by assumption) (by omega)) T.sl28)) ?_
          refine HP.take rfl rfl rfl rfl hS (fun wS hS1 => PV.move rfl) ?_
          refine HP.take rfl rfl rfl rfl hS (fun wS hS1 => PV.sub rfl rfl (by constructor <;> omega)) ?_
          refine HP.slRL (x := .tmp 47) (lo := .tmp 51) (E := EI) T.sl28 rfl rfl  (by first | assumption | exact Osl.rd (by assumption)) (by first | omega | (simp; omega) | (simp_all; omega)) (fun u1 huu1 hru1 => ?_)
          refine HP.take rfl rfl rfl rfl hS (fun wS hS1 => (huu1 _ _ _ _ _ _)) ?_
          refine HP.take rfl rfl rfl rfl hS (fun wS hS1 => PV.move rfl) ?_
          refine HP.take rfl rfl rfl rfl hS (fun wS hS1 => PV.move rfl) ?_
          refine HP.slRH (x := .tmp 53) (hi := .tmp 54) (E := EI) T.sl28 rfl rfl  (by first | assumption | exact Osl.rd (by assumption)) (by first | omega | (simp; omega) | (simp_all; omega)) (fun u2 huu2 hru2 => ?_)
          refine HP.take rfl rfl rfl rfl hS (fun wS hS1 => (huu2 _ _ _ _ _ _)) ?_
          refine HP.must rfl rfl (OpK.callR rfl T.cf172 rfl (c_spec_l00Same (by first | assumption | exact Rd.up (by assumption) hB | exact Osl.rd (by assumption) | exact Osn.rdR (by assumption) | exact NL.rd (by assumption) | exact rdII (by assumption) (by assumption) | exact Inn.rd (by assumption) (by omega)) (by first | assumption | exact Rd.up (by assumption) hB | exact Osl.rd (by assumption) | exact Osn.rdR (by assumption) | exact NL.rd (by assumption) | exact rdII (by assumption) (by assumption) | exact Inn.rd (by assumption) (by omega))) (fun w3 hXw3 => ?_))
          refine ⟨Upd.trans hS hXw3, ?_⟩
          have hS := Upd.trans hS hXw3
          have hB := hB.trans hXw3
          have hn8 := hn8.up hXw3
          have ho7 := ho7.up hXw3
          have hU0 := hU0.ext hXw3
          have hU1 := hU1.ext hXw3
          have hU2 := hU2.ext hXw3
          refine HP.doneS ?_
          refine CW.cond rfl (fun hc5 => ?_) (fun hc5 => ?_)
          · skip
            try simp only [decide_eq_true_eq, decide_eq_false_iff_not, Bool.not_eq_true', Bool.not_eq_false', Bool.not_eq_eq_eq_not, Bool.not_true, Bool.not_false, Int.not_lt, Int.not_le, Classical.not_not, beq_iff_eq, beq_eq_false_iff_ne] at hc5
            have hyes : ovP cs i j (n + 1) = true := hov.symm.trans (decide_eq_true (by assumption))
            refine CW.seq ?_
            refine CW.draw T.mixed (by kernel_rfl) (fun _ _ _ _ _ h => h) (fun w8 w9 => Upd none w8 w9) 8 (.take 1 (.take 3 (.take 4 (.take 5 (.must 0 (.must 2 (.must 6 (.take 7 .done)))))))) (by kernel_rfl) (fun w4 hXd => ?_)
            have hB := hB.trans hXd
            have hn8 := hn8.up hXd
            have ho7 := ho7.up hXd
            have hU0 := hU0.ext hXd
            have hU1 := hU1.ext hXd
            have hU2 := hU2.ext hXd
            have hBr := hB
            have hS : Upd none w4 w4 := Ext.toUpd (Ext.refl _)
            refine HP.take rfl rfl rfl rfl hS (fun wS hS1 => PV.move rfl) ?_
            refine HP.take rfl rfl rfl rfl hS (fun wS hS1 => PV.move rfl) ?_
            refine HP.take rfl rfl rfl rfl hS (fun wS hS1 => PV.move rfl) ?_
            refine HP.slRL (x := .tmp 60) (lo := .tmp 61) (E := EI) T.sl28 rfl rfl  (by first | assumption | exact Osl.rd (by assumption)) (by first | omega | (simp; omega) | (simp_all; omega)) (fun u3 huu3 hru3 => ?_)
            refine HP.take rfl rfl rfl rfl hS (fun wS hS1 => (huu3 _ _ _ _ _ _)) ?_
            refine HP.must rfl rfl (OpK.buildS VI (os := []) [] rfl T.sl28 rfl rfl T.zv2 rfl (by intro z hz; cases hz) rfl (fun v9 g9 w5 hXw5 ho9 hge9 => ?_))
            have hl9 := Lo.new hB hge9
            have hv9 := Lo.new hS hge9
            have hd8_9 := DI.new hn8 hge9
            have hd7_9 := Dj.new ho7.ltO hge9
            have hk0_9 := OkN.new hU0 hge9
            have hg0_9 := OgR.new hU0.size hge9
            have hk1_9 := OkN.new hU1 hge9
            have hg1_9 := OgR.new hU1.size hge9
            have hk2_9 := OkN.new hU2 hge9
            have hg2_9 := OgR.new hU2.size hge9
            refine ⟨Upd.trans hS hXw5, ?_⟩
            have hS := Upd.trans hS hXw5
            have hB := hB.trans hXw5
            have hn8 := hn8.up hXw5
            have ho7 := ho7.up hXw5
            have hU0 := hU0.ext hXw5
            have hU1 := hU1.ext hXw5
            have hU2 := hU2.ext hXw5
            refine HP.must rfl rfl (OpK.appendS (f := VI) rfl T.sl28 T.zv2 rfl rfl ho9 rfl (Rd.src (by first | assumption | exact Rd.up (by assumption) hB | exact Inn.rd (by assumption) (by omega)) (fun _ => rfl)) (by first | (simp only [List.length_cons, List.length_nil]; omega) | (simp only [List.length_append, List.length_drop, List.length_nil]; omega)) (fun v10 og10 w6 hXw6 ho10 hap10 => ?_))
            have hl10 := Lo.app hl9 hB hap10
            have hv10 := Lo.app hv9 hS hap10
            have hd8_10 := DI.app hd8_9 hn8 hap10
            have hd7_10 := Dj.app hd7_9 ho7.ltO hap10
            have hk0_10 := OkN.app hU0 hk0_9 hap10
            have hg0_10 := OgR.app hg0_9 hU0.size hap10
            have hk1_10 := OkN.app hU1 hk1_9 hap10
            have hg1_10 := OgR.app hg1_9 hU1.size hap10
            have hk2_10 := OkN.app hU2 hk2_9 hap10
            have hg2_10 := OgR.app hg2_9 hU2.size hap10
            refine ⟨Ext.updL hS hXw6 hv9, ?_⟩
            have hS := Ext.updL hS hXw6 hv9
            have hB := hB.updL hXw6 hl9
            have hn8 := hn8.updD hXw6 hd8_9
            have ho7 := ho7.updD hXw6 hd7_9
            have hU0 := hU0.step hXw6 hk0_9
            have hU1 := hU1.step hXw6 hk1_9
            have hU2 := hU2.step hXw6 hk2_9
            refine HP.must rfl rfl (OpK.appendS (f := VI) rfl T.sl28 T.zv2 rfl rfl ho10 rfl (Rd.src (by first | assumption | exact Rd.up (by assumption) hB | exact Inn.rd (by assumption) (by omega)) (fun _ => rfl)) (by first | (simp only [List.length_cons, List.length_nil]; omega) | (simp only [List.length_append, List.length_drop, List.length_nil]; omega)) (fun v11 og11 w7 hXw7 ho11 hap11 => ?_))
            have hl11 := Lo.app hl10 hB hap11
            have hv11 := Lo.app hv10 hS hap11
            have hd8_11 := DI.app hd8_10 hn8 hap11
            have hd7_11 := Dj.app hd7_10 ho7.ltO hap11
            have hk0_11 := OkN.app hU0 hk0_10 hap11
            have hg0_11 := OgR.app hg0_10 hU0.size hap11
            have hk1_11 := OkN.app hU1 hk1_10 hap11
            have hg1_11 := OgR.app hg1_10 hU1.size hap11
            have hk2_11 := OkN.app hU2 hk2_10 hap11
            have hg2_11 := OgR.app hg2_10 hU2.size hap11
            refine ⟨Ext.updL hS hXw7 hv10, ?_⟩
            have hS := Ext.updL hS hXw7 hv10
            have hB := hB.updL hXw7 hl10
            have hn8 := hn8.updD hXw7 hd8_10
            have ho7 := ho7.updD hXw7 hd7_10
            have hU0 := hU0.step hXw7 hk0_10
            have hU1 := hU1.step hXw7 hk1_10
            have hU2 := hU2.step hXw7 hk2_10
            refine HP.take rfl rfl rfl rfl hS (fun wS hS1 => PV.assign rfl) ?_
            refine HP.doneS ?_
            refine CW.reg ?_
            refine WL.pure rfl rfl rfl (PV.move rfl) ?_
            refine WL.pure rfl rfl rfl (PV.move rfl) ?_
            refine WL.pure rfl rfl rfl (PV.move rfl) ?_
            refine WL.pure rfl rfl rfl ((by first | exact PV.len rfl (by assumption) T.sl28 | exact PV.lenOs rfl (by assumption) T.sl28 | exact PV.len rfl (NL.rd (by assumption)) T.sl28 | exact PV.len rfl (Inn.rd (by assumption) (by omega)) T.sl28)) ?_
            refine WL.pure rfl rfl rfl (PV.move rfl) ?_
            refine WL.pure rfl rfl rfl (PV.sub rfl rfl (by constructor <;> omega)) ?_
            refine WL.pure rfl rfl rfl (PV.move rfl) ?_
            refine WL.pure rfl rfl rfl (PV.move rfl) ?_
            refine WL.pure rfl rfl rfl (PV.build (ks := [0, 1, 2, 3]) (os := [.tmp 65, .tmp 69, .tmp 70, .tmp 71]) (css := [[_], [_], [_], [_]]) (ds := [_, _, _, _]) T.bu204 rfl rfl ⟨(by first | exact Rd.cells1 (by assumption) | exact Osl.cells1 (by assumption) | exact Osn.cells1 (by assumption) | exact Rd.cells1 (NL.rd (by assumption)) | exact Inn.cell1 (by assumption) (by omega) | assumption | rfl), (by first | exact Rd.cells1 (by assumption) | exact Osl.cells1 (by assumption) | exact Osn.cells1 (by assumption) | exact Rd.cells1 (NL.rd (by assumption)) | exact Inn.cell1 (by assumption) (by omega) | assumption | rfl), (by first | exact Rd.cells1 (by assumption) | exact Osl.cells1 (by assumption) | exact Osn.cells1 (by assumption) | exact Rd.cells1 (NL.rd (by assumption)) | exact Inn.cell1 (by assumption) (by omega) | assumption | rfl), (by first | exact Rd.cells1 (by assumption) | exact Osl.cells1 (by assumption) | exact Osn.cells1 (by assumption) | exact Rd.cells1 (NL.rd (by assumption)) | exact Inn.cell1 (by assumption) (by omega) | assumption | rfl), trivial⟩ rfl) ?_
            have hga12 := gM_agg (Osl.rd ho11) (((cs.getD i d4).2.1.length : Int) - ((n + 1 : Nat) : Int)) ((i : Nat) : Int) ((j : Nat) : Int)
            refine WL.op rfl (OpK.buildN (g := gM) (os := [.tmp 72]) [(shOf v11, (((cs.getD i d4).2.1.length : Int) - ((n + 1 : Nat) : Int), ((i : Nat) : Int), ((j : Nat) : Int)))] gM_ok rfl T.sl201 rfl rfl T.zv204 (congrArg (fun z => some [z]) hga12) rfl (fun v12 g12 w8 hXw8 ho12 hge12 => ?_))
            have hl12 := Lo.new hB hge12
            have hd8_12 := DI.new hn8 hge12
            have hd7_12 := Dj.new ho7.ltO hge12
            have hd11_12 := Dj.new ho11.ltO hge12
            have hk0_12 := OkN.new hU0 hge12
            have hg0_12 := OgR.new hU0.size hge12
            have hk1_12 := OkN.new hU1 hge12
            have hg1_12 := OgR.new hU1.size hge12
            have hk2_12 := OkN.new hU2 hge12
            have hg2_12 := OgR.new hU2.size hge12
            have hB := hB.trans hXw8
            have hn8 := hn8.up hXw8
            have ho7 := ho7.up hXw8
            have ho11 := ho11.up hXw8
            have hU0 := hU0.ext hXw8
            have hU1 := hU1.ext hXw8
            have hU2 := hU2.ext hXw8
            refine WL.op rfl (OpK.appendN (g := gM) rfl T.sl201 T.zv204 rfl rfl ho7 rfl (Osn.src ho12) (by first | (simp only [List.length_cons, List.length_nil]; omega) | (simp_all; omega)) (fun v13 og13 w9 hXw9 ho13 hap13 => ?_))
            have hn14 := innVE (Inn.put hn8 ho11 hd8_11) (fM_put (r := ((((cs.getD i d4).2.1.length : Int) - ((n + 1 : Nat) : Int), ((i : Nat) : Int), ((j : Nat) : Int)))) (Osl.rd ho11)) rfl
            have hl14 := LoI.put hl8 hl11
            have hz0_14 := BlR.put hz0_8 hg0_11
            have hz1_14 := BlR.put hz1_8 hg1_11
            have hz2_14 := BlR.put hz2_8 hg2_11
            have hd7_14 := DI.put hd7_8 (Dj.symm hd7_11)
            have hd12_14 := DI.put hd8_12 hd11_12
            have hnp14 := hn14
            have hl13 := Lo.app hl7 hB hap13
            have hd12_13 := Dj.app (Dj.symm hd7_12) ho12.ltO hap13
            have hd13_14 := DI.app hd7_14 hn14 hap13
            have hk0_13 := OkN.app hU0 hk0_7 hap13
            have hg0_13 := OgR.app hg0_7 hU0.size hap13
            have hk1_13 := OkN.app hU1 hk1_7 hap13
            have hg1_13 := OgR.app hg1_7 hU1.size hap13
            have hk2_13 := OkN.app hU2 hk2_7 hap13
            have hg2_13 := OgR.app hg2_7 hU2.size hap13
            have hB := hB.updL hXw9 hl7
            have ho12 := ho12.updD hXw9 (Dj.symm hd7_12)
            have hn14 := hn14.updD hXw9 hd7_14
            have hU0 := hU0.step hXw9 hk0_7
            have hU1 := hU1.step hXw9 hk1_7
            have hU2 := hU2.step hXw9 hk2_7
            refine WL.pure rfl rfl rfl (PV.assign rfl) ?_
            refine WL.nil ?_
            refine NQ.block ?_
            refine NQ.then ?_
            refine CW.reg ?_
            refine WL.pure rfl rfl rfl (PV.move rfl) ?_
            refine WL.pure rfl rfl rfl (PV.add rfl rfl (by constructor <;> omega)) ?_
            refine WL.pure rfl rfl rfl (PV.assign rfl) ?_
            refine WL.nil ?_
            refine NQ.next (ρ := [(3, _), (9, _)]) ⟨rfl, rfl, rfl, rfl, rfl, rfl, rfl, rfl, rfl, rfl, rfl, rfl, trivial⟩ ?_
            exact ⟨_, ⟨v13, og13, _, (os7 ++ [og11]), n + 1, rfl, rfl, hU2, ho13, (by first | exact hg2_13 | exact OgR.weak hg2_13), innE hn14 (by first | exact ovW_put hyes rfl (by simp [patL]) | (rw [← ovQ_no hnot])), (by first | exact hz2_14 | exact BlR.weak hz2_14), hd13_14, (by first | omega | assumption | (simp_all; done) | (simp_all; omega)), (by first | (rw [← ovQ_put hyes]; exact hC.put rfl) | (rw [← ovQ_no hnot]; exact hC))⟩, by omega⟩
          try simp only [decide_eq_true_eq, decide_eq_false_iff_not, Bool.not_eq_true', Bool.not_eq_false', Bool.not_eq_eq_eq_not, Bool.not_true, Bool.not_false, Int.not_lt, Int.not_le, Classical.not_not, beq_iff_eq, beq_eq_false_iff_ne] at hc5
          have hnot : ovP cs i j (n + 1) = false := hov.symm.trans (decide_eq_false (by assumption))
          refine CW.skip ?_
          refine NQ.block ?_
          refine NQ.then ?_
          refine CW.reg ?_
          refine WL.pure rfl rfl rfl (PV.move rfl) ?_
          refine WL.pure rfl rfl rfl (PV.add rfl rfl (by constructor <;> omega)) ?_
          refine WL.pure rfl rfl rfl (PV.assign rfl) ?_
          refine WL.nil ?_
          refine NQ.next (ρ := [(3, _), (9, _)]) ⟨rfl, rfl, rfl, rfl, rfl, rfl, rfl, rfl, rfl, rfl, rfl, rfl, trivial⟩ ?_
          exact ⟨_, ⟨v7, og7, _, os7, n + 1, rfl, rfl, hU2, ho7, (by first | exact hg2_7 | exact OgR.weak hg2_7), innE hn8 (by first | exact ovW_put hyes rfl (by simp [patL]) | (rw [← ovQ_no hnot])), (by first | exact hz2_8 | exact BlR.weak hz2_8), hd7_8, (by first | omega | assumption | (simp_all; done) | (simp_all; omega)), (by first | (rw [← ovQ_put hyes]; exact hC.put rfl) | (rw [← ovQ_no hnot]; exact hC))⟩, by omega⟩
        try simp only [decide_eq_true_eq, decide_eq_false_iff_not, Bool.not_eq_true', Bool.not_eq_false', Bool.not_eq_eq_eq_not, Bool.not_true, Bool.not_false, Int.not_lt, Int.not_le, Classical.not_not, beq_iff_eq, beq_eq_false_iff_ne] at hc4
        refine CW.exit ?_
        refine XQ.then ?_
        refine XQ.then ?_
        refine XQ.here ?_
        refine NQ.block ?_
        refine NQ.then ?_
        refine CW.reg ?_
        refine WL.pure rfl rfl rfl (PV.add rfl rfl (by constructor <;> omega)) ?_
        refine WL.pure rfl rfl rfl (PV.move rfl) ?_
        refine WL.nil ?_
        refine NQ.next (ρ := [(3, _), (19, _)]) ⟨rfl, rfl, rfl, rfl, rfl, rfl, rfl, trivial⟩ ?_
        exact ⟨_, ⟨v7, og7, _, os7, j + 1, rfl, rfl, hU1, ho7, (by first | exact hg1_7 | exact OgR.weak hg1_7), innE hn8 (by rw [← ovQ_next (n := n) (by omega)]), (by first | exact hz1_8 | exact BlR.weak hz1_8), hd7_8, (by first | omega | assumption | (simp_all; done) | (simp_all; omega)), (by rw [← ovQ_next (n := n) (by omega)]; exact hC)⟩, by omega⟩
      try simp only [decide_eq_true_eq, decide_eq_false_iff_not, Bool.not_eq_true', Bool.not_eq_false', Bool.not_eq_eq_eq_not, Bool.not_true, Bool.not_false, Int.not_lt, Int.not_le, Classical.not_not, beq_iff_eq, beq_eq_false_iff_ne] at hc3
      have hmo := mostN_ne (cs := cs) (i := i) (j := j) (by omega); unfold patL at hmo
      refine CW.skipS ?_
      refine CW.seq ?_
      refine CW.reg ?_
      refine WL.pure rfl rfl rfl (PV.assign rfl) ?_
      refine WL.nilS ?_
      refine CW.block ?_
      have hlt6 := hn6.ltO
      have hlt5 := ho5.ltO
      refine CW.loop (σk := [(0, _), (4, _), (5, _), (6, _), (7, _), (8, _), (13, _), (14, _), (18, _), (19, _)]) (fun ρ wz m => ∃ (v15 : Value) (og15 : Option Nat) (vs15 : List M4) (os15 : List (Option Nat)) (n : Nat), ρ = [(3, v15), (9, .int .i64 ((n + 1 : Nat) : Int))] ∧ m = mostN cs i j - n ∧ UpdL [og5] wl2 wz ∧ Osn 4 gM wz og15 v15 (vs15) ∧ OgR wl2 og5 og15 ∧ Inn wz os15 (vs15.map fM) ((ovQ cs i j n).map (ovW cs)) ∧ BlR wl2 os5 os15 ∧ DI os15 og15 ∧ (n ≤ mostN cs i j) ∧ (MO cs vs15 (ovQ cs i j n))) (ρ₀ := [(3, _), (9, _)]) (m₀ := _) ⟨rfl, rfl, rfl, rfl, rfl, rfl, rfl, rfl, rfl, rfl, rfl, rfl, trivial⟩ ⟨v5, og5, _, os5, 0, rfl, rfl, (UpdL.refl _ _), ho5, OgR.refl _ _, innE hn6 (by rw [← ovQ_zero3]), BlR.refl _ _, hd5_6, (by first | omega | rfl | (simp; done) | assumption | (simp_all; done)), (by rw [← ovQ_zero3]; exact hC)⟩ ?_
      rintro _ wl4 _ ⟨v15, og15, vs15, os15, n, rfl, rfl, hU2, ho15, ha15, hn16, hy16, hd15_16, hn, hC⟩
      have hU0 := hU0.trans hU2 ⟨hk0_5, trivial⟩
      have hU1 := hU1.trans hU2 ⟨hk1_5, trivial⟩
      have hl15 := Lo.ogr hl5 hB ha15
      have hg2_15 := ha15
      have hk2_15 : OkB [og5] wl2 og15 := OkB.ogr (OkB.mem (by simp)) (Nat.le_refl _) ha15
      have hk0_15 := OkB.ogr hk0_5 (by first | assumption | exact UpdL.size (by assumption)) ha15
      have hg0_15 := OgR.trans hg0_5 (by first | assumption | exact UpdL.size (by assumption)) ha15
      have hk1_15 := OkB.ogr hk1_5 (by first | assumption | exact UpdL.size (by assumption)) ha15
      have hg1_15 := OgR.trans hg1_5 (by first | assumption | exact UpdL.size (by assumption)) ha15
      have hBpre2 := hB
      have hB := hB.loop hU2 ⟨hl5, trivial⟩
      have hlv16 := hn16.lv
      have hz2_16 := hy16
      have hz0_16 := BlR.trans hz0_6 (by first | assumption | exact UpdL.size (by assumption)) hy16
      have hz1_16 := BlR.trans hz1_6 (by first | assumption | exact UpdL.size (by assumption)) hy16
      have hl16 := LoI.blr hl6 hBpre2 hy16
      have hq300 := ovQ_300 (n := n) h8 hoks (show i ≤ cs.length by omega) (show j ≤ cs.length by omega) hn
      refine CW.seq ?_
      refine CW.seq ?_
      refine CW.reg ?_
      refine WL.pure rfl rfl rfl (PV.move rfl) ?_
      refine WL.pure rfl rfl rfl (PV.move rfl) ?_
      refine WL.pure rfl rfl rfl (PV.leq rfl rfl) ?_
      refine WL.nilS ?_
      refine CW.cond rfl (fun hc6 => ?_) (fun hc6 => ?_)
      · skip
        try simp only [decide_eq_true_eq, decide_eq_false_iff_not, Bool.not_eq_true', Bool.not_eq_false', Bool.not_eq_eq_eq_not, Bool.not_true, Bool.not_false, Int.not_lt, Int.not_le, Classical.not_not, beq_iff_eq, beq_eq_false_iff_ne] at hc6
        refine CW.skipS ?_
        refine CW.seq ?_
        refine CW.block ?_
        refine CW.seq ?_
        refine CW.draw T.mixed (by kernel_rfl) (fun _ _ _ _ _ h => h) (fun w8 w9 => Upd none w8 w9) 10 (.take 0 (.take 1 (.take 2 (.take 3 (.take 4 (.take 5 (.take 6 (.take 7 (.take 8 (.must 9 .done)))))))))) (by kernel_rfl) (fun w10 hXd => ?_)
        have hB := hB.trans hXd
        have hn16 := hn16.up hXd
        have ho15 := ho15.up hXd
        have hU0 := hU0.ext hXd
        have hU1 := hU1.ext hXd
        have hU2 := hU2.ext hXd
        have hBr := hB
        have hS : Upd none w10 w10 := Ext.toUpd (Ext.refl _)
        have hmr := mostN_rng cs i j; have hmr1 : mostN cs i j ≤ (cs.getD i d4).2.1.length := hmr.1; have hmr2 : mostN cs i j ≤ (cs.getD j d4).2.1.length := hmr.2; have hov : decide ((cs.getD i d4).2.1.drop (((cs.getD i d4).2.1.length : Int) - ((n + 1 : Nat) : Int)).toNat = (cs.getD j d4).2.1.take ((n + 1 : Nat) : Int).toNat) = ovP cs i j (n + 1) := (by rw [show (((cs.getD i d4).2.1.length : Int) - ((n + 1 : Nat) : Int)).toNat = (cs.getD i d4).2.1.length - (n + 1) from (by omega)]; rfl)
        refine HP.take rfl rfl rfl rfl hS (fun wS hS1 => PV.move rfl) ?_
        refine HP.take rfl rfl rfl rfl hS (fun wS hS1 => PV.move rfl) ?_
        refine HP.take rfl rfl rfl rfl hS (fun wS hS1 => (by first | exact PV.len rfl (by assumption) T.sl28 | exact PV.lenOs rfl (by assumption) T.sl28 | exact PV.len rfl (NL.rd (by assumption)) T.sl28 | exact PV.len rfl (Inn.rd (by assumption) (by omega)) T.sl28)) ?_
        refine HP.take rfl rfl rfl rfl hS (fun wS hS1 => PV.move rfl) ?_
        refine HP.take rfl rfl rfl rfl hS (fun wS hS1 => PV.sub rfl rfl (by constructor <;> omega)) ?_
        refine HP.slRL (x := .tmp 47) (lo := .tmp 51) (E := EI) T.sl28 rfl rfl  (by first | assumption | exact Osl.rd (by assumption)) (by first | omega | (simp; omega) | (simp_all; omega)) (fun u4 huu4 hru4 => ?_)
        refine HP.take rfl rfl rfl rfl hS (fun wS hS1 => (huu4 _ _ _ _ _ _)) ?_
        refine HP.take rfl rfl rfl rfl hS (fun wS hS1 => PV.move rfl) ?_
        refine HP.take rfl rfl rfl rfl hS (fun wS hS1 => PV.move rfl) ?_
        refine HP.slRH (x := .tmp 53) (hi := .tmp 54) (E := EI) T.sl28 rfl rfl  (by first | assumption | exact Osl.rd (by assumption)) (by first | omega | (simp; omega) | (simp_all; omega)) (fun u5 huu5 hru5 => ?_)
        refine HP.take rfl rfl rfl rfl hS (fun wS hS1 => (huu5 _ _ _ _ _ _)) ?_
        refine HP.must rfl rfl (OpK.callR rfl T.cf172 rfl (c_spec_l00Same (by first | assumption | exact Rd.up (by assumption) hB | exact Osl.rd (by assumption) | exact Osn.rdR (by assumption) | exact NL.rd (by assumption) | exact rdII (by assumption) (by assumption) | exact Inn.rd (by assumption) (by omega)) (by first | assumption | exact Rd.up (by assumption) hB | exact Osl.rd (by assumption) | exact Osn.rdR (by assumption) | exact NL.rd (by assumption) | exact rdII (by assumption) (by assumption) | exact Inn.rd (by assumption) (by omega))) (fun w11 hXw11 => ?_))
        refine ⟨Upd.trans hS hXw11, ?_⟩
        have hS := Upd.trans hS hXw11
        have hB := hB.trans hXw11
        have hn16 := hn16.up hXw11
        have ho15 := ho15.up hXw11
        have hU0 := hU0.ext hXw11
        have hU1 := hU1.ext hXw11
        have hU2 := hU2.ext hXw11
        refine HP.doneS ?_
        refine CW.cond rfl (fun hc7 => ?_) (fun hc7 => ?_)
        · skip
          try simp only [decide_eq_true_eq, decide_eq_false_iff_not, Bool.not_eq_true', Bool.not_eq_false', Bool.not_eq_eq_eq_not, Bool.not_true, Bool.not_false, Int.not_lt, Int.not_le, Classical.not_not, beq_iff_eq, beq_eq_false_iff_ne] at hc7
          have hyes : ovP cs i j (n + 1) = true := hov.symm.trans (decide_eq_true (by assumption))
          refine CW.seq ?_
          refine CW.draw T.mixed (by kernel_rfl) (fun _ _ _ _ _ h => h) (fun w8 w9 => Upd none w8 w9) 8 (.take 1 (.take 3 (.take 4 (.take 5 (.must 0 (.must 2 (.must 6 (.take 7 .done)))))))) (by kernel_rfl) (fun w12 hXd => ?_)
          have hB := hB.trans hXd
          have hn16 := hn16.up hXd
          have ho15 := ho15.up hXd
          have hU0 := hU0.ext hXd
          have hU1 := hU1.ext hXd
          have hU2 := hU2.ext hXd
          have hBr := hB
          have hS : Upd none w12 w12 := Ext.toUpd (Ext.refl _)
          refine HP.take rfl rfl rfl rfl hS (fun wS hS1 => PV.move rfl) ?_
          refine HP.take rfl rfl rfl rfl hS (fun wS hS1 => PV.move rfl) ?_
          refine HP.take rfl rfl rfl rfl hS (fun wS hS1 => PV.move rfl) ?_
          refine HP.slRL (x := .tmp 60) (lo := .tmp 61) (E := EI) T.sl28 rfl rfl  (by first | assumption | exact Osl.rd (by assumption)) (by first | omega | (simp; omega) | (simp_all; omega)) (fun u6 huu6 hru6 => ?_)
          refine HP.take rfl rfl rfl rfl hS (fun wS hS1 => (huu6 _ _ _ _ _ _)) ?_
          refine HP.must rfl rfl (OpK.buildS VI (os := []) [] rfl T.sl28 rfl rfl T.zv2 rfl (by intro z hz; cases hz) rfl (fun v17 g17 w13 hXw13 ho17 hge17 => ?_))
          have hl17 := Lo.new hB hge17
          have hv17 := Lo.new hS hge17
          have hd16_17 := DI.new hn16 hge17
          have hd15_17 := Dj.new ho15.ltO hge17
          have hk0_17 := OkN.new hU0 hge17
          have hg0_17 := OgR.new hU0.size hge17
          have hk1_17 := OkN.new hU1 hge17
          have hg1_17 := OgR.new hU1.size hge17
          have hk2_17 := OkN.new hU2 hge17
          have hg2_17 := OgR.new hU2.size hge17
          refine ⟨Upd.trans hS hXw13, ?_⟩
          have hS := Upd.trans hS hXw13
          have hB := hB.trans hXw13
          have hn16 := hn16.up hXw13
          have ho15 := ho15.up hXw13
          have hU0 := hU0.ext hXw13
          have hU1 := hU1.ext hXw13
          have hU2 := hU2.ext hXw13
          refine HP.must rfl rfl (OpK.appendS (f := VI) rfl T.sl28 T.zv2 rfl rfl ho17 rfl (Rd.src (by first | assumption | exact Rd.up (by assumption) hB | exact Inn.rd (by assumption) (by omega)) (fun _ => rfl)) (by first | (simp only [List.length_cons, List.length_nil]; omega) | (simp only [List.length_append, List.length_drop, List.length_nil]; omega)) (fun v18 og18 w14 hXw14 ho18 hap18 => ?_))
          have hl18 := Lo.app hl17 hB hap18
          have hv18 := Lo.app hv17 hS hap18
          have hd16_18 := DI.app hd16_17 hn16 hap18
          have hd15_18 := Dj.app hd15_17 ho15.ltO hap18
          have hk0_18 := OkN.app hU0 hk0_17 hap18
          have hg0_18 := OgR.app hg0_17 hU0.size hap18
          have hk1_18 := OkN.app hU1 hk1_17 hap18
          have hg1_18 := OgR.app hg1_17 hU1.size hap18
          have hk2_18 := OkN.app hU2 hk2_17 hap18
          have hg2_18 := OgR.app hg2_17 hU2.size hap18
          refine ⟨Ext.updL hS hXw14 hv17, ?_⟩
          have hS := Ext.updL hS hXw14 hv17
          have hB := hB.updL hXw14 hl17
          have hn16 := hn16.updD hXw14 hd16_17
          have ho15 := ho15.updD hXw14 hd15_17
          have hU0 := hU0.step hXw14 hk0_17
          have hU1 := hU1.step hXw14 hk1_17
          have hU2 := hU2.step hXw14 hk2_17
          refine HP.must rfl rfl (OpK.appendS (f := VI) rfl T.sl28 T.zv2 rfl rfl ho18 rfl (Rd.src (by first | assumption | exact Rd.up (by assumption) hB | exact Inn.rd (by assumption) (by omega)) (fun _ => rfl)) (by first | (simp only [List.length_cons, List.length_nil]; omega) | (simp only [List.length_append, List.length_drop, List.length_nil]; omega)) (fun v19 og19 w15 hXw15 ho19 hap19 => ?_))
          have hl19 := Lo.app hl18 hB hap19
          have hv19 := Lo.app hv18 hS hap19
          have hd16_19 := DI.app hd16_18 hn16 hap19
          have hd15_19 := Dj.app hd15_18 ho15.ltO hap19
          have hk0_19 := OkN.app hU0 hk0_18 hap19
          have hg0_19 := OgR.app hg0_18 hU0.size hap19
          have hk1_19 := OkN.app hU1 hk1_18 hap19
          have hg1_19 := OgR.app hg1_18 hU1.size hap19
          have hk2_19 := OkN.app hU2 hk2_18 hap19
          have hg2_19 := OgR.app hg2_18 hU2.size hap19
          refine ⟨Ext.updL hS hXw15 hv18, ?_⟩
          have hS := Ext.updL hS hXw15 hv18
          have hB := hB.updL hXw15 hl18
          have hn16 := hn16.updD hXw15 hd16_18
          have ho15 := ho15.updD hXw15 hd15_18
          have hU0 := hU0.step hXw15 hk0_18
          have hU1 := hU1.step hXw15 hk1_18
          have hU2 := hU2.step hXw15 hk2_18
          refine HP.take rfl rfl rfl rfl hS (fun wS hS1 => PV.assign rfl) ?_
          refine HP.doneS ?_
          refine CW.reg ?_
          refine WL.pure rfl rfl rfl (PV.move rfl) ?_
          refine WL.pure rfl rfl rfl (PV.move rfl) ?_
          refine WL.pure rfl rfl rfl (PV.move rfl) ?_
          refine WL.pure rfl rfl rfl ((by first | exact PV.len rfl (by assumption) T.sl28 | exact PV.lenOs rfl (by assumption) T.sl28 | exact PV.len rfl (NL.rd (by assumption)) T.sl28 | exact PV.len rfl (Inn.rd (by assumption) (by omega)) T.sl28)) ?_
          refine WL.pure rfl rfl rfl (PV.move rfl) ?_
          refine WL.pure rfl rfl rfl (PV.sub rfl rfl (by constructor <;> omega)) ?_
          refine WL.pure rfl rfl rfl (PV.move rfl) ?_
          refine WL.pure rfl rfl rfl (PV.move rfl) ?_
          refine WL.pure rfl rfl rfl (PV.build (ks := [0, 1, 2, 3]) (os := [.tmp 65, .tmp 69, .tmp 70, .tmp 71]) (css := [[_], [_], [_], [_]]) (ds := [_, _, _, _]) T.bu204 rfl rfl ⟨(by first | exact Rd.cells1 (by assumption) | exact Osl.cells1 (by assumption) | exact Osn.cells1 (by assumption) | exact Rd.cells1 (NL.rd (by assumption)) | exact Inn.cell1 (by assumption) (by omega) | assumption | rfl), (by first | exact Rd.cells1 (by assumption) | exact Osl.cells1 (by assumption) | exact Osn.cells1 (by assumption) | exact Rd.cells1 (NL.rd (by assumption)) | exact Inn.cell1 (by assumption) (by omega) | assumption | rfl), (by first | exact Rd.cells1 (by assumption) | exact Osl.cells1 (by assumption) | exact Osn.cells1 (by assumption) | exact Rd.cells1 (NL.rd (by assumption)) | exact Inn.cell1 (by assumption) (by omega) | assumption | rfl), (by first | exact Rd.cells1 (by assumption) | exact Osl.cells1 (by assumption) | exact Osn.cells1 (by assumption) | exact Rd.cells1 (NL.rd (by assumption)) | exact Inn.cell1 (by assumption) (by omega) | assumption | rfl), trivial⟩ rfl) ?_
          have hga20 := gM_agg (Osl.rd ho19) (((cs.getD i d4).2.1.length : Int) - ((n + 1 : Nat) : Int)) ((i : Nat) : Int) ((j : Nat) : Int)
          refine WL.op rfl (OpK.buildN (g := gM) (os := [.tmp 72]) [(shOf v19, (((cs.getD i d4).2.1.length : Int) - ((n + 1 : Nat) : Int), ((i : Nat) : Int), ((j : Nat) : Int)))] gM_ok rfl T.sl201 rfl rfl T.zv204 (congrArg (fun z => some [z]) hga20) rfl (fun v20 g20 w16 hXw16 ho20 hge20 => ?_))
          have hl20 := Lo.new hB hge20
          have hd16_20 := DI.new hn16 hge20
          have hd15_20 := Dj.new ho15.ltO hge20
          have hd19_20 := Dj.new ho19.ltO hge20
          have hk0_20 := OkN.new hU0 hge20
          have hg0_20 := OgR.new hU0.size hge20
          have hk1_20 := OkN.new hU1 hge20
          have hg1_20 := OgR.new hU1.size hge20
          have hk2_20 := OkN.new hU2 hge20
          have hg2_20 := OgR.new hU2.size hge20
          have hB := hB.trans hXw16
          have hn16 := hn16.up hXw16
          have ho15 := ho15.up hXw16
          have ho19 := ho19.up hXw16
          have hU0 := hU0.ext hXw16
          have hU1 := hU1.ext hXw16
          have hU2 := hU2.ext hXw16
          refine WL.op rfl (OpK.appendN (g := gM) rfl T.sl201 T.zv204 rfl rfl ho15 rfl (Osn.src ho20) (by first | (simp only [List.length_cons, List.length_nil]; omega) | (simp_all; omega)) (fun v21 og21 w17 hXw17 ho21 hap21 => ?_))
          have hn22 := innVE (Inn.put hn16 ho19 hd16_19) (fM_put (r := ((((cs.getD i d4).2.1.length : Int) - ((n + 1 : Nat) : Int), ((i : Nat) : Int), ((j : Nat) : Int)))) (Osl.rd ho19)) rfl
          have hl22 := LoI.put hl16 hl19
          have hz0_22 := BlR.put hz0_16 hg0_19
          have hz1_22 := BlR.put hz1_16 hg1_19
          have hz2_22 := BlR.put hz2_16 hg2_19
          have hd15_22 := DI.put hd15_16 (Dj.symm hd15_19)
          have hd20_22 := DI.put hd16_20 hd19_20
          have hnp22 := hn22
          have hl21 := Lo.app hl15 hB hap21
          have hd20_21 := Dj.app (Dj.symm hd15_20) ho20.ltO hap21
          have hd21_22 := DI.app hd15_22 hn22 hap21
          have hk0_21 := OkN.app hU0 hk0_15 hap21
          have hg0_21 := OgR.app hg0_15 hU0.size hap21
          have hk1_21 := OkN.app hU1 hk1_15 hap21
          have hg1_21 := OgR.app hg1_15 hU1.size hap21
          have hk2_21 := OkN.app hU2 hk2_15 hap21
          have hg2_21 := OgR.app hg2_15 hU2.size hap21
          have hB := hB.updL hXw17 hl15
          have ho20 := ho20.updD hXw17 (Dj.symm hd15_20)
          have hn22 := hn22.updD hXw17 hd15_22
          have hU0 := hU0.step hXw17 hk0_15
          have hU1 := hU1.step hXw17 hk1_15
          have hU2 := hU2.step hXw17 hk2_15
          refine WL.pure rfl rfl rfl (PV.assign rfl) ?_
          refine WL.nil ?_
          refine NQ.block ?_
          refine NQ.then ?_
          refine CW.reg ?_
          refine WL.pure rfl rfl rfl (PV.move rfl) ?_
          refine WL.pure rfl rfl rfl (PV.add rfl rfl (by constructor <;> omega)) ?_
          refine WL.pure rfl rfl rfl (PV.assign rfl) ?_
          refine WL.nil ?_
          refine NQ.next (ρ := [(3, _), (9, _)]) ⟨rfl, rfl, rfl, rfl, rfl, rfl, rfl, rfl, rfl, rfl, rfl, rfl, trivial⟩ ?_
          exact ⟨_, ⟨v21, og21, _, (os15 ++ [og19]), n + 1, rfl, rfl, hU2, ho21, (by first | exact hg2_21 | exact OgR.weak hg2_21), innE hn22 (by first | exact ovW_put hyes rfl (by simp [patL]) | (rw [← ovQ_no hnot])), (by first | exact hz2_22 | exact BlR.weak hz2_22), hd21_22, (by first | omega | assumption | (simp_all; done) | (simp_all; omega)), (by first | (rw [← ovQ_put hyes]; exact hC.put rfl) | (rw [← ovQ_no hnot]; exact hC))⟩, by omega⟩
        try simp only [decide_eq_true_eq, decide_eq_false_iff_not, Bool.not_eq_true', Bool.not_eq_false', Bool.not_eq_eq_eq_not, Bool.not_true, Bool.not_false, Int.not_lt, Int.not_le, Classical.not_not, beq_iff_eq, beq_eq_false_iff_ne] at hc7
        have hnot : ovP cs i j (n + 1) = false := hov.symm.trans (decide_eq_false (by assumption))
        refine CW.skip ?_
        refine NQ.block ?_
        refine NQ.then ?_
        refine CW.reg ?_
        refine WL.pure rfl rfl rfl (PV.move rfl) ?_
        refine WL.pure rfl rfl rfl (PV.add rfl rfl (by constructor <;> omega)) ?_
        refine WL.pure rfl rfl rfl (PV.assign rfl) ?_
        refine WL.nil ?_
        refine NQ.next (ρ := [(3, _), (9, _)]) ⟨rfl, rfl, rfl, rfl, rfl, rfl, rfl, rfl, rfl, rfl, rfl, rfl, trivial⟩ ?_
        exact ⟨_, ⟨v15, og15, _, os15, n + 1, rfl, rfl, hU2, ho15, (by first | exact hg2_15 | exact OgR.weak hg2_15), innE hn16 (by first | exact ovW_put hyes rfl (by simp [patL]) | (rw [← ovQ_no hnot])), (by first | exact hz2_16 | exact BlR.weak hz2_16), hd15_16, (by first | omega | assumption | (simp_all; done) | (simp_all; omega)), (by first | (rw [← ovQ_put hyes]; exact hC.put rfl) | (rw [← ovQ_no hnot]; exact hC))⟩, by omega⟩
      try simp only [decide_eq_true_eq, decide_eq_false_iff_not, Bool.not_eq_true', Bool.not_eq_false', Bool.not_eq_eq_eq_not, Bool.not_true, Bool.not_false, Int.not_lt, Int.not_le, Classical.not_not, beq_iff_eq, beq_eq_false_iff_ne] at hc6
      refine CW.exit ?_
      refine XQ.then ?_
      refine XQ.then ?_
      refine XQ.here ?_
      refine NQ.block ?_
      refine NQ.then ?_
      refine CW.reg ?_
      refine WL.pure rfl rfl rfl (PV.add rfl rfl (by constructor <;> omega)) ?_
      refine WL.pure rfl rfl rfl (PV.move rfl) ?_
      refine WL.nil ?_
      refine NQ.next (ρ := [(3, _), (19, _)]) ⟨rfl, rfl, rfl, rfl, rfl, rfl, rfl, trivial⟩ ?_
      exact ⟨_, ⟨v15, og15, _, os15, j + 1, rfl, rfl, hU1, ho15, (by first | exact hg1_15 | exact OgR.weak hg1_15), innE hn16 (by rw [← ovQ_next (n := n) (by omega)]), (by first | exact hz1_16 | exact BlR.weak hz1_16), hd15_16, (by first | omega | assumption | (simp_all; done) | (simp_all; omega)), (by rw [← ovQ_next (n := n) (by omega)]; exact hC)⟩, by omega⟩
    try simp only [decide_eq_true_eq, decide_eq_false_iff_not, Bool.not_eq_true', Bool.not_eq_false', Bool.not_eq_eq_eq_not, Bool.not_true, Bool.not_false, Int.not_lt, Int.not_le, Classical.not_not, beq_iff_eq, beq_eq_false_iff_ne] at hc2
    refine CW.exit ?_
    refine XQ.then ?_
    refine XQ.then ?_
    refine XQ.here ?_
    refine NQ.block ?_
    refine NQ.then ?_
    refine CW.reg ?_
    refine WL.pure rfl rfl rfl (PV.add rfl rfl (by constructor <;> omega)) ?_
    refine WL.pure rfl rfl rfl (PV.move rfl) ?_
    refine WL.nil ?_
    refine NQ.next (ρ := [(3, _), (14, _)]) ⟨rfl, rfl, rfl, rfl, trivial⟩ ?_
    exact ⟨_, ⟨v5, og5, _, os5, i + 1, rfl, rfl, hU0, ho5, (by first | exact hg0_5 | exact OgR.weak hg0_5), innE hn6 (by rw [← ov1_next (i := i) (show j = cs.length by omega)]), (by first | exact hz0_6 | exact BlR.weak hz0_6), hd5_6, (by first | omega | assumption | (simp_all; done) | (simp_all; omega)), (by have e9 := ov1_next (i := i) (show j = cs.length by omega); rw [← e9]; exact hC)⟩, by omega⟩
  try simp only [decide_eq_true_eq, decide_eq_false_iff_not, Bool.not_eq_true', Bool.not_eq_false', Bool.not_eq_eq_eq_not, Bool.not_true, Bool.not_false, Int.not_lt, Int.not_le, Classical.not_not, beq_iff_eq, beq_eq_false_iff_ne] at hc1
  refine CW.exit ?_
  refine XQ.then ?_
  refine XQ.then ?_
  refine XQ.here ?_
  refine NQ.then ?_
  refine CW.seq ?_
  refine CW.reg ?_
  refine WL.pure rfl rfl rfl (PV.move rfl) ?_
  refine WL.pure rfl rfl rfl (PV.assign rfl) ?_
  refine WL.nilS ?_
  refine CW.ret ?_
  refine RQ.r1 rfl ?_
  obtain rfl : i = cs.length := (by omega); exact ⟨hB, _, _, _, _, rfl, hC, ho3, hl3, hn4, hl4, hd3_4⟩
theorem c_spec_OverlapsOf {w : World} {va : Value} {cs : List C4} {L : Int} (ha : Rd ECh w va cs) : Calls Try.prog 89 #[va, .int .i64 L] w (Ret1 (fun v w' => Ext w w' ∧ ∃ u og_u vs_u os_u, v = .tuple #[u, .bool (plnB cs L)] ∧ Osl VV w' og_u u vs_u ∧ Lo w og_u ∧ Inn w' os_u vs_u (ovR cs L) ∧ LoI w os_u ∧ DI os_u og_u)) := by
  have hB : Ext w w := Ext.refl w
  have hla := ha.leI
  refine callsOf (vs := [_, _]) Try.func89 rfl Try.ntmps89 rfl rfl ?_
  refine CW.seq ?_
  refine CW.reg ?_
  refine WL.pure rfl rfl rfl (PV.assign rfl) ?_
  refine WL.pure rfl rfl rfl (PV.assign rfl) ?_
  refine WL.nilS ?_
  refine CW.seq ?_
  refine CW.seq ?_
  refine CW.reg ?_
  refine WL.pure rfl rfl rfl (PV.move rfl) ?_
  refine WL.pure rfl rfl rfl (PV.move rfl) ?_
  refine WL.op rfl (OpK.callR rfl T.cf167 rfl (c_spec_l05Plain (by first | assumption | exact Rd.up (by assumption) hB | exact rdCh (by assumption) (by assumption))) (fun w1 hXw1 => ?_))
  have hB := hB.trans hXw1
  refine WL.pure rfl rfl rfl (PV.not rfl) ?_
  refine WL.nilS ?_
  refine CW.cond rfl (fun hc1 => ?_) (fun hc1 => ?_)
  · skip
    try simp only [decide_eq_true_eq, decide_eq_false_iff_not, Bool.not_eq_true', Bool.not_eq_false', Bool.not_eq_eq_eq_not, Bool.not_true, Bool.not_false, Int.not_lt, Int.not_le, Classical.not_not, beq_iff_eq, beq_eq_false_iff_ne] at hc1
    refine CW.seq ?_
    refine CW.reg ?_
    refine WL.pure rfl rfl rfl (PV.assign rfl) ?_
    refine WL.pure rfl rfl rfl (PV.assign rfl) ?_
    refine WL.nilS ?_
    refine CW.ret ?_
    refine RQ.then ?_
    refine RQ.r2 rfl rfl ?_
    first | (have hS : plnB cs L = false := (by assumption); exact ⟨hB, .slice none 0 0, none, [], [], tE2 rfl (bE hS.symm), Osl.nil _ _, Lo.nl _, innE (Inn.zero _) (by unfold ovR; rw [onT_no (by rw [hS]; decide)]), LoI.nl _, DI.nl _⟩) | (have hS : plnB cs L = true := (by assumption); exact ⟨hB, _, _, _, _, tE2 rfl (bE hS.symm), osE ho5 (by rw [List.take_of_length_le (by omega)]), hl5, innE hn3 (by unfold ovR; rw [onT_yes hS]), hl3, hd3_5⟩)
  try simp only [decide_eq_true_eq, decide_eq_false_iff_not, Bool.not_eq_true', Bool.not_eq_false', Bool.not_eq_eq_eq_not, Bool.not_true, Bool.not_false, Int.not_lt, Int.not_le, Classical.not_not, beq_iff_eq, beq_eq_false_iff_ne] at hc1
  refine CW.skipS ?_
  refine CW.seq ?_
  refine CW.reg ?_
  have hpb := pln_y (by assumption : plnB cs L = true); have hlb := listB_y hpb.1; have hoks := hlb.2.2.2; have h8 := hlb.1; have ho300 := ov1_300 h8 hoks
  refine WL.op rfl (OpK.buildS VV (os := []) [] rfl T.sl25 rfl rfl T.zv28 rfl (by intro z hz; cases hz) rfl (fun v1 g1 w2 hXw2 ho1 hge1 => ?_))
  have hl1 := Lo.new hB hge1
  have hB := hB.trans hXw2
  refine WL.pure rfl rfl rfl (PV.assign rfl) ?_
  refine WL.nilS ?_
  refine CW.seq ?_
  refine CW.reg ?_
  refine WL.pure rfl rfl rfl (PV.move rfl) ?_
  refine WL.op rfl (OpK.call rfl T.cf184 rfl (c_spec_l05Meets (by first | assumption | exact Rd.up (by assumption) hB | exact rdCh (by assumption) (by assumption)) (by first | assumption | (intro k9 h9; simp only [List.length_cons, List.length_nil] at h9; rcases (show k9 = 0 ∨ k9 = 1 by omega) with rfl | rfl <;> first | assumption | (exfalso; omega))) (by first | assumption | omega | (simp only [marks_len, marksB_len, marksR_len, sumL_marksS, List.length_take]; omega))) (fun rv1 w3 hR => ?_))
  obtain ⟨hXw3, v2, og2, vs3, os3, rfl, hm4, ho2, hq2, hn3, hq3, hd2_3⟩ := hR
  have hl2 := Lo.up hq2 hB
  have hd1_2 := Dj.lo ho1.ltO hq2
  have hl3 := LoI.up hq3 hB
  have hlv3 := hn3.lv
  have hd1_3 := DI.lo ho1.ltO hq3
  have hB := hB.trans hXw3
  have ho1 := ho1.up hXw3
  refine WL.pure rfl rfl rfl (PV.assign rfl) ?_
  refine WL.nilS ?_
  refine CW.seq ?_
  refine CW.seq ?_
  refine CW.reg ?_
  refine WL.pure rfl rfl rfl (PV.move rfl) ?_
  refine WL.pure rfl rfl rfl ((PV.lenOsn rfl ho2 T.sl201)) ?_
  refine WL.pure rfl rfl rfl (PV.move rfl) ?_
  refine WL.nilS ?_
  refine CW.block ?_
  have hlt1 := ho1.ltO
  have hlt2 := ho2.ltO
  have hlt3 := hn3.ltO
  refine CW.loop (σk := [(7, _), (17, _)]) (fun ρ wz m => ∃ (v5 : Value) (og5 : Option Nat) (k : Nat), ρ = [(6, v5), (18, .int .i64 (k : Nat))] ∧ m = vs3.length - k ∧ UpdL [(some g1)] w3 wz ∧ Osl VV wz og5 v5 ((vs3.take k).map fM) ∧ OgR w3 (some g1) og5 ∧ (k ≤ vs3.length)) (ρ₀ := [(6, _), (18, _)]) (m₀ := _) ⟨rfl, rfl, rfl, rfl, trivial⟩ ⟨v1, (some g1), 0, rfl, rfl, (UpdL.refl _ _), osE ho1 (by rfl), OgR.refl _ _, (by first | omega | rfl | (simp; done) | assumption | (simp_all; done))⟩ ?_
  rintro _ wl1 _ ⟨v5, og5, k, rfl, rfl, hU0, ho5, ha5, hk⟩
  have ho2 := ho2.loop hU0 ⟨(Dj.symm hd1_2), trivial⟩
  have hn3 := hn3.loop hU0 ⟨hd1_3, trivial⟩
  have hl5 := Lo.ogr hl1 hB ha5
  have hg0_5 := ha5
  have hk0_5 : OkB [(some g1)] w3 og5 := OkB.ogr (OkB.mem (by simp)) (Nat.le_refl _) ha5
  have hd2_5 := Dj.ogr (Dj.symm hd1_2) hlt2 ha5
  have hd3_5 := DI.ogr hd1_3 hlt3 ha5
  have hB := hB.loop hU0 ⟨hl1, trivial⟩
  have hvl := hm4.1
  refine CW.seq ?_
  refine CW.reg ?_
  refine WL.pure rfl rfl rfl (PV.lss rfl rfl) ?_
  refine WL.nilS ?_
  refine CW.seq ?_
  refine CW.cond rfl (fun hc2 => ?_) (fun hc2 => ?_)
  · skip
    try simp only [decide_eq_true_eq, decide_eq_false_iff_not, Bool.not_eq_true', Bool.not_eq_false', Bool.not_eq_eq_eq_not, Bool.not_true, Bool.not_false, Int.not_lt, Int.not_le, Classical.not_not, beq_iff_eq, beq_eq_false_iff_ne] at hc2
    refine CW.skipS ?_
    refine CW.seq ?_
    refine CW.block ?_
    refine CW.seq ?_
    refine CW.reg ?_
    refine WL.pure rfl rfl rfl (PV.move rfl) ?_
    refine WL.pure rfl rfl rfl (PV.assign rfl) ?_
    refine WL.nilS ?_
    refine CW.reg ?_
    refine WL.pure rfl rfl rfl (PV.move rfl) ?_
    refine WL.pure rfl rfl rfl (PV.move rfl) ?_
    refine WL.pure rfl rfl rfl (PV.move rfl) ?_
    have hrdp1 := ho2.rd
    first
      | refine WL.at (x := .tmp 22) (y := .tmp 23) (E := (EG 4 gM gM_ok)) (nM) rfl rfl hrdp1 (by first | omega | (simp only [List.length_set]; omega) | (simp only [List.length_append, List.length_take, List.length_replicate, List.length_drop]; omega)) (fun p1 csp1 hpp1 hcp1 hq => ?_)
      | refine WL.atZ (x := .tmp 22) (y := .tmp 23) (E := (EG 4 gM gM_ok)) (nM) rfl rfl hrdp1 (by first | omega | (simp only [List.length_set]; omega) | (simp only [List.length_append, List.length_take, List.length_replicate, List.length_drop]; omega)) (fun p1 csp1 hpp1 hzp1 hcp1 hq => ?_)
    cases hq
    refine WL.pure rfl rfl rfl ((by first | exact PV.indexAddr hpp1 rfl rfl T.sl201 | exact PV.indexAddr hpp1 rfl (by rw [← hzp1]; rfl) T.sl201)) ?_
    refine WL.pure rfl rfl rfl ((by first | exact PV.fieldAddr T.fl204_0 rfl (by first | assumption | exact Bx.cells (by assumption)) | exact PV.fieldAddrP T.fl204_0 rfl rfl)) ?_
    refine WL.pure rfl rfl rfl ((by first | exact PV.load0 T.na28 rfl (by first | exact Cells.up (by assumption) hB | exact Bx.cells (by assumption) | assumption) (Ext.refl _) rfl | exact PV.load1 T.na28 rfl (by first | exact Cells.up (by assumption) hB | exact Bx.cells (by assumption) | assumption) (Ext.refl _) rfl)) ?_
    refine WL.op rfl (OpK.buildS VV (os := [.tmp 26]) [_] rfl T.sl25 rfl rfl T.zv28 rfl (by intro z hz; first | rfl | (simp only [List.mem_cons, List.not_mem_nil, or_false] at hz; subst hz; exact (by first | exact Rd.cells1 (by assumption) | exact Osl.cells1 (by assumption) | exact Osn.cells1 (by assumption) | exact Rd.cells1 (NL.rd (by assumption)) | exact Inn.cell1 (by assumption) (by omega) | assumption | rfl))) rfl (fun v6 g6 w4 hXw4 ho6 hge6 => ?_))
    have hl6 := Lo.new hB hge6
    have hd2_6 := Dj.new ho2.ltO hge6
    have hd3_6 := DI.new hn3 hge6
    have hd5_6 := Dj.new ho5.ltO hge6
    have hk0_6 := OkN.new hU0 hge6
    have hg0_6 := OgR.new hU0.size hge6
    have hB := hB.trans hXw4
    have ho2 := ho2.up hXw4
    have hn3 := hn3.up hXw4
    have ho5 := ho5.up hXw4
    have hU0 := hU0.ext hXw4
    refine WL.op rfl (OpK.appendS (f := VV) rfl T.sl25 T.zv28 rfl rfl ho5 rfl (Osl.srcM ho6 (one_mem (rfl))) (by first | (simp only [List.length_cons, List.length_nil]; omega) | (simp_all; omega)) (fun v7 og7 w5 hXw5 ho7 hap7 => ?_))
    have hl7 := Lo.app hl5 hB hap7
    have hd2_7 := Dj.app hd2_5 ho2.ltO hap7
    have hd3_7 := DI.app hd3_5 hn3 hap7
    have hd6_7 := Dj.app (Dj.symm hd5_6) ho6.ltO hap7
    have hk0_7 := OkN.app hU0 hk0_5 hap7
    have hg0_7 := OgR.app hg0_5 hU0.size hap7
    have hB := hB.updL hXw5 hl5
    have ho2 := ho2.updD hXw5 hd2_5
    have hn3 := hn3.updD hXw5 hd3_5
    have ho6 := ho6.updD hXw5 (Dj.symm hd5_6)
    have hU0 := hU0.step hXw5 hk0_5
    refine WL.pure rfl rfl rfl (PV.assign rfl) ?_
    refine WL.nil ?_
    refine NQ.block ?_
    refine NQ.then ?_
    refine CW.reg ?_
    refine WL.pure rfl rfl rfl (PV.add rfl rfl (by constructor <;> omega)) ?_
    refine WL.pure rfl rfl rfl (PV.move rfl) ?_
    refine WL.nil ?_
    refine NQ.next (ρ := [(6, _), (18, _)]) ⟨rfl, rfl, rfl, rfl, trivial⟩ ?_
    exact ⟨_, ⟨v7, og7, k + 1, rfl, rfl, hU0, osE ho7 (by exact map_takeS (d := nM) (by omega) rfl), (by first | exact hg0_7 | exact OgR.weak hg0_7), (by first | omega | assumption | (simp_all; done) | (simp_all; omega))⟩, by omega⟩
  try simp only [decide_eq_true_eq, decide_eq_false_iff_not, Bool.not_eq_true', Bool.not_eq_false', Bool.not_eq_eq_eq_not, Bool.not_true, Bool.not_false, Int.not_lt, Int.not_le, Classical.not_not, beq_iff_eq, beq_eq_false_iff_ne] at hc2
  refine CW.exit ?_
  refine XQ.then ?_
  refine XQ.then ?_
  refine XQ.here ?_
  refine NQ.then ?_
  refine CW.seq ?_
  refine CW.reg ?_
  refine WL.pure rfl rfl rfl (PV.move rfl) ?_
  refine WL.pure rfl rfl rfl (PV.assign rfl) ?_
  refine WL.pure rfl rfl rfl (PV.assign rfl) ?_
  refine WL.nilS ?_
  refine CW.ret ?_
  refine RQ.r2 rfl rfl ?_
  first | (have hS : plnB cs L = false := (by assumption); exact ⟨hB, .slice none 0 0, none, [], [], tE2 rfl (bE hS.symm), Osl.nil _ _, Lo.nl _, innE (Inn.zero _) (by unfold ovR; rw [onT_no (by rw [hS]; decide)]), LoI.nl _, DI.nl _⟩) | (have hS : plnB cs L = true := (by assumption); exact ⟨hB, _, _, _, _, tE2 rfl (bE hS.symm), osE ho5 (by rw [List.take_of_length_le (by omega)]), hl5, innE hn3 (by unfold ovR; rw [onT_yes hS]), hl3, hd3_5⟩)
theorem c_impl_Change_put {w : World} {uc0 uc1 uc2 uc3 : Value} {c : C4} {vw : Value} {xs : List Int} {a : Int} (hch0 : Rd EI w uc0 c.1) (hch1 : Rd EI w uc1 c.2.1) (hch2 : Rd EI w uc2 c.2.2.1) (hch3 : Rd EI w uc3 c.2.2.2) (hw : Rd EI w vw xs) (hok : okC c) (hwn : xs.length ≤ 10000) (hfa : 0 ≤ a ∧ a + c.2.1.length ≤ xs.length) : Calls Try.prog 188 #[.agg #[uc0, uc1, uc2, uc3], vw, .int .i64 a] w (Ret1 (fun v w' => Ext w w' ∧ ∃ u og_u, v = u ∧ Osl VI w' og_u u (putL c xs a) ∧ Lo w og_u)) := by
  have hB : Ext w w := Ext.refl w
  have hlc0 := hch0.leI; have hlc1 := hch1.leI; have hlc2 := hch2.leI; have hlc3 := hch3.leI; have hlw := hw.leI; have hok0 := hok.1; have hok1 := hok.2.1; have hok2 := hok.2.2.1; have hok3 := hok.2.2.2
  refine callsOf (vs := [_, _, _]) Try.func188 rfl Try.ntmps188 rfl rfl ?_
  refine CW.seq ?_
  refine CW.reg ?_
  refine WL.op rfl (OpK.box rfl rfl (by first | exact Rd.cells1 (by assumption) | exact Osl.cells1 (by assumption) | exact Osn.cells1 (by assumption) | exact Rd.cells1 (NL.rd (by assumption)) | exact Inn.cell1 (by assumption) (by omega) | assumption | rfl) (fun b1 w1 hXw1 hb1 hge1 => ?_))
  have hl1 := Lo.new hB hge1
  have hB := hB.trans hXw1
  refine WL.pure rfl rfl rfl (PV.assign rfl) ?_
  refine WL.nilS ?_
  refine CW.seq ?_
  refine CW.draw T.mixed (by kernel_rfl) (fun _ _ _ _ _ h => h) (fun w8 w9 => Upd none w8 w9) 15 (.take 0 (.take 1 (.take 2 (.take 3 (.take 4 (.take 5 (.take 6 (.take 7 (.take 8 (.take 9 (.take 10 (.take 11 (.must 12 (.must 13 (.take 14 .done))))))))))))))) (by kernel_rfl) (fun w2 hXd => ?_)
  have hB := hB.trans hXd
  have hb1 := hb1.up hXd
  have hBr := hB
  have hS : Upd none w2 w2 := Ext.toUpd (Ext.refl _)
  refine HP.take rfl rfl rfl rfl hS (fun wS hS1 => PV.move rfl) ?_
  refine HP.take rfl rfl rfl rfl hS (fun wS hS1 => PV.move rfl) ?_
  refine HP.slRH (x := .tmp 7) (hi := .tmp 8) (E := EI) T.sl28 rfl rfl  (by first | assumption | exact Osl.rd (by assumption)) (by first | omega | (simp; omega) | (simp_all; omega)) (fun u1 huu1 hru1 => ?_)
  refine HP.take rfl rfl rfl rfl hS (fun wS hS1 => (huu1 _ _ _ _ _ _)) ?_
  refine HP.take rfl rfl rfl rfl hS (fun wS hS1 => (by first | exact PV.fieldAddr T.fl107_2 rfl (by first | assumption | exact Bx.cells (by assumption)) | exact PV.fieldAddrP T.fl107_2 rfl rfl)) ?_
  refine HP.take rfl rfl rfl rfl hS (fun wS hS1 => (by first | exact PV.load0 T.na28 rfl (by first | exact Cells.up (by assumption) (hBr.trans hS1) | exact Bx.cells (Bx.updD (by assumption) hS1 (Dj.nlR _)) | exact Cells.upd (by assumption) hS1 (by simp)) (Ext.refl _) rfl | exact PV.load1 T.na28 rfl (by first | exact Cells.up (by assumption) (hBr.trans hS1) | exact Bx.cells (Bx.updD (by assumption) hS1 (Dj.nlR _)) | exact Cells.upd (by assumption) hS1 (by simp)) (Ext.refl _) rfl)) ?_
  refine HP.take rfl rfl rfl rfl hS (fun wS hS1 => PV.move rfl) ?_
  refine HP.take rfl rfl rfl rfl hS (fun wS hS1 => PV.move rfl) ?_
  refine HP.take rfl rfl rfl rfl hS (fun wS hS1 => (by first | exact PV.fieldAddr T.fl107_1 rfl (by first | assumption | exact Bx.cells (by assumption)) | exact PV.fieldAddrP T.fl107_1 rfl rfl)) ?_
  refine HP.take rfl rfl rfl rfl hS (fun wS hS1 => (by first | exact PV.load0 T.na28 rfl (by first | exact Cells.up (by assumption) (hBr.trans hS1) | exact Bx.cells (Bx.updD (by assumption) hS1 (Dj.nlR _)) | exact Cells.upd (by assumption) hS1 (by simp)) (Ext.refl _) rfl | exact PV.load1 T.na28 rfl (by first | exact Cells.up (by assumption) (hBr.trans hS1) | exact Bx.cells (Bx.updD (by assumption) hS1 (Dj.nlR _)) | exact Cells.upd (by assumption) hS1 (by simp)) (Ext.refl _) rfl)) ?_
  refine HP.take rfl rfl rfl rfl hS (fun wS hS1 => (by first | exact PV.len rfl (by assumption) T.sl28 | exact PV.lenOs rfl (by assumption) T.sl28 | exact PV.len rfl (NL.rd (by assumption)) T.sl28 | exact PV.len rfl (Inn.rd (by assumption) (by omega)) T.sl28)) ?_
  refine HP.take rfl rfl rfl rfl hS (fun wS hS1 => PV.add rfl rfl (by constructor <;> omega)) ?_
  refine HP.slRL (x := .tmp 12) (lo := .tmp 17) (E := EI) T.sl28 rfl rfl  (by first | assumption | exact Osl.rd (by assumption)) (by first | omega | (simp; omega) | (simp_all; omega)) (fun u2 huu2 hru2 => ?_)
  refine HP.take rfl rfl rfl rfl hS (fun wS hS1 => (huu2 _ _ _ _ _ _)) ?_
  refine HP.must rfl rfl (OpK.buildS VV (os := [.tmp 9, .tmp 11, .tmp 18]) [_, _, _] rfl T.sl25 rfl rfl T.zv28 rfl (by intro z hz; first | rfl | (simp only [List.mem_cons, List.not_mem_nil, or_false] at hz; rcases hz with hz | hz | hz <;> subst hz <;> exact (by first | exact Rd.cells1 (by assumption) | exact Osl.cells1 (by assumption) | exact Osn.cells1 (by assumption) | exact Rd.cells1 (NL.rd (by assumption)) | exact Inn.cell1 (by assumption) (by omega) | assumption | rfl))) rfl (fun v2 g2 w3 hXw3 ho2 hge2 => ?_))
  have hl2 := Lo.new hB hge2
  have hv2 := Lo.new hS hge2
  have hd1_2 := Dj.new hb1.ltO hge2
  refine ⟨Upd.trans hS hXw3, ?_⟩
  have hS := Upd.trans hS hXw3
  have hB := hB.trans hXw3
  have hb1 := hb1.up hXw3
  refine HP.must rfl rfl (OpK.call rfl T.cf135 rfl (c_slices_Concat_int64_int64 (rdSl3 (by assumption) (by first | assumption | exact Rd.up (by assumption) hB) (by first | assumption | exact Rd.up (by assumption) hB) (by first | assumption | exact Rd.up (by assumption) hB)) (by simp; omega)) (fun rv1 w4 hR => ?_))
  obtain ⟨hXw4, v3, og3, rfl, ho3, hq3⟩ := hR
  have hl3 := Lo.up hq3 hB
  have hv3 := Lo.up hq3 hS
  have hd1_3 := Dj.lo hb1.ltO hq3
  have hd2_3 := Dj.lo ho2.ltO hq3
  refine ⟨Upd.trans hS hXw4, ?_⟩
  have hS := Upd.trans hS hXw4
  have hB := hB.trans hXw4
  have hb1 := hb1.up hXw4
  have ho2 := ho2.up hXw4
  refine HP.take rfl rfl rfl rfl hS (fun wS hS1 => PV.assign rfl) ?_
  refine HP.doneS ?_
  refine CW.ret ?_
  refine RQ.r1 rfl ?_
  refine ⟨hB, rv1, og3, ?_, osE ho3 ?_, hl3⟩
  · skip
    rfl
  · skip
    simp [putL]
theorem c_impl_changeOften {w : World} {va : Value} {cs : List C4} {vw : Value} {xs : List Int} {mo : Int} (ha : Rd ECh w va cs) (hw : Rd EI w vw xs) (hx24 : xs.length ≤ 24) (hmo : 0 ≤ mo ∧ mo ≤ 200) (hoks : ∀ k : Nat, k < cs.length → okC (cs.getD k d4)) : Calls Try.prog 185 #[va, vw, .int .i64 mo] w (Ret1 (fun v w' => Ext w w' ∧ ∃ u og_u, v = .tuple #[u, .int .i64 (nT (normF cs mo.toNat xs)), .bool (nB (normF cs mo.toNat xs))] ∧ Osl VI w' og_u u (nL (normF cs mo.toNat xs)) ∧ Lo w og_u)) := by
  have hB : Ext w w := Ext.refl w
  have hla := ha.leI; have hlw := hw.leI
  refine callsOf (vs := [_, _, _]) Try.func185 rfl Try.ntmps185 rfl rfl ?_
  refine CW.seq ?_
  refine CW.reg ?_
  refine WL.op rfl (OpK.box rfl rfl (by first | exact Rd.cells1 (by assumption) | exact Osl.cells1 (by assumption) | exact Osn.cells1 (by assumption) | exact Rd.cells1 (NL.rd (by assumption)) | exact Inn.cell1 (by assumption) (by omega) | assumption | rfl) (fun b1 w1 hXw1 hb1 hge1 => ?_))
  have hl1 := Lo.new hB hge1
  have hB := hB.trans hXw1
  refine WL.pure rfl rfl rfl (PV.assign rfl) ?_
  refine WL.pure rfl rfl rfl (PV.assign rfl) ?_
  refine WL.pure rfl rfl rfl (PV.assign rfl) ?_
  refine WL.nilS ?_
  refine CW.seq ?_
  refine CW.reg ?_
  refine WL.pure rfl rfl rfl ((by first | exact PV.load0 T.na28 rfl (by first | exact Cells.up (by assumption) hB | exact Bx.cells (by assumption) | assumption) (Ext.refl _) rfl | exact PV.load1 T.na28 rfl (by first | exact Cells.up (by assumption) hB | exact Bx.cells (by assumption) | assumption) (Ext.refl _) rfl)) ?_
  refine WL.op rfl (OpK.call rfl T.cf141 rfl (c_slices_Clone_int64_int64 (by first | assumption | exact Rd.up (by assumption) hB | exact Osl.rd (by assumption) | exact Osn.rdR (by assumption) | exact NL.rd (by assumption) | exact rdII (by assumption) (by assumption) | exact Inn.rd (by assumption) (by omega)) (by first | assumption | omega | (simp only [marks_len, marksB_len, marksR_len, sumL_marksS, List.length_take]; omega))) (fun rv1 w2 hR => ?_))
  obtain ⟨hXw2, v2, og2, rfl, ho2, hq2⟩ := hR
  have hl2 := Lo.up hq2 hB
  have hd1_2 := Dj.lo hb1.ltO hq2
  have hB := hB.trans hXw2
  have hb1 := hb1.up hXw2
  first
    | refine WL.op rfl (OpK.storeB T.sz28 rfl rfl (by first | rfl | exact Inn.one1 (by assumption) (by omega) | exact Osl.oneCell (by assumption) | exact Osn.oneCell (by assumption) | exact Rd.oneCell (by assumption) | exact Rd.oneCell (NL.rd (by assumption)) | assumption) hb1 rfl (fun w3 hXw3 hb1 => ?_))
    | refine WL.op rfl (OpK.storeB0 T.sz28 rfl rfl (by first | rfl | exact Inn.one1 (by assumption) (by omega) | exact Osl.oneCell (by assumption) | exact Osn.oneCell (by assumption) | exact Rd.oneCell (by assumption) | exact Rd.oneCell (NL.rd (by assumption)) | assumption) hb1 (fun w3 hXw3 hb1 => ?_))
  have hB := hB.updL hXw3 hl1
  have ho2 := ho2.updD hXw3 (Dj.symm hd1_2)
  refine WL.nilS ?_
  refine CW.seq ?_
  refine CW.reg ?_
  refine WL.pure rfl rfl rfl (PV.assign rfl) ?_
  refine WL.nilS ?_
  refine CW.block ?_
  have hlt1 := hb1.ltO
  have hlt2 := ho2.ltO
  refine CW.loop (σk := [(0, _), (2, _), (4, _)]) (fun ρ wz m => ∃ (v3 : Value) (og3 : Option Nat) (t : Nat) (now : List Int), ρ = [(9, .int .i64 (t : Nat))] ∧ m = mo.toNat + 1 - t ∧ UpdL [og2, (some b1.block)] w3 wz ∧ Osl VI wz og3 v3 (now) ∧ OgR w3 og2 og3 ∧ Bx wz b1 [v3] ∧ (NrR cs mo.toNat xs now t) ∧ (now.length ≤ 24)) (ρ₀ := [(9, _)]) (m₀ := _) ⟨rfl, rfl, rfl, rfl, trivial⟩ ⟨rv1, og2, 0, _, rfl, rfl, (UpdL.refl _ _), osE ho2 (by rfl), OgR.refl _ _, bxE hb1 (by rfl), (by exact NrR.zero _ _ _), (by first | omega | rfl | (simp; done) | assumption | (simp_all; done))⟩ ?_
  rintro _ wl1 _ ⟨v3, og3, t, now, rfl, rfl, hU0, ho3, ha3, hb1, hN, hn24⟩
  have hl3 := Lo.ogr hl2 hB ha3
  have hg0_3 := ha3
  have hk0_3 : OkB [og2, (some b1.block)] w3 og3 := OkB.ogr (OkB.mem (by simp)) (Nat.le_refl _) ha3
  have hd1_3 := Dj.ogr hd1_2 hlt1 ha3
  have hk0_1 : OkB [og2, (some b1.block)] w3 (some b1.block) := OkB.mem (by simp)
  have hB := hB.loop hU0 ⟨hl2, hl1, trivial⟩
  have htm := hN.1
  refine CW.seq ?_
  refine CW.block ?_
  refine CW.seq ?_
  refine CW.reg ?_
  refine WL.pure rfl rfl rfl (PV.move rfl) ?_
  refine WL.pure rfl rfl rfl (PV.makeFunc (fs := []) (cs := [.tmp 4]) rfl rfl) ?_
  refine WL.op rfl (OpK.callR rfl T.cf219 rfl (c_slices_IndexFunc_impl_Change_impl_Change_impl_changeOften_1 (by first | assumption | exact Rd.up (by assumption) hB | exact rdCh (by assumption) (by assumption)) (by first | exact Bx.cells (by assumption) | exact Cells.up (by assumption) hB | assumption | exact Cells.add (Bx.cells (by assumption)) _ | exact Cells.add (Cells.up (by assumption) hB) _) (by first | assumption | exact Rd.up (by assumption) hB | exact Osl.rd (by assumption) | exact Osn.rdR (by assumption) | exact NL.rd (by assumption) | exact rdII (by assumption) (by assumption) | exact Inn.rd (by assumption) (by omega)) (by first | assumption | omega | (simp only [marks_len, marksB_len, marksR_len, sumL_marksS, List.length_take]; omega)) (by first | assumption | (intro k9 h9; simp only [List.length_cons, List.length_nil] at h9; (obtain rfl : k9 = 0 := (by omega)); assumption))) (fun w4 hXw4 => ?_))
  have hB := hB.trans hXw4
  have hb1 := hb1.up hXw4
  have ho3 := ho3.up hXw4
  have hU0 := hU0.ext hXw4
  refine WL.pure rfl rfl rfl (PV.assign rfl) ?_
  refine WL.nilS ?_
  refine CW.seq ?_
  refine CW.seq ?_
  refine CW.reg ?_
  refine WL.pure rfl rfl rfl (PV.move rfl) ?_
  refine WL.pure rfl rfl rfl (PV.lss rfl rfl) ?_
  refine WL.nilS ?_
  refine CW.cond rfl (fun hc1 => ?_) (fun hc1 => ?_)
  · skip
    try simp only [decide_eq_true_eq, decide_eq_false_iff_not, Bool.not_eq_true', Bool.not_eq_false', Bool.not_eq_eq_eq_not, Bool.not_true, Bool.not_false, Int.not_lt, Int.not_le, Classical.not_not, beq_iff_eq, beq_eq_false_iff_ne] at hc1
    refine CW.seq ?_
    refine CW.reg ?_
    refine WL.pure rfl rfl rfl ((by first | exact PV.load0 T.na28 rfl (by first | exact Cells.up (by assumption) hB | exact Bx.cells (by assumption) | assumption) (Ext.refl _) rfl | exact PV.load1 T.na28 rfl (by first | exact Cells.up (by assumption) hB | exact Bx.cells (by assumption) | assumption) (Ext.refl _) rfl)) ?_
    refine WL.pure rfl rfl rfl (PV.move rfl) ?_
    refine WL.pure rfl rfl rfl (PV.assign rfl) ?_
    refine WL.pure rfl rfl rfl (PV.assign rfl) ?_
    refine WL.pure rfl rfl rfl (PV.assign rfl) ?_
    refine WL.nilS ?_
    refine CW.ret ?_
    refine RQ.then ?_
    refine RQ.block ?_
    refine RQ.then ?_
    refine RQ.then ?_
    refine RQ.block ?_
    refine RQ.r3 rfl rfl rfl ?_
    refine ⟨hB, v3, og3, ?_, osE ho3 ?_, hl3⟩
    · skip
      first | (have hR : normF cs mo.toNat xs = none := (by first | exact hN.stop hsy (by omega) | exact hN.long hsy (by assumption)); exact tE3 rfl (iE (by rw [hR]; rfl)) (bE (by rw [hR]; rfl))) | (have hR : normF cs mo.toNat xs = some (now, (t : Int)) := hN.end (by omega); exact tE3 rfl (iE (by rw [hR]; rfl)) (bE (by rw [hR]; rfl)))
    · skip
      first | (have hR : normF cs mo.toNat xs = none := (by first | exact hN.stop hsy (by omega) | exact hN.long hsy (by assumption)); rw [hR]; rfl) | (have hR : normF cs mo.toNat xs = some (now, (t : Int)) := hN.end (by omega); rw [hR]; rfl)
  try simp only [decide_eq_true_eq, decide_eq_false_iff_not, Bool.not_eq_true', Bool.not_eq_false', Bool.not_eq_eq_eq_not, Bool.not_true, Bool.not_false, Int.not_lt, Int.not_le, Classical.not_not, beq_iff_eq, beq_eq_false_iff_ne] at hc1
  have hsy : 0 ≤ stepI cs now := (by omega); have hsf := stepI_first hsy; have hok := hoks _ hsf.1; have hff := fits_y (first_fits hsf.2); have hfr := first_rng (cs.getD (stepI cs now).toNat d4) now; have hpl := put_len hff.1 hff.2; have hok2 := hok.2.2.1
  refine CW.skipS ?_
  refine CW.seq ?_
  refine CW.draw T.mixed (by kernel_rfl) (fun _ _ _ _ _ h => h) (fun w8 w9 => Upd none w8 w9) 18 (.take 0 (.take 1 (.take 2 (.take 3 (.take 4 (.take 5 (.take 6 (.take 7 (.take 8 (.take 9 (.must 10 (.must 11 (.must 12 (.take 13 (.take 14 (.take 15 (.take 16 (.take 17 .done)))))))))))))))))) (by kernel_rfl) (fun w5 hXd => ?_)
  have hB := hB.trans hXd
  have hb1 := hb1.up hXd
  have ho3 := ho3.up hXd
  have hU0 := hU0.ext hXd
  have hBr := hB
  have hS : Upd none w5 w5 := Ext.toUpd (Ext.refl _)
  refine HP.take rfl rfl rfl rfl hS (fun wS hS1 => PV.move rfl) ?_
  refine HP.take rfl rfl rfl rfl hS (fun wS hS1 => PV.move rfl) ?_
  first
    | refine HP.at (x := .tmp 25) (y := .tmp 26) (E := ECh) (d4) rfl rfl (by first | assumption | exact Inn.rd (by assumption) (by omega)) (by first | omega | (simp only [List.length_set]; omega) | (simp only [List.length_append, List.length_take, List.length_replicate, List.length_drop]; omega)) (fun p1 csp1 hpp1 hcp1 hq => ?_)
    | refine HP.atZ (x := .tmp 25) (y := .tmp 26) (E := ECh) (d4) rfl rfl (by first | assumption | exact Inn.rd (by assumption) (by omega)) (by first | omega | (simp only [List.length_set]; omega) | (simp only [List.length_append, List.length_take, List.length_replicate, List.length_drop]; omega)) (fun p1 csp1 hpp1 hzp1 hcp1 hq => ?_)
  obtain ⟨vq0, vq1, vq2, vq3, rfl, hq0, hq1, hq2, hq3⟩ := ECh.parts hq
  refine HP.take rfl rfl rfl rfl hS (fun wS hS1 => (by first | exact PV.indexAddr hpp1 rfl rfl T.sl98 | exact PV.indexAddr hpp1 rfl (by rw [← hzp1]; rfl) T.sl98)) ?_
  refine HP.take rfl rfl rfl rfl hS (fun wS hS1 => (by first | exact PV.loadA T.ag107 rfl (by first | exact Cells.up (by assumption) (hBr.trans hS1) | exact Bx.cells (Bx.updD (by assumption) hS1 (Dj.nlR _)) | exact Cells.upd (by assumption) hS1 (by simp)) (Ext.refl _) rfl | exact PV.loadP (ds := [_, _, _, _]) T.ag107 rfl (by first | exact Cells.up (by assumption) (hBr.trans hS1) | exact Bx.cells (Bx.updD (by assumption) hS1 (Dj.nlR _)) | exact Cells.upd (by assumption) hS1 (by simp)) (Ext.refl _) rfl rfl)) ?_
  refine HP.take rfl rfl rfl rfl hS (fun wS hS1 => (by first | exact PV.load0 T.na28 rfl (by first | exact Cells.up (by assumption) (hBr.trans hS1) | exact Bx.cells (Bx.updD (by assumption) hS1 (Dj.nlR _)) | exact Cells.upd (by assumption) hS1 (by simp)) (Ext.refl _) rfl | exact PV.load1 T.na28 rfl (by first | exact Cells.up (by assumption) (hBr.trans hS1) | exact Bx.cells (Bx.updD (by assumption) hS1 (Dj.nlR _)) | exact Cells.upd (by assumption) hS1 (by simp)) (Ext.refl _) rfl)) ?_
  refine HP.take rfl rfl rfl rfl hS (fun wS hS1 => PV.move rfl) ?_
  refine HP.take rfl rfl rfl rfl hS (fun wS hS1 => PV.move rfl) ?_
  first
    | refine HP.at (x := .tmp 30) (y := .tmp 31) (E := ECh) (d4) rfl rfl (by first | assumption | exact Inn.rd (by assumption) (by omega)) (by first | omega | (simp only [List.length_set]; omega) | (simp only [List.length_append, List.length_take, List.length_replicate, List.length_drop]; omega)) (fun p2 csp2 hpp2 hcp2 hq => ?_)
    | refine HP.atZ (x := .tmp 30) (y := .tmp 31) (E := ECh) (d4) rfl rfl (by first | assumption | exact Inn.rd (by assumption) (by omega)) (by first | omega | (simp only [List.length_set]; omega) | (simp only [List.length_append, List.length_take, List.length_replicate, List.length_drop]; omega)) (fun p2 csp2 hpp2 hzp2 hcp2 hq => ?_)
  obtain ⟨vq0, vq1, vq2, vq3, rfl, hq0, hq1, hq2, hq3⟩ := ECh.parts hq
  refine HP.take rfl rfl rfl rfl hS (fun wS hS1 => (by first | exact PV.indexAddr hpp2 rfl rfl T.sl98 | exact PV.indexAddr hpp2 rfl (by rw [← hzp2]; rfl) T.sl98)) ?_
  refine HP.take rfl rfl rfl rfl hS (fun wS hS1 => (by first | exact PV.loadA T.ag107 rfl (by first | exact Cells.up (by assumption) (hBr.trans hS1) | exact Bx.cells (Bx.updD (by assumption) hS1 (Dj.nlR _)) | exact Cells.upd (by assumption) hS1 (by simp)) (Ext.refl _) rfl | exact PV.loadP (ds := [_, _, _, _]) T.ag107 rfl (by first | exact Cells.up (by assumption) (hBr.trans hS1) | exact Bx.cells (Bx.updD (by assumption) hS1 (Dj.nlR _)) | exact Cells.upd (by assumption) hS1 (by simp)) (Ext.refl _) rfl rfl)) ?_
  refine HP.take rfl rfl rfl rfl hS (fun wS hS1 => (by first | exact PV.load0 T.na28 rfl (by first | exact Cells.up (by assumption) (hBr.trans hS1) | exact Bx.cells (Bx.updD (by assumption) hS1 (Dj.nlR _)) | exact Cells.upd (by assumption) hS1 (by simp)) (Ext.refl _) rfl | exact PV.load1 T.na28 rfl (by first | exact Cells.up (by assumption) (hBr.trans hS1) | exact Bx.cells (Bx.updD (by assumption) hS1 (Dj.nlR _)) | exact Cells.upd (by assumption) hS1 (by simp)) (Ext.refl _) rfl)) ?_
  refine HP.must rfl rfl (OpK.callR rfl T.cf221 rfl (c_impl_Change_first (by first | assumption | exact Rd.up (by assumption) hB | exact Osl.rd (by assumption) | exact Osn.rdR (by assumption) | exact NL.rd (by assumption) | exact rdII (by assumption) (by assumption) | exact Inn.rd (by assumption) (by omega)) (by first | assumption | exact Rd.up (by assumption) hB | exact Osl.rd (by assumption) | exact Osn.rdR (by assumption) | exact NL.rd (by assumption) | exact rdII (by assumption) (by assumption) | exact Inn.rd (by assumption) (by omega)) (by first | assumption | exact Rd.up (by assumption) hB | exact Osl.rd (by assumption) | exact Osn.rdR (by assumption) | exact NL.rd (by assumption) | exact rdII (by assumption) (by assumption) | exact Inn.rd (by assumption) (by omega)) (by first | assumption | exact Rd.up (by assumption) hB | exact Osl.rd (by assumption) | exact Osn.rdR (by assumption) | exact NL.rd (by assumption) | exact rdII (by assumption) (by assumption) | exact Inn.rd (by assumption) (by omega)) (by first | assumption | exact Rd.up (by assumption) hB | exact Osl.rd (by assumption) | exact Osn.rdR (by assumption) | exact NL.rd (by assumption) | exact rdII (by assumption) (by assumption) | exact Inn.rd (by assumption) (by omega)) (by first | assumption | omega | (simp only [marks_len, marksB_len, marksR_len, sumL_marksS, List.length_take]; omega)) (by first | assumption | omega | (simp only [marks_len, marksB_len, marksR_len, sumL_marksS, List.length_take]; omega))) (fun w6 hXw6 => ?_))
  refine ⟨Upd.trans hS hXw6, ?_⟩
  have hS := Upd.trans hS hXw6
  have hB := hB.trans hXw6
  have hb1 := hb1.up hXw6
  have ho3 := ho3.up hXw6
  have hU0 := hU0.ext hXw6
  refine HP.must rfl rfl (OpK.call rfl T.cf188 rfl (c_impl_Change_put (by first | assumption | exact Rd.up (by assumption) hB | exact Osl.rd (by assumption) | exact Osn.rdR (by assumption) | exact NL.rd (by assumption) | exact rdII (by assumption) (by assumption) | exact Inn.rd (by assumption) (by omega)) (by first | assumption | exact Rd.up (by assumption) hB | exact Osl.rd (by assumption) | exact Osn.rdR (by assumption) | exact NL.rd (by assumption) | exact rdII (by assumption) (by assumption) | exact Inn.rd (by assumption) (by omega)) (by first | assumption | exact Rd.up (by assumption) hB | exact Osl.rd (by assumption) | exact Osn.rdR (by assumption) | exact NL.rd (by assumption) | exact rdII (by assumption) (by assumption) | exact Inn.rd (by assumption) (by omega)) (by first | assumption | exact Rd.up (by assumption) hB | exact Osl.rd (by assumption) | exact Osn.rdR (by assumption) | exact NL.rd (by assumption) | exact rdII (by assumption) (by assumption) | exact Inn.rd (by assumption) (by omega)) (by first | assumption | exact Rd.up (by assumption) hB | exact Osl.rd (by assumption) | exact Osn.rdR (by assumption) | exact NL.rd (by assumption) | exact rdII (by assumption) (by assumption) | exact Inn.rd (by assumption) (by omega)) (by first | assumption | omega | (simp only [marks_len, marksB_len, marksR_len, sumL_marksS, List.length_take]; omega)) (by first | assumption | omega | (simp only [marks_len, marksB_len, marksR_len, sumL_marksS, List.length_take]; omega)) (by first | assumption | omega | (simp only [marks_len, marksB_len, marksR_len, sumL_marksS, List.length_take]; omega))) (fun rv2 w7 hR => ?_))
  obtain ⟨hXw7, v5, og5, rfl, ho5, hq5⟩ := hR
  have hl5 := Lo.up hq5 hB
  have hv5 := Lo.up hq5 hS
  have hd1_5 := Dj.lo hb1.ltO hq5
  have hd3_5 := Dj.lo ho3.ltO hq5
  have hk0_5 := OkN.lo hU0 hq5
  have hg0_5 := OgR.lo hU0.size hq5
  refine ⟨Upd.trans hS hXw7, ?_⟩
  have hS := Upd.trans hS hXw7
  have hB := hB.trans hXw7
  have hb1 := hb1.up hXw7
  have ho3 := ho3.up hXw7
  have hU0 := hU0.ext hXw7
  refine HP.must rfl rfl (OpK.call rfl T.cf213 rfl (c_impl_long (by first | assumption | exact Rd.up (by assumption) hB | exact Osl.rd (by assumption) | exact Osn.rdR (by assumption) | exact NL.rd (by assumption) | exact rdII (by assumption) (by assumption) | exact Inn.rd (by assumption) (by omega))) (fun rv3 w8 hR => ?_))
  rcases hR with ⟨hXw8, ⟨hal, rfl⟩ | ⟨hal, rfl⟩⟩
  · skip
    refine ⟨Upd.trans hS hXw8, ?_⟩
    have hS := Upd.trans hS hXw8
    have hB := hB.trans hXw8
    have hb1 := hb1.up hXw8
    have ho3 := ho3.up hXw8
    have ho5 := ho5.up hXw8
    have hU0 := hU0.ext hXw8
    refine HP.take rfl rfl rfl rfl hS (fun wS hS1 => PV.move rfl) ?_
    refine HP.take rfl rfl rfl rfl hS (fun wS hS1 => PV.extract rfl rfl) ?_
    refine HP.take rfl rfl rfl rfl hS (fun wS hS1 => PV.extract rfl rfl) ?_
    refine HP.take rfl rfl rfl rfl hS (fun wS hS1 => PV.assign rfl) ?_
    refine HP.take rfl rfl rfl rfl hS (fun wS hS1 => PV.assign rfl) ?_
    refine HP.doneS ?_
    refine CW.seq ?_
    refine CW.seq ?_
    refine CW.reg ?_
    refine WL.pure rfl rfl rfl (PV.move rfl) ?_
    refine WL.pure rfl rfl rfl (PV.not rfl) ?_
    refine WL.pure rfl rfl rfl (PV.move rfl) ?_
    refine WL.pureG rfl rfl rfl rfl rfl (PV.move rfl) ?_
    refine WL.pureG rfl rfl rfl rfl rfl (PV.move rfl) ?_
    refine WL.pureG rfl rfl rfl rfl rfl (PV.eql rfl rfl) ?_
    refine WL.pure rfl rfl rfl (PV.pickF rfl rfl) ?_
    refine WL.nilS ?_
    refine CW.cond rfl (fun hc2 => ?_) (fun hc2 => ?_)
    · skip
      try simp only [decide_eq_true_eq, decide_eq_false_iff_not, Bool.not_eq_true', Bool.not_eq_false', Bool.not_eq_eq_eq_not, Bool.not_true, Bool.not_false, Int.not_lt, Int.not_le, Classical.not_not, beq_iff_eq, beq_eq_false_iff_ne] at hc2
      refine CW.seq ?_
      refine CW.reg ?_
      refine WL.pure rfl rfl rfl (PV.assign rfl) ?_
      refine WL.pure rfl rfl rfl (PV.assign rfl) ?_
      refine WL.pure rfl rfl rfl (PV.assign rfl) ?_
      refine WL.nilS ?_
      refine CW.ret ?_
      refine RQ.then ?_
      refine RQ.block ?_
      refine RQ.then ?_
      refine RQ.then ?_
      refine RQ.block ?_
      refine RQ.r3 rfl rfl rfl ?_
      refine ⟨hB, (.slice none 0 0), none, ?_, osE (Osl.nil _ _) ?_, Lo.nl _⟩
      · skip
        first | (have hR : normF cs mo.toNat xs = none := (by first | exact hN.stop hsy (by omega) | exact hN.long hsy (by assumption)); exact tE3 rfl (iE (by rw [hR]; rfl)) (bE (by rw [hR]; rfl))) | (have hR : normF cs mo.toNat xs = some (now, (t : Int)) := hN.end (by omega); exact tE3 rfl (iE (by rw [hR]; rfl)) (bE (by rw [hR]; rfl)))
      · skip
        first | (have hR : normF cs mo.toNat xs = none := (by first | exact hN.stop hsy (by omega) | exact hN.long hsy (by assumption)); rw [hR]; rfl) | (have hR : normF cs mo.toNat xs = some (now, (t : Int)) := hN.end (by omega); rw [hR]; rfl)
    try simp only [decide_eq_true_eq, decide_eq_false_iff_not, Bool.not_eq_true', Bool.not_eq_false', Bool.not_eq_eq_eq_not, Bool.not_true, Bool.not_false, Int.not_lt, Int.not_le, Classical.not_not, beq_iff_eq, beq_eq_false_iff_ne] at hc2
    refine CW.skipS ?_
    refine CW.reg ?_
    refine WL.pure rfl rfl rfl (PV.move rfl) ?_
    first
      | refine WL.op rfl (OpK.storeB T.sz28 rfl rfl (by first | rfl | exact Inn.one1 (by assumption) (by omega) | exact Osl.oneCell (by assumption) | exact Osn.oneCell (by assumption) | exact Rd.oneCell (by assumption) | exact Rd.oneCell (NL.rd (by assumption)) | assumption) hb1 rfl (fun w9 hXw9 hb1 => ?_))
      | refine WL.op rfl (OpK.storeB0 T.sz28 rfl rfl (by first | rfl | exact Inn.one1 (by assumption) (by omega) | exact Osl.oneCell (by assumption) | exact Osn.oneCell (by assumption) | exact Rd.oneCell (by assumption) | exact Rd.oneCell (NL.rd (by assumption)) | assumption) hb1 (fun w9 hXw9 hb1 => ?_))
    have hB := hB.updL hXw9 hl1
    have ho3 := ho3.updD hXw9 (Dj.symm hd1_3)
    have ho5 := ho5.updD hXw9 (Dj.symm hd1_5)
    have hU0 := hU0.step hXw9 hk0_1
    refine WL.nil ?_
    refine NQ.block ?_
    refine NQ.then ?_
    refine CW.reg ?_
    refine WL.pure rfl rfl rfl (PV.move rfl) ?_
    refine WL.pure rfl rfl rfl (PV.add rfl rfl (by constructor <;> omega)) ?_
    refine WL.pure rfl rfl rfl (PV.assign rfl) ?_
    refine WL.nil ?_
    refine NQ.next (ρ := [(9, _)]) ⟨rfl, rfl, rfl, rfl, trivial⟩ ?_
    exact ⟨_, ⟨rv2, og5, t + 1, _, rfl, rfl, hU0, osE ho5 (by rfl), (by first | exact hg0_5 | exact OgR.weak hg0_5), bxE hb1 (by rfl), (by exact hN.step hsy (by omega) rfl (by assumption)), (by assumption)⟩, by omega⟩
  · skip
    refine ⟨Upd.trans hS hXw8, ?_⟩
    have hS := Upd.trans hS hXw8
    have hB := hB.trans hXw8
    have hb1 := hb1.up hXw8
    have ho3 := ho3.up hXw8
    have ho5 := ho5.up hXw8
    have hU0 := hU0.ext hXw8
    refine HP.take rfl rfl rfl rfl hS (fun wS hS1 => PV.move rfl) ?_
    refine HP.take rfl rfl rfl rfl hS (fun wS hS1 => PV.extract rfl rfl) ?_
    refine HP.take rfl rfl rfl rfl hS (fun wS hS1 => PV.extract rfl rfl) ?_
    refine HP.take rfl rfl rfl rfl hS (fun wS hS1 => PV.assign rfl) ?_
    refine HP.take rfl rfl rfl rfl hS (fun wS hS1 => PV.assign rfl) ?_
    refine HP.doneS ?_
    refine CW.seq ?_
    refine CW.seq ?_
    refine CW.reg ?_
    refine WL.pure rfl rfl rfl (PV.move rfl) ?_
    refine WL.pure rfl rfl rfl (PV.not rfl) ?_
    refine WL.pure rfl rfl rfl (PV.move rfl) ?_
    refine WL.skip rfl rfl rfl rfl rfl ?_
    refine WL.skip rfl rfl rfl rfl rfl ?_
    refine WL.skip rfl rfl rfl rfl rfl ?_
    refine WL.pure rfl rfl rfl (PV.pickT rfl rfl) ?_
    refine WL.nilS ?_
    refine CW.condT rfl ?_
    refine CW.seq ?_
    refine CW.reg ?_
    refine WL.pure rfl rfl rfl (PV.assign rfl) ?_
    refine WL.pure rfl rfl rfl (PV.assign rfl) ?_
    refine WL.pure rfl rfl rfl (PV.assign rfl) ?_
    refine WL.nilS ?_
    refine CW.ret ?_
    refine RQ.then ?_
    refine RQ.block ?_
    refine RQ.then ?_
    refine RQ.then ?_
    refine RQ.block ?_
    refine RQ.r3 rfl rfl rfl ?_
    refine ⟨hB, (.slice none 0 0), none, ?_, osE (Osl.nil _ _) ?_, Lo.nl _⟩
    · skip
      first | (have hR : normF cs mo.toNat xs = none := (by first | exact hN.stop hsy (by omega) | exact hN.long hsy (by assumption)); exact tE3 rfl (iE (by rw [hR]; rfl)) (bE (by rw [hR]; rfl))) | (have hR : normF cs mo.toNat xs = some (now, (t : Int)) := hN.end (by omega); exact tE3 rfl (iE (by rw [hR]; rfl)) (bE (by rw [hR]; rfl)))
    · skip
      first | (have hR : normF cs mo.toNat xs = none := (by first | exact hN.stop hsy (by omega) | exact hN.long hsy (by assumption)); rw [hR]; rfl) | (have hR : normF cs mo.toNat xs = some (now, (t : Int)) := hN.end (by omega); rw [hR]; rfl)
theorem c_impl_NormalOf {w : World} {va : Value} {cs : List C4} {vw : Value} {xs : List Int} {L mo : Int} (ha : Rd ECh w va cs) (hw : Rd EI w vw xs) : Calls Try.prog 90 #[va, vw, .int .i64 L, .int .i64 mo] w (Ret1 (fun v w' => Ext w w' ∧ ∃ u og_u, v = .tuple #[u, .int .i64 (nT (nrmR cs xs L mo)), .bool (nB (nrmR cs xs L mo))] ∧ Osl VI w' og_u u (nL (nrmR cs xs L mo)) ∧ Lo w og_u)) := by
  have hB : Ext w w := Ext.refl w
  have hla := ha.leI; have hlw := hw.leI
  refine callsOf (vs := [_, _, _, _]) Try.func90 rfl Try.ntmps90 rfl rfl ?_
  refine CW.seq ?_
  refine CW.reg ?_
  refine WL.pure rfl rfl rfl (PV.assign rfl) ?_
  refine WL.pure rfl rfl rfl (PV.assign rfl) ?_
  refine WL.pure rfl rfl rfl (PV.assign rfl) ?_
  refine WL.nilS ?_
  refine CW.seq ?_
  refine CW.seq ?_
  refine CW.reg ?_
  refine WL.pure rfl rfl rfl (PV.move rfl) ?_
  refine WL.pure rfl rfl rfl (PV.move rfl) ?_
  refine WL.op rfl (OpK.callR rfl T.cf164 rfl (c_impl_arePlain (by first | assumption | exact Rd.up (by assumption) hB | exact rdCh (by assumption) (by assumption))) (fun w1 hXw1 => ?_))
  have hB := hB.trans hXw1
  refine WL.pure rfl rfl rfl (PV.not rfl) ?_
  refine WL.pure rfl rfl rfl (PV.move rfl) ?_
  refine WL.split (t := 15) rfl (fun hc1 => ?_) (fun hc1 => ?_)
  · skip
    try simp only [decide_eq_true_eq, decide_eq_false_iff_not, Bool.not_eq_true', Bool.not_eq_false', Bool.not_eq_eq_eq_not, Bool.not_true, Bool.not_false, Int.not_lt, Int.not_le, Classical.not_not, beq_iff_eq, beq_eq_false_iff_ne] at hc1
    refine WL.skip rfl rfl rfl rfl rfl ?_
    refine WL.skip rfl rfl rfl rfl rfl ?_
    refine WL.skip rfl rfl rfl rfl rfl ?_
    refine WL.skip rfl rfl rfl rfl rfl ?_
    refine WL.pure rfl rfl rfl (PV.pickT rfl rfl) ?_
    refine WL.pure rfl rfl rfl (PV.move rfl) ?_
    refine WL.skip rfl rfl rfl rfl rfl ?_
    refine WL.skip rfl rfl rfl rfl rfl ?_
    refine WL.skip rfl rfl rfl rfl rfl ?_
    refine WL.pure rfl rfl rfl (PV.pickT rfl rfl) ?_
    refine WL.nilS ?_
    refine CW.condT rfl ?_
    refine CW.seq ?_
    refine CW.reg ?_
    refine WL.pure rfl rfl rfl (PV.assign rfl) ?_
    refine WL.pure rfl rfl rfl (PV.assign rfl) ?_
    refine WL.pure rfl rfl rfl (PV.assign rfl) ?_
    refine WL.nilS ?_
    refine CW.ret ?_
    refine RQ.then ?_
    refine RQ.r3 rfl rfl rfl ?_
    refine ⟨hB, (.slice none 0 0), none, ?_, osE (Osl.nil _ _) ?_, Lo.nl _⟩
    · skip
      first | (have hR : nrmR cs xs L mo = none := (by first | exact nrmR_n1 (by assumption) | exact nrmR_n2 (by assumption) | exact nrmR_n3 (by omega)); exact tE3 rfl (iE (by rw [hR]; rfl)) (bE (by rw [hR]; rfl))) | (rw [hyl])
    · skip
      first | (have hR : nrmR cs xs L mo = none := (by first | exact nrmR_n1 (by assumption) | exact nrmR_n2 (by assumption) | exact nrmR_n3 (by omega)); rw [hR]; rfl) | (rw [hyl])
  try simp only [decide_eq_true_eq, decide_eq_false_iff_not, Bool.not_eq_true', Bool.not_eq_false', Bool.not_eq_eq_eq_not, Bool.not_true, Bool.not_false, Int.not_lt, Int.not_le, Classical.not_not, beq_iff_eq, beq_eq_false_iff_ne] at hc1
  refine WL.pureG rfl rfl rfl rfl rfl (PV.move rfl) ?_
  refine WL.pureG rfl rfl rfl rfl rfl (PV.move rfl) ?_
  refine WL.opG rfl rfl rfl (OpK.callR rfl T.cf165 rfl (c_impl_IsLongWord (by first | assumption | exact Rd.up (by assumption) hB | exact Osl.rd (by assumption) | exact Osn.rdR (by assumption) | exact NL.rd (by assumption) | exact rdII (by assumption) (by assumption) | exact Inn.rd (by assumption) (by omega))) (fun w2 hXw2 => ?_))
  have hB := hB.trans hXw2
  refine WL.pureG rfl rfl rfl rfl rfl (PV.not rfl) ?_
  refine WL.pure rfl rfl rfl (PV.pickF rfl rfl) ?_
  refine WL.pure rfl rfl rfl (PV.move rfl) ?_
  refine WL.split (t := 21) rfl (fun hc2 => ?_) (fun hc2 => ?_)
  · skip
    try simp only [decide_eq_true_eq, decide_eq_false_iff_not, Bool.not_eq_true', Bool.not_eq_false', Bool.not_eq_eq_eq_not, Bool.not_true, Bool.not_false, Int.not_lt, Int.not_le, Classical.not_not, beq_iff_eq, beq_eq_false_iff_ne] at hc2
    refine WL.skip rfl rfl rfl rfl rfl ?_
    refine WL.skip rfl rfl rfl rfl rfl ?_
    refine WL.skip rfl rfl rfl rfl rfl ?_
    refine WL.pure rfl rfl rfl (PV.pickT rfl rfl) ?_
    refine WL.nilS ?_
    refine CW.condT rfl ?_
    refine CW.seq ?_
    refine CW.reg ?_
    refine WL.pure rfl rfl rfl (PV.assign rfl) ?_
    refine WL.pure rfl rfl rfl (PV.assign rfl) ?_
    refine WL.pure rfl rfl rfl (PV.assign rfl) ?_
    refine WL.nilS ?_
    refine CW.ret ?_
    refine RQ.then ?_
    refine RQ.r3 rfl rfl rfl ?_
    refine ⟨hB, (.slice none 0 0), none, ?_, osE (Osl.nil _ _) ?_, Lo.nl _⟩
    · skip
      first | (have hR : nrmR cs xs L mo = none := (by first | exact nrmR_n1 (by assumption) | exact nrmR_n2 (by assumption) | exact nrmR_n3 (by omega)); exact tE3 rfl (iE (by rw [hR]; rfl)) (bE (by rw [hR]; rfl))) | (rw [hyl])
    · skip
      first | (have hR : nrmR cs xs L mo = none := (by first | exact nrmR_n1 (by assumption) | exact nrmR_n2 (by assumption) | exact nrmR_n3 (by omega)); rw [hR]; rfl) | (rw [hyl])
  try simp only [decide_eq_true_eq, decide_eq_false_iff_not, Bool.not_eq_true', Bool.not_eq_false', Bool.not_eq_eq_eq_not, Bool.not_true, Bool.not_false, Int.not_lt, Int.not_le, Classical.not_not, beq_iff_eq, beq_eq_false_iff_ne] at hc2
  refine WL.pureG rfl rfl rfl rfl rfl (PV.move rfl) ?_
  refine WL.opG rfl rfl rfl (OpK.callR rfl T.cf104 rfl (c_impl_within) (fun w3 hXw3 => ?_))
  have hB := hB.trans hXw3
  refine WL.pureG rfl rfl rfl rfl rfl (PV.not rfl) ?_
  refine WL.pure rfl rfl rfl (PV.pickF rfl rfl) ?_
  refine WL.nilS ?_
  refine CW.cond rfl (fun hc3 => ?_) (fun hc3 => ?_)
  · skip
    try simp only [decide_eq_true_eq, decide_eq_false_iff_not, Bool.not_eq_true', Bool.not_eq_false', Bool.not_eq_eq_eq_not, Bool.not_true, Bool.not_false, Int.not_lt, Int.not_le, Classical.not_not, beq_iff_eq, beq_eq_false_iff_ne] at hc3
    refine CW.seq ?_
    refine CW.reg ?_
    refine WL.pure rfl rfl rfl (PV.assign rfl) ?_
    refine WL.pure rfl rfl rfl (PV.assign rfl) ?_
    refine WL.pure rfl rfl rfl (PV.assign rfl) ?_
    refine WL.nilS ?_
    refine CW.ret ?_
    refine RQ.then ?_
    refine RQ.r3 rfl rfl rfl ?_
    refine ⟨hB, (.slice none 0 0), none, ?_, osE (Osl.nil _ _) ?_, Lo.nl _⟩
    · skip
      first | (have hR : nrmR cs xs L mo = none := (by first | exact nrmR_n1 (by assumption) | exact nrmR_n2 (by assumption) | exact nrmR_n3 (by omega)); exact tE3 rfl (iE (by rw [hR]; rfl)) (bE (by rw [hR]; rfl))) | (rw [hyl])
    · skip
      first | (have hR : nrmR cs xs L mo = none := (by first | exact nrmR_n1 (by assumption) | exact nrmR_n2 (by assumption) | exact nrmR_n3 (by omega)); rw [hR]; rfl) | (rw [hyl])
  try simp only [decide_eq_true_eq, decide_eq_false_iff_not, Bool.not_eq_true', Bool.not_eq_false', Bool.not_eq_eq_eq_not, Bool.not_true, Bool.not_false, Int.not_lt, Int.not_le, Classical.not_not, beq_iff_eq, beq_eq_false_iff_ne] at hc3
  refine CW.skipS ?_
  refine CW.seq ?_
  refine CW.reg ?_
  have hpb := pln_y (by assumption : plnB cs L = true); have hlb := listB_y hpb.1; have hoks := hlb.2.2.2; have hlg := longB_y (by assumption : longB xs L = true); have hx24 := hlg.2.1; have hyl := nrmR_y (by assumption : plnB cs L = true) (by assumption : longB xs L = true) (show 0 ≤ mo ∧ mo ≤ 200 by assumption)
  refine WL.pure rfl rfl rfl (PV.move rfl) ?_
  refine WL.pure rfl rfl rfl (PV.move rfl) ?_
  refine WL.pure rfl rfl rfl (PV.move rfl) ?_
  refine WL.op rfl (OpK.call rfl T.cf185 rfl (c_impl_changeOften (by first | assumption | exact Rd.up (by assumption) hB | exact rdCh (by assumption) (by assumption)) (by first | assumption | exact Rd.up (by assumption) hB | exact Osl.rd (by assumption) | exact Osn.rdR (by assumption) | exact NL.rd (by assumption) | exact rdII (by assumption) (by assumption) | exact Inn.rd (by assumption) (by omega)) (by first | assumption | omega | (simp only [marks_len, marksB_len, marksR_len, sumL_marksS, List.length_take]; omega)) (by first | assumption | omega | (simp only [marks_len, marksB_len, marksR_len, sumL_marksS, List.length_take]; omega)) (by first | assumption | (intro k9 h9; simp only [List.length_cons, List.length_nil] at h9; (obtain rfl : k9 = 0 := (by omega)); assumption))) (fun rv1 w4 hR => ?_))
  obtain ⟨hXw4, v1, og1, rfl, ho1, hq1⟩ := hR
  have hl1 := Lo.up hq1 hB
  have hB := hB.trans hXw4
  refine WL.pure rfl rfl rfl (PV.extract rfl rfl) ?_
  refine WL.pure rfl rfl rfl (PV.extract rfl rfl) ?_
  refine WL.pure rfl rfl rfl (PV.extract rfl rfl) ?_
  refine WL.pure rfl rfl rfl (PV.assign rfl) ?_
  refine WL.pure rfl rfl rfl (PV.assign rfl) ?_
  refine WL.pure rfl rfl rfl (PV.assign rfl) ?_
  refine WL.nilS ?_
  refine CW.ret ?_
  refine RQ.r3 rfl rfl rfl ?_
  refine ⟨hB, v1, og1, ?_, osE ho1 ?_, hl1⟩
  · skip
    first | (have hR : nrmR cs xs L mo = none := (by first | exact nrmR_n1 (by assumption) | exact nrmR_n2 (by assumption) | exact nrmR_n3 (by omega)); exact tE3 rfl (iE (by rw [hR]; rfl)) (bE (by rw [hR]; rfl))) | (rw [hyl])
  · skip
    first | (have hR : nrmR cs xs L mo = none := (by first | exact nrmR_n1 (by assumption) | exact nrmR_n2 (by assumption) | exact nrmR_n3 (by omega)); rw [hR]; rfl) | (rw [hyl])
theorem c_spec_l05Places {w : World} {pc : Addr} {uc0 uc1 uc2 uc3 : Value} {c : C4} {vw : Value} {xs : List Int}  (hbc : Cells w pc [uc0, uc1, uc2, uc3]) (hch0 : Rd EI w uc0 c.1) (hch1 : Rd EI w uc1 c.2.1) (hch2 : Rd EI w uc2 c.2.2.1) (hch3 : Rd EI w uc3 c.2.2.2) (hw : Rd EI w vw xs) (hok : okC c) (hwn : xs.length ≤ 10000) : Calls Try.prog 222 #[.pointer (some pc), vw] w (Ret1 (fun v w' => Ext w w' ∧ ∃ u og_u, v = u ∧ Osl VI w' og_u u (placesL c xs xs.length) ∧ Lo w og_u)) := by
  have hB : Ext w w := Ext.refl w
  have hlc0 := hch0.leI; have hlc1 := hch1.leI; have hlc2 := hch2.leI; have hlc3 := hch3.leI; have hlw := hw.leI
  refine callsOf (vs := [_, _]) Try.func222 rfl Try.ntmps222 rfl rfl ?_
  refine CW.seq ?_
  refine CW.reg ?_
  refine WL.pure rfl rfl rfl (PV.assign rfl) ?_
  refine WL.nilS ?_
  refine CW.seq ?_
  refine CW.reg ?_
  refine WL.op rfl (OpK.buildS VI (os := []) [] rfl T.sl28 rfl rfl T.zv2 rfl (by intro z hz; cases hz) rfl (fun v1 g1 w1 hXw1 ho1 hge1 => ?_))
  have hl1 := Lo.new hB hge1
  have hB := hB.trans hXw1
  refine WL.pure rfl rfl rfl (PV.assign rfl) ?_
  refine WL.nilS ?_
  refine CW.seq ?_
  refine CW.seq ?_
  refine CW.reg ?_
  refine WL.pure rfl rfl rfl (PV.move rfl) ?_
  refine WL.pure rfl rfl rfl ((by first | exact PV.len rfl (by assumption) T.sl28 | exact PV.lenOs rfl (by assumption) T.sl28 | exact PV.len rfl (NL.rd (by assumption)) T.sl28 | exact PV.len rfl (Inn.rd (by assumption) (by omega)) T.sl28)) ?_
  refine WL.pure rfl rfl rfl (PV.move rfl) ?_
  refine WL.nilS ?_
  refine CW.block ?_
  have hlt1 := ho1.ltO
  refine CW.loop (σk := [(0, _), (1, _), (9, _)]) (fun ρ wz m => ∃ (v2 : Value) (og2 : Option Nat) (k : Nat), ρ = [(5, v2), (10, .int .i64 (k : Nat))] ∧ m = xs.length - k ∧ UpdL [(some g1)] w1 wz ∧ Osl VI wz og2 v2 (placesL c xs k) ∧ OgR w1 (some g1) og2 ∧ (k ≤ xs.length)) (ρ₀ := [(5, _), (10, _)]) (m₀ := _) ⟨rfl, rfl, rfl, rfl, rfl, trivial⟩ ⟨v1, (some g1), 0, rfl, rfl, (UpdL.refl _ _), osE ho1 (by exact places_zero _ _), OgR.refl _ _, (by first | omega | rfl | (simp; done) | assumption | (simp_all; done))⟩ ?_
  rintro _ wl1 _ ⟨v2, og2, k, rfl, rfl, hU0, ho2, ha2, hk⟩
  have hl2 := Lo.ogr hl1 hB ha2
  have hg0_2 := ha2
  have hk0_2 : OkB [(some g1)] w1 og2 := OkB.ogr (OkB.mem (by simp)) (Nat.le_refl _) ha2
  have hB := hB.loop hU0 ⟨hl1, trivial⟩
  have hpl := places_len c xs k
  refine CW.seq ?_
  refine CW.reg ?_
  refine WL.pure rfl rfl rfl (PV.lss rfl rfl) ?_
  refine WL.nilS ?_
  refine CW.seq ?_
  refine CW.cond rfl (fun hc1 => ?_) (fun hc1 => ?_)
  · skip
    try simp only [decide_eq_true_eq, decide_eq_false_iff_not, Bool.not_eq_true', Bool.not_eq_false', Bool.not_eq_eq_eq_not, Bool.not_true, Bool.not_false, Int.not_lt, Int.not_le, Classical.not_not, beq_iff_eq, beq_eq_false_iff_ne] at hc1
    refine CW.skipS ?_
    refine CW.seq ?_
    refine CW.block ?_
    refine CW.seq ?_
    refine CW.reg ?_
    refine WL.pure rfl rfl rfl (PV.move rfl) ?_
    refine WL.pure rfl rfl rfl (PV.assign rfl) ?_
    refine WL.nilS ?_
    refine CW.seq ?_
    refine CW.reg ?_
    refine WL.pure rfl rfl rfl (PV.move rfl) ?_
    refine WL.pure rfl rfl rfl (PV.move rfl) ?_
    refine WL.pure rfl rfl rfl (PV.move rfl) ?_
    refine WL.op rfl (OpK.callR rfl T.cf228 rfl (c_spec_l05Fits (by first | exact Bx.cells (by assumption) | exact Cells.up (by assumption) hB | assumption | exact Cells.add (Bx.cells (by assumption)) _ | exact Cells.add (Cells.up (by assumption) hB) _) (by first | assumption | exact Rd.up (by assumption) hB | exact Osl.rd (by assumption) | exact Osn.rdR (by assumption) | exact NL.rd (by assumption) | exact rdII (by assumption) (by assumption) | exact Inn.rd (by assumption) (by omega)) (by first | assumption | exact Rd.up (by assumption) hB | exact Osl.rd (by assumption) | exact Osn.rdR (by assumption) | exact NL.rd (by assumption) | exact rdII (by assumption) (by assumption) | exact Inn.rd (by assumption) (by omega)) (by first | assumption | exact Rd.up (by assumption) hB | exact Osl.rd (by assumption) | exact Osn.rdR (by assumption) | exact NL.rd (by assumption) | exact rdII (by assumption) (by assumption) | exact Inn.rd (by assumption) (by omega)) (by first | assumption | exact Rd.up (by assumption) hB | exact Osl.rd (by assumption) | exact Osn.rdR (by assumption) | exact NL.rd (by assumption) | exact rdII (by assumption) (by assumption) | exact Inn.rd (by assumption) (by omega)) (by first | assumption | exact Rd.up (by assumption) hB | exact Osl.rd (by assumption) | exact Osn.rdR (by assumption) | exact NL.rd (by assumption) | exact rdII (by assumption) (by assumption) | exact Inn.rd (by assumption) (by omega)) (by first | assumption | omega | (simp only [marks_len, marksB_len, marksR_len, sumL_marksS, List.length_take]; omega)) (by first | assumption | omega | (simp only [marks_len, marksB_len, marksR_len, sumL_marksS, List.length_take]; omega))) (fun w2 hXw2 => ?_))
    have hB := hB.trans hXw2
    have ho2 := ho2.up hXw2
    have hU0 := hU0.ext hXw2
    refine WL.nilS ?_
    refine CW.cond rfl (fun hc2 => ?_) (fun hc2 => ?_)
    · skip
      try simp only [decide_eq_true_eq, decide_eq_false_iff_not, Bool.not_eq_true', Bool.not_eq_false', Bool.not_eq_eq_eq_not, Bool.not_true, Bool.not_false, Int.not_lt, Int.not_le, Classical.not_not, beq_iff_eq, beq_eq_false_iff_ne] at hc2
      refine CW.reg ?_
      refine WL.pure rfl rfl rfl (PV.move rfl) ?_
      refine WL.pure rfl rfl rfl (PV.move rfl) ?_
      refine WL.op rfl (OpK.buildS VI (os := [.tmp 18]) [_] rfl T.sl28 rfl rfl T.zv2 rfl (by intro z hz; first | rfl | (simp only [List.mem_cons, List.not_mem_nil, or_false] at hz; subst hz; exact (by first | exact Rd.cells1 (by assumption) | exact Osl.cells1 (by assumption) | exact Osn.cells1 (by assumption) | exact Rd.cells1 (NL.rd (by assumption)) | exact Inn.cell1 (by assumption) (by omega) | assumption | rfl))) rfl (fun v3 g3 w3 hXw3 ho3 hge3 => ?_))
      have hl3 := Lo.new hB hge3
      have hd2_3 := Dj.new ho2.ltO hge3
      have hk0_3 := OkN.new hU0 hge3
      have hg0_3 := OgR.new hU0.size hge3
      have hB := hB.trans hXw3
      have ho2 := ho2.up hXw3
      have hU0 := hU0.ext hXw3
      refine WL.op rfl (OpK.appendS (f := VI) rfl T.sl28 T.zv2 rfl rfl ho2 rfl (Osl.src ho3 (fun _ => rfl)) (by first | (simp only [List.length_cons, List.length_nil]; omega) | (simp_all; omega)) (fun v4 og4 w4 hXw4 ho4 hap4 => ?_))
      have hl4 := Lo.app hl2 hB hap4
      have hd3_4 := Dj.app (Dj.symm hd2_3) ho3.ltO hap4
      have hk0_4 := OkN.app hU0 hk0_2 hap4
      have hg0_4 := OgR.app hg0_2 hU0.size hap4
      have hB := hB.updL hXw4 hl2
      have ho3 := ho3.updD hXw4 (Dj.symm hd2_3)
      have hU0 := hU0.step hXw4 hk0_2
      refine WL.pure rfl rfl rfl (PV.assign rfl) ?_
      refine WL.nil ?_
      refine NQ.block ?_
      refine NQ.then ?_
      refine CW.reg ?_
      refine WL.pure rfl rfl rfl (PV.add rfl rfl (by constructor <;> omega)) ?_
      refine WL.pure rfl rfl rfl (PV.move rfl) ?_
      refine WL.nil ?_
      refine NQ.next (ρ := [(5, _), (10, _)]) ⟨rfl, rfl, rfl, rfl, rfl, trivial⟩ ?_
      exact ⟨_, ⟨v4, og4, k + 1, rfl, rfl, hU0, osE ho4 (by first | exact places_y (by assumption) | exact places_n (by assumption)), (by first | exact hg0_4 | exact OgR.weak hg0_4), (by first | omega | assumption | (simp_all; done) | (simp_all; omega))⟩, by omega⟩
    try simp only [decide_eq_true_eq, decide_eq_false_iff_not, Bool.not_eq_true', Bool.not_eq_false', Bool.not_eq_eq_eq_not, Bool.not_true, Bool.not_false, Int.not_lt, Int.not_le, Classical.not_not, beq_iff_eq, beq_eq_false_iff_ne] at hc2
    refine CW.skip ?_
    refine NQ.block ?_
    refine NQ.then ?_
    refine CW.reg ?_
    refine WL.pure rfl rfl rfl (PV.add rfl rfl (by constructor <;> omega)) ?_
    refine WL.pure rfl rfl rfl (PV.move rfl) ?_
    refine WL.nil ?_
    refine NQ.next (ρ := [(5, _), (10, _)]) ⟨rfl, rfl, rfl, rfl, rfl, trivial⟩ ?_
    exact ⟨_, ⟨v2, og2, k + 1, rfl, rfl, hU0, osE ho2 (by first | exact places_y (by assumption) | exact places_n (by assumption)), (by first | exact hg0_2 | exact OgR.weak hg0_2), (by first | omega | assumption | (simp_all; done) | (simp_all; omega))⟩, by omega⟩
  try simp only [decide_eq_true_eq, decide_eq_false_iff_not, Bool.not_eq_true', Bool.not_eq_false', Bool.not_eq_eq_eq_not, Bool.not_true, Bool.not_false, Int.not_lt, Int.not_le, Classical.not_not, beq_iff_eq, beq_eq_false_iff_ne] at hc1
  refine CW.exit ?_
  refine XQ.then ?_
  refine XQ.then ?_
  refine XQ.here ?_
  refine NQ.then ?_
  refine CW.seq ?_
  refine CW.reg ?_
  refine WL.pure rfl rfl rfl (PV.move rfl) ?_
  refine WL.pure rfl rfl rfl (PV.assign rfl) ?_
  refine WL.nilS ?_
  refine CW.ret ?_
  refine RQ.r1 rfl ?_
  refine ⟨hB, v2, og2, ?_, osE ho2 ?_, hl2⟩
  · skip
    rfl
  · skip
    rw [show k = xs.length from (by omega)]
theorem c_spec_l05Put {w : World} {vw : Value} {xs : List Int} {vg : Value} {gs : List Int} {a m : Int} (hw : Rd EI w vw xs) (hg : Rd EI w vg gs) (hwn : xs.length ≤ 10000) (hgn : gs.length ≤ 1000) (hfa : 0 ≤ a ∧ 0 ≤ m ∧ a + m ≤ xs.length) : Calls Try.prog 189 #[vw, .int .i64 a, .int .i64 m, vg] w (Ret1 (fun v w' => Ext w w' ∧ ∃ u og_u, v = u ∧ Osl VI w' og_u u (xs.take a.toNat ++ gs ++ xs.drop (a + m).toNat) ∧ Lo w og_u)) := by
  have hB : Ext w w := Ext.refl w
  have hlw := hw.leI; have hlg := hg.leI
  refine callsOf (vs := [_, _, _, _]) Try.func189 rfl Try.ntmps189 rfl rfl ?_
  refine CW.seq ?_
  refine CW.reg ?_
  refine WL.pure rfl rfl rfl (PV.assign rfl) ?_
  refine WL.nilS ?_
  refine CW.seq ?_
  refine CW.reg ?_
  refine WL.op rfl (OpK.buildS VI (os := []) [] rfl T.sl28 rfl rfl T.zv2 rfl (by intro z hz; cases hz) rfl (fun v1 g1 w1 hXw1 ho1 hge1 => ?_))
  have hl1 := Lo.new hB hge1
  have hB := hB.trans hXw1
  refine WL.pure rfl rfl rfl (PV.move rfl) ?_
  refine WL.pure rfl rfl rfl (PV.move rfl) ?_
  refine WL.slRH (x := .tmp 11) (hi := .tmp 12) (E := EI) T.sl28 rfl rfl  (by first | assumption | exact Osl.rd (by assumption)) (by first | omega | (simp; omega) | (simp_all; omega)) (fun u1 huu1 hru1 => ?_)
  refine WL.pure rfl rfl rfl ((huu1 _ _ _ _ _ _)) ?_
  refine WL.op rfl (OpK.appendS (f := VI) rfl T.sl28 T.zv2 rfl rfl ho1 rfl (Rd.src (by first | assumption | exact Rd.up (by assumption) hB | exact Inn.rd (by assumption) (by omega)) (fun _ => rfl)) (by first | (simp only [List.length_cons, List.length_nil]; omega) | (simp_all; omega)) (fun v2 og2 w2 hXw2 ho2 hap2 => ?_))
  have hl2 := Lo.app hl1 hB hap2
  have hB := hB.updL hXw2 hl1
  refine WL.pure rfl rfl rfl (PV.assign rfl) ?_
  refine WL.nilS ?_
  refine CW.seq ?_
  refine CW.reg ?_
  refine WL.pure rfl rfl rfl (PV.move rfl) ?_
  refine WL.pure rfl rfl rfl (PV.move rfl) ?_
  refine WL.op rfl (OpK.appendS (f := VI) rfl T.sl28 T.zv2 rfl rfl ho2 rfl (Rd.src (by first | assumption | exact Rd.up (by assumption) hB | exact Inn.rd (by assumption) (by omega)) (fun _ => rfl)) (by first | (simp only [List.length_cons, List.length_nil]; omega) | (simp_all; omega)) (fun v3 og3 w3 hXw3 ho3 hap3 => ?_))
  have hl3 := Lo.app hl2 hB hap3
  have hB := hB.updL hXw3 hl2
  refine WL.pure rfl rfl rfl (PV.assign rfl) ?_
  refine WL.nilS ?_
  refine CW.seq ?_
  refine CW.reg ?_
  refine WL.pure rfl rfl rfl (PV.move rfl) ?_
  refine WL.pure rfl rfl rfl (PV.move rfl) ?_
  refine WL.pure rfl rfl rfl (PV.move rfl) ?_
  refine WL.pure rfl rfl rfl (PV.move rfl) ?_
  refine WL.pure rfl rfl rfl (PV.add rfl rfl (by constructor <;> omega)) ?_
  refine WL.slRL (x := .tmp 19) (lo := .tmp 22) (E := EI) T.sl28 rfl rfl  (by first | assumption | exact Osl.rd (by assumption)) (by first | omega | (simp; omega) | (simp_all; omega)) (fun u2 huu2 hru2 => ?_)
  refine WL.pure rfl rfl rfl ((huu2 _ _ _ _ _ _)) ?_
  refine WL.op rfl (OpK.appendS (f := VI) rfl T.sl28 T.zv2 rfl rfl ho3 rfl (Rd.src (by first | assumption | exact Rd.up (by assumption) hB | exact Inn.rd (by assumption) (by omega)) (fun _ => rfl)) (by first | (simp only [List.length_cons, List.length_nil]; omega) | (simp_all; omega)) (fun v4 og4 w4 hXw4 ho4 hap4 => ?_))
  have hl4 := Lo.app hl3 hB hap4
  have hB := hB.updL hXw4 hl3
  refine WL.pure rfl rfl rfl (PV.assign rfl) ?_
  refine WL.nilS ?_
  refine CW.ret ?_
  refine RQ.r1 rfl ?_
  refine ⟨hB, v4, og4, ?_, osE ho4 ?_, hl4⟩
  · skip
    rfl
  · skip
    first | rfl | (simp; done)
theorem c_spec_l05Once {w : World} {pc : Addr} {uc0 uc1 uc2 uc3 : Value} {c : C4} {vw : Value} {xs : List Int}  (hbc : Cells w pc [uc0, uc1, uc2, uc3]) (hch0 : Rd EI w uc0 c.1) (hch1 : Rd EI w uc1 c.2.1) (hch2 : Rd EI w uc2 c.2.2.1) (hch3 : Rd EI w uc3 c.2.2.2) (hw : Rd EI w vw xs) (hok : okC c) (hwn : xs.length ≤ 10000) : Calls Try.prog 223 #[.pointer (some pc), vw] w (Ret1 (fun v w' => Ext w w' ∧ ∃ u og_u, v = .tuple #[u, .bool (onceB c xs)] ∧ Osl VI w' og_u u (onceL c xs) ∧ Lo w og_u)) := by
  have hB : Ext w w := Ext.refl w
  have hlc0 := hch0.leI; have hlc1 := hch1.leI; have hlc2 := hch2.leI; have hlc3 := hch3.leI; have hlw := hw.leI; have hok0 := hok.1; have hok1 := hok.2.1; have hok2 := hok.2.2.1; have hok3 := hok.2.2.2; have hpf := places_first c xs; have hfr := first_rng c xs
  refine callsOf (vs := [_, _]) Try.func223 rfl Try.ntmps223 rfl rfl ?_
  refine CW.seq ?_
  refine CW.reg ?_
  refine WL.pure rfl rfl rfl (PV.assign rfl) ?_
  refine WL.pure rfl rfl rfl (PV.assign rfl) ?_
  refine WL.nilS ?_
  refine CW.seq ?_
  refine CW.reg ?_
  refine WL.pure rfl rfl rfl (PV.move rfl) ?_
  refine WL.pure rfl rfl rfl (PV.move rfl) ?_
  refine WL.op rfl (OpK.call rfl T.cf222 rfl (c_spec_l05Places (by first | exact Bx.cells (by assumption) | exact Cells.up (by assumption) hB | assumption | exact Cells.add (Bx.cells (by assumption)) _ | exact Cells.add (Cells.up (by assumption) hB) _) (by first | assumption | exact Rd.up (by assumption) hB | exact Osl.rd (by assumption) | exact Osn.rdR (by assumption) | exact NL.rd (by assumption) | exact rdII (by assumption) (by assumption) | exact Inn.rd (by assumption) (by omega)) (by first | assumption | exact Rd.up (by assumption) hB | exact Osl.rd (by assumption) | exact Osn.rdR (by assumption) | exact NL.rd (by assumption) | exact rdII (by assumption) (by assumption) | exact Inn.rd (by assumption) (by omega)) (by first | assumption | exact Rd.up (by assumption) hB | exact Osl.rd (by assumption) | exact Osn.rdR (by assumption) | exact NL.rd (by assumption) | exact rdII (by assumption) (by assumption) | exact Inn.rd (by assumption) (by omega)) (by first | assumption | exact Rd.up (by assumption) hB | exact Osl.rd (by assumption) | exact Osn.rdR (by assumption) | exact NL.rd (by assumption) | exact rdII (by assumption) (by assumption) | exact Inn.rd (by assumption) (by omega)) (by first | assumption | exact Rd.up (by assumption) hB | exact Osl.rd (by assumption) | exact Osn.rdR (by assumption) | exact NL.rd (by assumption) | exact rdII (by assumption) (by assumption) | exact Inn.rd (by assumption) (by omega)) (by first | assumption | omega | (simp only [marks_len, marksB_len, marksR_len, sumL_marksS, List.length_take]; omega)) (by first | assumption | omega | (simp only [marks_len, marksB_len, marksR_len, sumL_marksS, List.length_take]; omega))) (fun rv1 w1 hR => ?_))
  obtain ⟨hXw1, v1, og1, rfl, ho1, hq1⟩ := hR
  have hl1 := Lo.up hq1 hB
  have hB := hB.trans hXw1
  refine WL.pure rfl rfl rfl (PV.assign rfl) ?_
  refine WL.nilS ?_
  refine CW.seq ?_
  refine CW.seq ?_
  refine CW.reg ?_
  refine WL.pure rfl rfl rfl (PV.move rfl) ?_
  refine WL.pure rfl rfl rfl ((PV.lenOs rfl ho1 T.sl28)) ?_
  refine WL.pure rfl rfl rfl (PV.eql rfl rfl) ?_
  refine WL.nilS ?_
  refine CW.cond rfl (fun hc1 => ?_) (fun hc1 => ?_)
  · skip
    try simp only [decide_eq_true_eq, decide_eq_false_iff_not, Bool.not_eq_true', Bool.not_eq_false', Bool.not_eq_eq_eq_not, Bool.not_true, Bool.not_false, Int.not_lt, Int.not_le, Classical.not_not, beq_iff_eq, beq_eq_false_iff_ne] at hc1
    have hfn := hpf.1.1 (by omega)
    refine CW.seq ?_
    refine CW.reg ?_
    refine WL.op rfl (OpK.buildS VI (os := []) [] rfl T.sl28 rfl rfl T.zv2 rfl (by intro z hz; cases hz) rfl (fun v2 g2 w2 hXw2 ho2 hge2 => ?_))
    have hl2 := Lo.new hB hge2
    have hd1_2 := Dj.new ho1.ltO hge2
    have hB := hB.trans hXw2
    have ho1 := ho1.up hXw2
    refine WL.pure rfl rfl rfl (PV.move rfl) ?_
    refine WL.op rfl (OpK.appendS (f := VI) rfl T.sl28 T.zv2 rfl rfl ho2 rfl (Rd.src (by first | assumption | exact Rd.up (by assumption) hB | exact Inn.rd (by assumption) (by omega)) (fun _ => rfl)) (by first | (simp only [List.length_cons, List.length_nil]; omega) | (simp_all; omega)) (fun v3 og3 w3 hXw3 ho3 hap3 => ?_))
    have hl3 := Lo.app hl2 hB hap3
    have hd1_3 := Dj.app hd1_2 ho1.ltO hap3
    have hB := hB.updL hXw3 hl2
    have ho1 := ho1.updD hXw3 hd1_2
    refine WL.pure rfl rfl rfl (PV.assign rfl) ?_
    refine WL.pure rfl rfl rfl (PV.assign rfl) ?_
    refine WL.nilS ?_
    refine CW.ret ?_
    refine RQ.then ?_
    refine RQ.r2 rfl rfl ?_
    refine ⟨hB, v3, og3, ?_, osE ho3 ?_, hl3⟩
    · skip
      first | exact tE2 rfl (bE (onceB_n hfn).symm) | exact tE2 rfl (bE ((show decide (((putL c xs (firstI c xs)).length : Int) ≤ 24) = decide ((putL c xs (firstI c xs)).length ≤ 24) from decide_eq_decide.2 (by omega)).trans (onceB_y hfy).symm))
    · skip
      first | (rw [once_n hfn]; first | done | (simp; done)) | (rw [once_y hfy]; first | done | rfl)
  try simp only [decide_eq_true_eq, decide_eq_false_iff_not, Bool.not_eq_true', Bool.not_eq_false', Bool.not_eq_eq_eq_not, Bool.not_true, Bool.not_false, Int.not_lt, Int.not_le, Classical.not_not, beq_iff_eq, beq_eq_false_iff_ne] at hc1
  have hpl0 : (placesL c xs xs.length).length ≠ 0 := (by omega); have hfy : 0 ≤ firstI c xs := Int.not_lt.1 (fun h9 => hpl0 (hpf.1.2 h9)); have hff := fits_y (first_fits hfy); have hpg := hpf.2 hfy
  refine CW.skipS ?_
  refine CW.seq ?_
  refine CW.draw T.mixed (by kernel_rfl) (fun _ _ _ _ _ h => h) (fun w8 w9 => Upd none w8 w9) 15 (.take 0 (.take 1 (.take 2 (.take 3 (.take 4 (.take 5 (.take 6 (.take 7 (.take 8 (.take 9 (.take 10 (.take 11 (.take 12 (.must 13 (.take 14 .done))))))))))))))) (by kernel_rfl) (fun w4 hXd => ?_)
  have hB := hB.trans hXd
  have ho1 := ho1.up hXd
  have hBr := hB
  have hS : Upd none w4 w4 := Ext.toUpd (Ext.refl _)
  refine HP.take rfl rfl rfl rfl hS (fun wS hS1 => PV.move rfl) ?_
  refine HP.take rfl rfl rfl rfl hS (fun wS hS1 => PV.move rfl) ?_
  first
    | refine HP.atO (wb := w4) (x := .tmp 18) (y := .const (.int .i64 0)) (f := VI) (0) rfl rfl (by assumption) (by first | omega | (simp only [List.length_set]; omega) | (simp only [List.length_append, List.length_take, List.length_replicate, List.length_drop]; omega)) (fun p1 hpp1 hcp1 => ?_)
    | refine HP.atOZ (wb := w4) (x := .tmp 18) (y := .const (.int .i64 0)) (f := VI) (0) rfl rfl (by assumption) (by first | omega | (simp only [List.length_set]; omega) | (simp only [List.length_append, List.length_take, List.length_replicate, List.length_drop]; omega)) (fun p1 hpp1 hzp1 hcp1 => ?_)
  refine HP.take rfl rfl rfl rfl hS (fun wS hS1 => (by first | exact PV.indexAddr hpp1 rfl rfl T.sl28 | exact PV.indexAddr hpp1 rfl (by rw [← hzp1]; rfl) T.sl28)) ?_
  refine HP.take rfl rfl rfl rfl hS (fun wS hS1 => (by first | exact PV.load0 T.na2 rfl (by first | exact Cells.up (by assumption) (hBr.trans hS1) | exact Bx.cells (Bx.updD (by assumption) hS1 (Dj.nlR _)) | exact Cells.upd (by assumption) hS1 (by simp)) (Ext.refl _) rfl | exact PV.load1 T.na2 rfl (by first | exact Cells.up (by assumption) (hBr.trans hS1) | exact Bx.cells (Bx.updD (by assumption) hS1 (Dj.nlR _)) | exact Cells.upd (by assumption) hS1 (by simp)) (Ext.refl _) rfl)) ?_
  refine HP.take rfl rfl rfl rfl hS (fun wS hS1 => PV.move rfl) ?_
  refine HP.take rfl rfl rfl rfl hS (fun wS hS1 => PV.nilCheck rfl) ?_
  refine HP.take rfl rfl rfl rfl hS (fun wS hS1 => (by first | exact PV.fieldAddr T.fl107_1 rfl (by first | assumption | exact Bx.cells (by assumption)) | exact PV.fieldAddrP T.fl107_1 rfl rfl)) ?_
  refine HP.take rfl rfl rfl rfl hS (fun wS hS1 => (by first | exact PV.load0 T.na28 rfl (by first | exact Cells.up (by assumption) (hBr.trans hS1) | exact Bx.cells (Bx.updD (by assumption) hS1 (Dj.nlR _)) | exact Cells.upd (by assumption) hS1 (by simp)) (Ext.refl _) rfl | exact PV.load1 T.na28 rfl (by first | exact Cells.up (by assumption) (hBr.trans hS1) | exact Bx.cells (Bx.updD (by assumption) hS1 (Dj.nlR _)) | exact Cells.upd (by assumption) hS1 (by simp)) (Ext.refl _) rfl)) ?_
  refine HP.take rfl rfl rfl rfl hS (fun wS hS1 => (by first | exact PV.len rfl (by assumption) T.sl28 | exact PV.lenOs rfl (by assumption) T.sl28 | exact PV.len rfl (NL.rd (by assumption)) T.sl28 | exact PV.len rfl (Inn.rd (by assumption) (by omega)) T.sl28)) ?_
  refine HP.take rfl rfl rfl rfl hS (fun wS hS1 => PV.move rfl) ?_
  refine HP.take rfl rfl rfl rfl hS (fun wS hS1 => PV.nilCheck rfl) ?_
  refine HP.take rfl rfl rfl rfl hS (fun wS hS1 => (by first | exact PV.fieldAddr T.fl107_2 rfl (by first | assumption | exact Bx.cells (by assumption)) | exact PV.fieldAddrP T.fl107_2 rfl rfl)) ?_
  refine HP.take rfl rfl rfl rfl hS (fun wS hS1 => (by first | exact PV.load0 T.na28 rfl (by first | exact Cells.up (by assumption) (hBr.trans hS1) | exact Bx.cells (Bx.updD (by assumption) hS1 (Dj.nlR _)) | exact Cells.upd (by assumption) hS1 (by simp)) (Ext.refl _) rfl | exact PV.load1 T.na28 rfl (by first | exact Cells.up (by assumption) (hBr.trans hS1) | exact Bx.cells (Bx.updD (by assumption) hS1 (Dj.nlR _)) | exact Cells.upd (by assumption) hS1 (by simp)) (Ext.refl _) rfl)) ?_
  rw [hpg]
  refine HP.must rfl rfl (OpK.call rfl T.cf189 rfl (c_spec_l05Put (by first | assumption | exact Rd.up (by assumption) hB | exact Osl.rd (by assumption) | exact Osn.rdR (by assumption) | exact NL.rd (by assumption) | exact rdII (by assumption) (by assumption) | exact Inn.rd (by assumption) (by omega)) (by first | assumption | exact Rd.up (by assumption) hB | exact Osl.rd (by assumption) | exact Osn.rdR (by assumption) | exact NL.rd (by assumption) | exact rdII (by assumption) (by assumption) | exact Inn.rd (by assumption) (by omega)) (by first | assumption | omega | (simp only [marks_len, marksB_len, marksR_len, sumL_marksS, List.length_take]; omega)) (by first | assumption | omega | (simp only [marks_len, marksB_len, marksR_len, sumL_marksS, List.length_take]; omega)) (by first | assumption | omega | (simp only [marks_len, marksB_len, marksR_len, sumL_marksS, List.length_take]; omega))) (fun rv2 w5 hR => ?_))
  obtain ⟨hXw5, v4, og4, rfl, ho4, hq4⟩ := hR
  have hl4 := Lo.up hq4 hB
  have hv4 := Lo.up hq4 hS
  have hd1_4 := Dj.lo ho1.ltO hq4
  refine ⟨Upd.trans hS hXw5, ?_⟩
  have hS := Upd.trans hS hXw5
  have hB := hB.trans hXw5
  have ho1 := ho1.up hXw5
  refine HP.take rfl rfl rfl rfl hS (fun wS hS1 => PV.assign rfl) ?_
  refine HP.doneS ?_
  refine CW.seq ?_
  refine CW.reg ?_
  refine WL.pure rfl rfl rfl (PV.move rfl) ?_
  refine WL.pure rfl rfl rfl (PV.move rfl) ?_
  refine WL.pure rfl rfl rfl ((PV.lenOs rfl ho4 T.sl28)) ?_
  refine WL.pure rfl rfl rfl (PV.leq rfl rfl) ?_
  refine WL.pure rfl rfl rfl (PV.assign rfl) ?_
  refine WL.pure rfl rfl rfl (PV.assign rfl) ?_
  refine WL.nilS ?_
  refine CW.ret ?_
  refine RQ.r2 rfl rfl ?_
  refine ⟨hB, rv2, og4, ?_, osE ho4 ?_, hl4⟩
  · skip
    first | exact tE2 rfl (bE (onceB_n hfn).symm) | exact tE2 rfl (bE ((show decide (((putL c xs (firstI c xs)).length : Int) ≤ 24) = decide ((putL c xs (firstI c xs)).length ≤ 24) from decide_eq_decide.2 (by omega)).trans (onceB_y hfy).symm))
  · skip
    first | (rw [once_n hfn]; first | done | (simp; done)) | (rw [once_y hfy]; first | done | rfl)
theorem c_spec_l05Normal {w : World} {va : Value} {cs : List C4} {vw : Value} {xs : List Int} {mo : Int} (ha : Rd ECh w va cs) (hw : Rd EI w vw xs) (hx24 : xs.length ≤ 24) (hmo : 0 ≤ mo ∧ mo ≤ 200) (hoks : ∀ k : Nat, k < cs.length → okC (cs.getD k d4)) : Calls Try.prog 186 #[va, vw, .int .i64 mo] w (Ret1 (fun v w' => Ext w w' ∧ ∃ u og_u, v = .tuple #[u, .int .i64 (nT (normF cs mo.toNat xs)), .bool (nB (normF cs mo.toNat xs))] ∧ Osl VI w' og_u u (nL (normF cs mo.toNat xs)) ∧ Lo w og_u)) := by
  have hB : Ext w w := Ext.refl w
  have hla := ha.leI; have hlw := hw.leI
  refine callsOf (vs := [_, _, _]) Try.func186 rfl Try.ntmps186 rfl rfl ?_
  refine CW.seq ?_
  refine CW.reg ?_
  refine WL.pure rfl rfl rfl (PV.assign rfl) ?_
  refine WL.pure rfl rfl rfl (PV.assign rfl) ?_
  refine WL.pure rfl rfl rfl (PV.assign rfl) ?_
  refine WL.nilS ?_
  refine CW.seq ?_
  refine CW.reg ?_
  refine WL.op rfl (OpK.buildS VI (os := []) [] rfl T.sl28 rfl rfl T.zv2 rfl (by intro z hz; cases hz) rfl (fun v1 g1 w1 hXw1 ho1 hge1 => ?_))
  have hl1 := Lo.new hB hge1
  have hB := hB.trans hXw1
  refine WL.pure rfl rfl rfl (PV.move rfl) ?_
  refine WL.op rfl (OpK.appendS (f := VI) rfl T.sl28 T.zv2 rfl rfl ho1 rfl (Rd.src (by first | assumption | exact Rd.up (by assumption) hB | exact Inn.rd (by assumption) (by omega)) (fun _ => rfl)) (by first | (simp only [List.length_cons, List.length_nil]; omega) | (simp_all; omega)) (fun v2 og2 w2 hXw2 ho2 hap2 => ?_))
  have hl2 := Lo.app hl1 hB hap2
  have hB := hB.updL hXw2 hl1
  refine WL.pure rfl rfl rfl (PV.assign rfl) ?_
  refine WL.nilS ?_
  refine CW.seq ?_
  refine CW.reg ?_
  refine WL.pure rfl rfl rfl (PV.assign rfl) ?_
  refine WL.nilS ?_
  refine CW.block ?_
  have hlt2 := ho2.ltO
  refine CW.loop (σk := [(0, _), (2, _)]) (fun ρ wz m => ∃ (v3 : Value) (og3 : Option Nat) (t : Nat) (now : List Int), ρ = [(9, v3), (10, .int .i64 (t : Nat))] ∧ m = mo.toNat + 1 - t ∧ UpdL [og2] w2 wz ∧ Osl VI wz og3 v3 (now) ∧ OgR w2 og2 og3 ∧ (NrR cs mo.toNat xs now t) ∧ (now.length ≤ 24)) (ρ₀ := [(9, _), (10, _)]) (m₀ := _) ⟨rfl, rfl, rfl, rfl, trivial⟩ ⟨v2, og2, 0, _, rfl, rfl, (UpdL.refl _ _), osE ho2 (by first | rfl | (simp; rfl)), OgR.refl _ _, (by exact NrR.zero _ _ _), (by first | omega | rfl | (simp; done) | assumption | (simp_all; done))⟩ ?_
  rintro _ wl1 _ ⟨v3, og3, t, now, rfl, rfl, hU0, ho3, ha3, hN, hn24⟩
  have hl3 := Lo.ogr hl2 hB ha3
  have hg0_3 := ha3
  have hk0_3 : OkB [og2] w2 og3 := OkB.ogr (OkB.mem (by simp)) (Nat.le_refl _) ha3
  have hB := hB.loop hU0 ⟨hl2, trivial⟩
  have htm := hN.1
  refine CW.block ?_
  refine CW.seq ?_
  refine CW.reg ?_
  refine WL.pure rfl rfl rfl (PV.assign rfl) ?_
  refine WL.nilS ?_
  refine CW.seq ?_
  refine CW.seq ?_
  refine CW.reg ?_
  refine WL.pure rfl rfl rfl (PV.move rfl) ?_
  refine WL.pure rfl rfl rfl ((by first | exact PV.len rfl (by assumption) T.sl98 | exact PV.lenOs rfl (by assumption) T.sl98 | exact PV.len rfl (NL.rd (by assumption)) T.sl98 | exact PV.len rfl (Inn.rd (by assumption) (by omega)) T.sl98)) ?_
  refine WL.pure rfl rfl rfl (PV.move rfl) ?_
  refine WL.nilS ?_
  refine CW.block ?_
  refine CW.loop (σk := [(0, _), (2, _), (9, _), (10, _), (19, _)]) (fun ρ wz m => ∃ (k : Nat), ρ = [(11, .int .i64 (idxB (fun j => decide (0 ≤ firstI (cs.getD j d4) now)) k)), (20, .int .i64 (k : Nat))] ∧ m = cs.length - k ∧ UpdL [] wl1 wz ∧ (k ≤ cs.length)) (ρ₀ := [(11, _), (20, _)]) (m₀ := _) ⟨rfl, rfl, rfl, rfl, rfl, rfl, rfl, trivial⟩ ⟨0, (by rw [← idxB_zero]; rfl), rfl, (UpdL.refl _ _), (by first | omega | rfl | (simp; done) | assumption | (simp_all; done))⟩ ?_
  rintro _ wl2 _ ⟨k, rfl, rfl, hU1, hk⟩
  have hU0 := hU0.trans hU1 trivial
  have ho3 := ho3.loop hU1 trivial
  have hB := hB.loop hU1 trivial
  refine CW.seq ?_
  refine CW.reg ?_
  refine WL.pure rfl rfl rfl (PV.lss rfl rfl) ?_
  refine WL.nilS ?_
  refine CW.seq ?_
  refine CW.cond rfl (fun hc1 => ?_) (fun hc1 => ?_)
  · skip
    try simp only [decide_eq_true_eq, decide_eq_false_iff_not, Bool.not_eq_true', Bool.not_eq_false', Bool.not_eq_eq_eq_not, Bool.not_true, Bool.not_false, Int.not_lt, Int.not_le, Classical.not_not, beq_iff_eq, beq_eq_false_iff_ne] at hc1
    refine CW.skipS ?_
    refine CW.seq ?_
    refine CW.block ?_
    refine CW.seq ?_
    refine CW.reg ?_
    refine WL.pure rfl rfl rfl (PV.move rfl) ?_
    refine WL.pure rfl rfl rfl (PV.assign rfl) ?_
    refine WL.nilS ?_
    refine CW.seq ?_
    refine CW.reg ?_
    refine WL.pure rfl rfl rfl (PV.move rfl) ?_
    have hok := hoks k (by omega); have hpf := places_first (cs.getD k d4) now; have hfr := first_rng (cs.getD k d4) now
    refine WL.pure rfl rfl rfl (PV.lss rfl rfl) ?_
    refine WL.pure rfl rfl rfl (PV.move rfl) ?_
    refine WL.split (t := 25) rfl (fun hc2 => ?_) (fun hc2 => ?_)
    rotate_left
    · skip
      try simp only [decide_eq_true_eq, decide_eq_false_iff_not, Bool.not_eq_true', Bool.not_eq_false', Bool.not_eq_eq_eq_not, Bool.not_true, Bool.not_false, Int.not_lt, Int.not_le, Classical.not_not, beq_iff_eq, beq_eq_false_iff_ne] at hc2
      refine WL.skip rfl rfl rfl rfl rfl ?_
      refine WL.skip rfl rfl rfl rfl rfl ?_
      refine WL.skip rfl rfl rfl rfl rfl ?_
      refine WL.skip rfl rfl rfl rfl rfl ?_
      refine WL.skip rfl rfl rfl rfl rfl ?_
      refine WL.skip rfl rfl rfl rfl rfl ?_
      refine WL.skip rfl rfl rfl rfl rfl ?_
      refine WL.pure rfl rfl rfl (PV.pickF rfl rfl) ?_
      refine WL.nilS ?_
      refine CW.condF rfl ?_
      refine CW.skip ?_
      refine NQ.block ?_
      refine NQ.then ?_
      refine CW.reg ?_
      refine WL.pure rfl rfl rfl (PV.add rfl rfl (by constructor <;> omega)) ?_
      refine WL.pure rfl rfl rfl (PV.move rfl) ?_
      refine WL.nil ?_
      refine NQ.next (ρ := [(11, _), (20, _)]) ⟨rfl, rfl, rfl, rfl, rfl, rfl, rfl, trivial⟩ ?_
      exact ⟨_, ⟨k + 1, (by first | (rw [← idxB_y1 (by omega)]; rfl) | (rw [← idxB_y2 (by omega) (decide_eq_true (by have h9 := hpf.1.2; omega))]; rfl) | (rw [← idxB_y3 (by omega) (decide_eq_false (by have h9 := hpf.1.1; omega))]; rfl)), rfl, hU1, (by first | omega | assumption | (simp_all; done) | (simp_all; omega))⟩, by omega⟩
    try simp only [decide_eq_true_eq, decide_eq_false_iff_not, Bool.not_eq_true', Bool.not_eq_false', Bool.not_eq_eq_eq_not, Bool.not_true, Bool.not_false, Int.not_lt, Int.not_le, Classical.not_not, beq_iff_eq, beq_eq_false_iff_ne] at hc2
    refine WL.pureG rfl rfl rfl rfl rfl (PV.move rfl) ?_
    refine WL.pureG rfl rfl rfl rfl rfl (PV.move rfl) ?_
    first
      | refine WL.at (x := .tmp 26) (y := .tmp 27) (E := ECh) (d4) rfl rfl (by first | assumption | exact Inn.rd (by assumption) (by omega)) (by first | omega | (simp only [List.length_set]; omega) | (simp only [List.length_append, List.length_take, List.length_replicate, List.length_drop]; omega)) (fun p1 csp1 hpp1 hcp1 hq => ?_)
      | refine WL.atZ (x := .tmp 26) (y := .tmp 27) (E := ECh) (d4) rfl rfl (by first | assumption | exact Inn.rd (by assumption) (by omega)) (by first | omega | (simp only [List.length_set]; omega) | (simp only [List.length_append, List.length_take, List.length_replicate, List.length_drop]; omega)) (fun p1 csp1 hpp1 hzp1 hcp1 hq => ?_)
    obtain ⟨vq0, vq1, vq2, vq3, rfl, hq0, hq1, hq2, hq3⟩ := ECh.parts hq
    refine WL.pureG rfl rfl rfl rfl rfl ((by first | exact PV.indexAddr hpp1 rfl rfl T.sl98 | exact PV.indexAddr hpp1 rfl (by rw [← hzp1]; rfl) T.sl98)) ?_
    refine WL.pureG rfl rfl rfl rfl rfl (PV.move rfl) ?_
    refine WL.opG rfl rfl rfl (OpK.call rfl T.cf222 rfl (c_spec_l05Places (by first | exact Bx.cells (by assumption) | exact Cells.up (by assumption) hB | assumption | exact Cells.add (Bx.cells (by assumption)) _ | exact Cells.add (Cells.up (by assumption) hB) _) (by first | assumption | exact Rd.up (by assumption) hB | exact Osl.rd (by assumption) | exact Osn.rdR (by assumption) | exact NL.rd (by assumption) | exact rdII (by assumption) (by assumption) | exact Inn.rd (by assumption) (by omega)) (by first | assumption | exact Rd.up (by assumption) hB | exact Osl.rd (by assumption) | exact Osn.rdR (by assumption) | exact NL.rd (by assumption) | exact rdII (by assumption) (by assumption) | exact Inn.rd (by assumption) (by omega)) (by first | assumption | exact Rd.up (by assumption) hB | exact Osl.rd (by assumption) | exact Osn.rdR (by assumption) | exact NL.rd (by assumption) | exact rdII (by assumption) (by assumption) | exact Inn.rd (by assumption) (by omega)) (by first | assumption | exact Rd.up (by assumption) hB | exact Osl.rd (by assumption) | exact Osn.rdR (by assumption) | exact NL.rd (by assumption) | exact rdII (by assumption) (by assumption) | exact Inn.rd (by assumption) (by omega)) (by first | assumption | exact Rd.up (by assumption) hB | exact Osl.rd (by assumption) | exact Osn.rdR (by assumption) | exact NL.rd (by assumption) | exact rdII (by assumption) (by assumption) | exact Inn.rd (by assumption) (by omega)) (by first | assumption | omega | (simp only [marks_len, marksB_len, marksR_len, sumL_marksS, List.length_take]; omega)) (by first | assumption | omega | (simp only [marks_len, marksB_len, marksR_len, sumL_marksS, List.length_take]; omega))) (fun rv1 w3 hR => ?_))
    obtain ⟨hXw3, v4, og4, rfl, ho4, hq4⟩ := hR
    have hl4 := Lo.up hq4 hB
    have hd3_4 := Dj.lo ho3.ltO hq4
    have hk0_4 := OkN.lo hU0 hq4
    have hg0_4 := OgR.lo hU0.size hq4
    have hk1_4 := OkN.lo hU1 hq4
    have hg1_4 := OgR.lo hU1.size hq4
    have hB := hB.trans hXw3
    have ho3 := ho3.up hXw3
    have hU0 := hU0.ext hXw3
    have hU1 := hU1.ext hXw3
    refine WL.pureG rfl rfl rfl rfl rfl ((PV.lenOs rfl ho4 T.sl28)) ?_
    refine WL.pureG rfl rfl rfl rfl rfl (PV.gtr rfl rfl) ?_
    refine WL.pure rfl rfl rfl (PV.pickT rfl rfl) ?_
    refine WL.nilS ?_
    refine CW.cond rfl (fun hc3 => ?_) (fun hc3 => ?_)
    · skip
      try simp only [decide_eq_true_eq, decide_eq_false_iff_not, Bool.not_eq_true', Bool.not_eq_false', Bool.not_eq_eq_eq_not, Bool.not_true, Bool.not_false, Int.not_lt, Int.not_le, Classical.not_not, beq_iff_eq, beq_eq_false_iff_ne] at hc3
      refine CW.reg ?_
      refine WL.pure rfl rfl rfl (PV.move rfl) ?_
      refine WL.pure rfl rfl rfl (PV.assign rfl) ?_
      refine WL.nil ?_
      refine NQ.block ?_
      refine NQ.then ?_
      refine CW.reg ?_
      refine WL.pure rfl rfl rfl (PV.add rfl rfl (by constructor <;> omega)) ?_
      refine WL.pure rfl rfl rfl (PV.move rfl) ?_
      refine WL.nil ?_
      refine NQ.next (ρ := [(11, _), (20, _)]) ⟨rfl, rfl, rfl, rfl, rfl, rfl, rfl, trivial⟩ ?_
      exact ⟨_, ⟨k + 1, (by first | (rw [← idxB_y1 (by omega)]; rfl) | (rw [← idxB_y2 (by omega) (decide_eq_true (by have h9 := hpf.1.2; omega))]; rfl) | (rw [← idxB_y3 (by omega) (decide_eq_false (by have h9 := hpf.1.1; omega))]; rfl)), rfl, hU1, (by first | omega | assumption | (simp_all; done) | (simp_all; omega))⟩, by omega⟩
    try simp only [decide_eq_true_eq, decide_eq_false_iff_not, Bool.not_eq_true', Bool.not_eq_false', Bool.not_eq_eq_eq_not, Bool.not_true, Bool.not_false, Int.not_lt, Int.not_le, Classical.not_not, beq_iff_eq, beq_eq_false_iff_ne] at hc3
    refine CW.skip ?_
    refine NQ.block ?_
    refine NQ.then ?_
    refine CW.reg ?_
    refine WL.pure rfl rfl rfl (PV.add rfl rfl (by constructor <;> omega)) ?_
    refine WL.pure rfl rfl rfl (PV.move rfl) ?_
    refine WL.nil ?_
    refine NQ.next (ρ := [(11, _), (20, _)]) ⟨rfl, rfl, rfl, rfl, rfl, rfl, rfl, trivial⟩ ?_
    exact ⟨_, ⟨k + 1, (by first | (rw [← idxB_y1 (by omega)]; rfl) | (rw [← idxB_y2 (by omega) (decide_eq_true (by have h9 := hpf.1.2; omega))]; rfl) | (rw [← idxB_y3 (by omega) (decide_eq_false (by have h9 := hpf.1.1; omega))]; rfl)), rfl, hU1, (by first | omega | assumption | (simp_all; done) | (simp_all; omega))⟩, by omega⟩
  try simp only [decide_eq_true_eq, decide_eq_false_iff_not, Bool.not_eq_true', Bool.not_eq_false', Bool.not_eq_eq_eq_not, Bool.not_true, Bool.not_false, Int.not_lt, Int.not_le, Classical.not_not, beq_iff_eq, beq_eq_false_iff_ne] at hc1
  have hke : k = cs.length := (by omega)
  refine CW.exit ?_
  refine XQ.then ?_
  refine XQ.then ?_
  refine XQ.here ?_
  refine NQ.then ?_
  refine CW.seq ?_
  refine CW.seq ?_
  refine CW.reg ?_
  refine WL.pure rfl rfl rfl (PV.move rfl) ?_
  refine WL.pure rfl rfl rfl (PV.lss rfl rfl) ?_
  refine WL.nilS ?_
  refine CW.cond rfl (fun hc4 => ?_) (fun hc4 => ?_)
  · skip
    try simp only [decide_eq_true_eq, decide_eq_false_iff_not, Bool.not_eq_true', Bool.not_eq_false', Bool.not_eq_eq_eq_not, Bool.not_true, Bool.not_false, Int.not_lt, Int.not_le, Classical.not_not, beq_iff_eq, beq_eq_false_iff_ne] at hc4
    have hsq : idxB (fun j => decide (0 ≤ firstI (cs.getD j d4) now)) k = stepI cs now := (by rw [hke]; rfl); have hsn : stepI cs now < 0 := (by omega)
    refine CW.seq ?_
    refine CW.reg ?_
    refine WL.pure rfl rfl rfl (PV.move rfl) ?_
    refine WL.pure rfl rfl rfl (PV.move rfl) ?_
    refine WL.pure rfl rfl rfl (PV.assign rfl) ?_
    refine WL.pure rfl rfl rfl (PV.assign rfl) ?_
    refine WL.pure rfl rfl rfl (PV.assign rfl) ?_
    refine WL.nilS ?_
    refine CW.ret ?_
    refine RQ.then ?_
    refine RQ.block ?_
    refine RQ.then ?_
    refine RQ.block ?_
    refine RQ.r3 rfl rfl rfl ?_
    refine ⟨hB, v3, og3, ?_, osE ho3 ?_, hl3⟩
    · skip
      first | (have hR : normF cs mo.toNat xs = none := (by first | exact hN.stop hsy (by omega) | exact hN.long hsy (by intro h9; have h99 : onceB (cs.getD (stepI cs now).toNat d4) now = false := (by assumption); rw [hoB] at h99; exact absurd ((decide_eq_true h9).symm.trans h99) (by decide))); exact tE3 rfl (iE (by rw [hR]; rfl)) (bE (by rw [hR]; rfl))) | (have hR : normF cs mo.toNat xs = some (now, (t : Int)) := hN.end hsn; exact tE3 rfl (iE (by rw [hR]; rfl)) (bE (by rw [hR]; rfl)))
    · skip
      first | (have hR : normF cs mo.toNat xs = none := (by first | exact hN.stop hsy (by omega) | exact hN.long hsy (by intro h9; have h99 : onceB (cs.getD (stepI cs now).toNat d4) now = false := (by assumption); rw [hoB] at h99; exact absurd ((decide_eq_true h9).symm.trans h99) (by decide))); rw [hR]; rfl) | (have hR : normF cs mo.toNat xs = some (now, (t : Int)) := hN.end hsn; rw [hR]; rfl)
  try simp only [decide_eq_true_eq, decide_eq_false_iff_not, Bool.not_eq_true', Bool.not_eq_false', Bool.not_eq_eq_eq_not, Bool.not_true, Bool.not_false, Int.not_lt, Int.not_le, Classical.not_not, beq_iff_eq, beq_eq_false_iff_ne] at hc4
  have hsq : idxB (fun j => decide (0 ≤ firstI (cs.getD j d4) now)) k = stepI cs now := (by rw [hke]; rfl); have hsy : 0 ≤ stepI cs now := (by omega); rw [hsq]; have hsf := stepI_first hsy; have hok := hoks _ hsf.1; have hoB := onceB_y hsf.2; have hoL := once_y hsf.2
  refine CW.skipS ?_
  refine CW.seq ?_
  refine CW.reg ?_
  refine WL.pure rfl rfl rfl (PV.move rfl) ?_
  refine WL.pure rfl rfl rfl (PV.move rfl) ?_
  first
    | refine WL.at (x := .tmp 41) (y := .tmp 42) (E := ECh) (d4) rfl rfl (by first | assumption | exact Inn.rd (by assumption) (by omega)) (by first | omega | (simp only [List.length_set]; omega) | (simp only [List.length_append, List.length_take, List.length_replicate, List.length_drop]; omega)) (fun p2 csp2 hpp2 hcp2 hq => ?_)
    | refine WL.atZ (x := .tmp 41) (y := .tmp 42) (E := ECh) (d4) rfl rfl (by first | assumption | exact Inn.rd (by assumption) (by omega)) (by first | omega | (simp only [List.length_set]; omega) | (simp only [List.length_append, List.length_take, List.length_replicate, List.length_drop]; omega)) (fun p2 csp2 hpp2 hzp2 hcp2 hq => ?_)
  obtain ⟨vq0, vq1, vq2, vq3, rfl, hq0, hq1, hq2, hq3⟩ := ECh.parts hq
  refine WL.pure rfl rfl rfl ((by first | exact PV.indexAddr hpp2 rfl rfl T.sl98 | exact PV.indexAddr hpp2 rfl (by rw [← hzp2]; rfl) T.sl98)) ?_
  refine WL.pure rfl rfl rfl (PV.move rfl) ?_
  refine WL.op rfl (OpK.call rfl T.cf223 rfl (c_spec_l05Once (by first | exact Bx.cells (by assumption) | exact Cells.up (by assumption) hB | assumption | exact Cells.add (Bx.cells (by assumption)) _ | exact Cells.add (Cells.up (by assumption) hB) _) (by first | assumption | exact Rd.up (by assumption) hB | exact Osl.rd (by assumption) | exact Osn.rdR (by assumption) | exact NL.rd (by assumption) | exact rdII (by assumption) (by assumption) | exact Inn.rd (by assumption) (by omega)) (by first | assumption | exact Rd.up (by assumption) hB | exact Osl.rd (by assumption) | exact Osn.rdR (by assumption) | exact NL.rd (by assumption) | exact rdII (by assumption) (by assumption) | exact Inn.rd (by assumption) (by omega)) (by first | assumption | exact Rd.up (by assumption) hB | exact Osl.rd (by assumption) | exact Osn.rdR (by assumption) | exact NL.rd (by assumption) | exact rdII (by assumption) (by assumption) | exact Inn.rd (by assumption) (by omega)) (by first | assumption | exact Rd.up (by assumption) hB | exact Osl.rd (by assumption) | exact Osn.rdR (by assumption) | exact NL.rd (by assumption) | exact rdII (by assumption) (by assumption) | exact Inn.rd (by assumption) (by omega)) (by first | assumption | exact Rd.up (by assumption) hB | exact Osl.rd (by assumption) | exact Osn.rdR (by assumption) | exact NL.rd (by assumption) | exact rdII (by assumption) (by assumption) | exact Inn.rd (by assumption) (by omega)) (by first | assumption | omega | (simp only [marks_len, marksB_len, marksR_len, sumL_marksS, List.length_take]; omega)) (by first | assumption | omega | (simp only [marks_len, marksB_len, marksR_len, sumL_marksS, List.length_take]; omega))) (fun rv2 w4 hR => ?_))
  obtain ⟨hXw4, v5, og5, rfl, ho5, hq5⟩ := hR
  have hl5 := Lo.up hq5 hB
  have hd3_5 := Dj.lo ho3.ltO hq5
  have hk0_5 := OkN.lo hU0 hq5
  have hg0_5 := OgR.lo hU0.size hq5
  have hB := hB.trans hXw4
  have ho3 := ho3.up hXw4
  have hU0 := hU0.ext hXw4
  refine WL.pure rfl rfl rfl (PV.move rfl) ?_
  refine WL.pure rfl rfl rfl (PV.extract rfl rfl) ?_
  refine WL.pure rfl rfl rfl (PV.extract rfl rfl) ?_
  refine WL.pure rfl rfl rfl (PV.assign rfl) ?_
  refine WL.pure rfl rfl rfl (PV.assign rfl) ?_
  refine WL.nilS ?_
  refine CW.seq ?_
  refine CW.seq ?_
  refine CW.reg ?_
  refine WL.pure rfl rfl rfl (PV.move rfl) ?_
  refine WL.pure rfl rfl rfl (PV.move rfl) ?_
  refine WL.pure rfl rfl rfl (PV.eql rfl rfl) ?_
  refine WL.pure rfl rfl rfl (PV.move rfl) ?_
  refine WL.split (t := 51) rfl (fun hc5 => ?_) (fun hc5 => ?_)
  · skip
    try simp only [decide_eq_true_eq, decide_eq_false_iff_not, Bool.not_eq_true', Bool.not_eq_false', Bool.not_eq_eq_eq_not, Bool.not_true, Bool.not_false, Int.not_lt, Int.not_le, Classical.not_not, beq_iff_eq, beq_eq_false_iff_ne] at hc5
    refine WL.skip rfl rfl rfl rfl rfl ?_
    refine WL.skip rfl rfl rfl rfl rfl ?_
    refine WL.pure rfl rfl rfl (PV.pickT rfl rfl) ?_
    refine WL.nilS ?_
    refine CW.condT rfl ?_
    refine CW.seq ?_
    refine CW.reg ?_
    refine WL.pure rfl rfl rfl (PV.assign rfl) ?_
    refine WL.pure rfl rfl rfl (PV.assign rfl) ?_
    refine WL.pure rfl rfl rfl (PV.assign rfl) ?_
    refine WL.nilS ?_
    refine CW.ret ?_
    refine RQ.then ?_
    refine RQ.block ?_
    refine RQ.then ?_
    refine RQ.block ?_
    refine RQ.r3 rfl rfl rfl ?_
    refine ⟨hB, (.slice none 0 0), none, ?_, osE (Osl.nil _ _) ?_, Lo.nl _⟩
    · skip
      first | (have hR : normF cs mo.toNat xs = none := (by first | exact hN.stop hsy (by omega) | exact hN.long hsy (by intro h9; have h99 : onceB (cs.getD (stepI cs now).toNat d4) now = false := (by assumption); rw [hoB] at h99; exact absurd ((decide_eq_true h9).symm.trans h99) (by decide))); exact tE3 rfl (iE (by rw [hR]; rfl)) (bE (by rw [hR]; rfl))) | (have hR : normF cs mo.toNat xs = some (now, (t : Int)) := hN.end hsn; exact tE3 rfl (iE (by rw [hR]; rfl)) (bE (by rw [hR]; rfl)))
    · skip
      first | (have hR : normF cs mo.toNat xs = none := (by first | exact hN.stop hsy (by omega) | exact hN.long hsy (by intro h9; have h99 : onceB (cs.getD (stepI cs now).toNat d4) now = false := (by assumption); rw [hoB] at h99; exact absurd ((decide_eq_true h9).symm.trans h99) (by decide))); rw [hR]; rfl) | (have hR : normF cs mo.toNat xs = some (now, (t : Int)) := hN.end hsn; rw [hR]; rfl)
  try simp only [decide_eq_true_eq, decide_eq_false_iff_not, Bool.not_eq_true', Bool.not_eq_false', Bool.not_eq_eq_eq_not, Bool.not_true, Bool.not_false, Int.not_lt, Int.not_le, Classical.not_not, beq_iff_eq, beq_eq_false_iff_ne] at hc5
  refine WL.pureG rfl rfl rfl rfl rfl (PV.move rfl) ?_
  refine WL.pureG rfl rfl rfl rfl rfl (PV.not rfl) ?_
  refine WL.pure rfl rfl rfl (PV.pickF rfl rfl) ?_
  refine WL.nilS ?_
  refine CW.cond rfl (fun hc6 => ?_) (fun hc6 => ?_)
  · skip
    try simp only [decide_eq_true_eq, decide_eq_false_iff_not, Bool.not_eq_true', Bool.not_eq_false', Bool.not_eq_eq_eq_not, Bool.not_true, Bool.not_false, Int.not_lt, Int.not_le, Classical.not_not, beq_iff_eq, beq_eq_false_iff_ne] at hc6
    refine CW.seq ?_
    refine CW.reg ?_
    refine WL.pure rfl rfl rfl (PV.assign rfl) ?_
    refine WL.pure rfl rfl rfl (PV.assign rfl) ?_
    refine WL.pure rfl rfl rfl (PV.assign rfl) ?_
    refine WL.nilS ?_
    refine CW.ret ?_
    refine RQ.then ?_
    refine RQ.block ?_
    refine RQ.then ?_
    refine RQ.block ?_
    refine RQ.r3 rfl rfl rfl ?_
    refine ⟨hB, (.slice none 0 0), none, ?_, osE (Osl.nil _ _) ?_, Lo.nl _⟩
    · skip
      first | (have hR : normF cs mo.toNat xs = none := (by first | exact hN.stop hsy (by omega) | exact hN.long hsy (by intro h9; have h99 : onceB (cs.getD (stepI cs now).toNat d4) now = false := (by assumption); rw [hoB] at h99; exact absurd ((decide_eq_true h9).symm.trans h99) (by decide))); exact tE3 rfl (iE (by rw [hR]; rfl)) (bE (by rw [hR]; rfl))) | (have hR : normF cs mo.toNat xs = some (now, (t : Int)) := hN.end hsn; exact tE3 rfl (iE (by rw [hR]; rfl)) (bE (by rw [hR]; rfl)))
    · skip
      first | (have hR : normF cs mo.toNat xs = none := (by first | exact hN.stop hsy (by omega) | exact hN.long hsy (by intro h9; have h99 : onceB (cs.getD (stepI cs now).toNat d4) now = false := (by assumption); rw [hoB] at h99; exact absurd ((decide_eq_true h9).symm.trans h99) (by decide))); rw [hR]; rfl) | (have hR : normF cs mo.toNat xs = some (now, (t : Int)) := hN.end hsn; rw [hR]; rfl)
  try simp only [decide_eq_true_eq, decide_eq_false_iff_not, Bool.not_eq_true', Bool.not_eq_false', Bool.not_eq_eq_eq_not, Bool.not_true, Bool.not_false, Int.not_lt, Int.not_le, Classical.not_not, beq_iff_eq, beq_eq_false_iff_ne] at hc6
  refine CW.skipS ?_
  refine CW.seq ?_
  refine CW.reg ?_
  refine WL.pure rfl rfl rfl (PV.move rfl) ?_
  refine WL.pure rfl rfl rfl (PV.assign rfl) ?_
  refine WL.nilS ?_
  refine CW.reg ?_
  refine WL.pure rfl rfl rfl (PV.move rfl) ?_
  refine WL.pure rfl rfl rfl (PV.add rfl rfl (by constructor <;> omega)) ?_
  refine WL.pure rfl rfl rfl (PV.assign rfl) ?_
  refine WL.nil ?_
  refine NQ.block ?_
  refine NQ.next (ρ := [(9, _), (10, _)]) ⟨rfl, rfl, rfl, rfl, trivial⟩ ?_
  exact ⟨_, ⟨v5, og5, t + 1, _, rfl, rfl, hU0, osE ho5 (by rfl), (by first | exact hg0_5 | exact OgR.weak hg0_5), (by exact hN.step hsy (by omega) hoL (by rw [hoL]; exact (by have h99 : onceB (cs.getD (stepI cs now).toNat d4) now = true := (by assumption); rw [hoB] at h99; exact of_decide_eq_true h99))), (by rw [hoL]; exact (by have h99 : onceB (cs.getD (stepI cs now).toNat d4) now = true := (by assumption); rw [hoB] at h99; exact of_decide_eq_true h99))⟩, by omega⟩
theorem c_spec_NormalOf {w : World} {va : Value} {cs : List C4} {vw : Value} {xs : List Int} {L mo : Int} (ha : Rd ECh w va cs) (hw : Rd EI w vw xs) : Calls Try.prog 91 #[va, vw, .int .i64 L, .int .i64 mo] w (Ret1 (fun v w' => Ext w w' ∧ ∃ u og_u, v = .tuple #[u, .int .i64 (nT (nrmR cs xs L mo)), .bool (nB (nrmR cs xs L mo))] ∧ Osl VI w' og_u u (nL (nrmR cs xs L mo)) ∧ Lo w og_u)) := by
  have hB : Ext w w := Ext.refl w
  have hla := ha.leI; have hlw := hw.leI
  refine callsOf (vs := [_, _, _, _]) Try.func91 rfl Try.ntmps91 rfl rfl ?_
  refine CW.seq ?_
  refine CW.reg ?_
  refine WL.pure rfl rfl rfl (PV.assign rfl) ?_
  refine WL.pure rfl rfl rfl (PV.assign rfl) ?_
  refine WL.pure rfl rfl rfl (PV.assign rfl) ?_
  refine WL.nilS ?_
  refine CW.seq ?_
  refine CW.seq ?_
  refine CW.reg ?_
  refine WL.pure rfl rfl rfl (PV.move rfl) ?_
  refine WL.pure rfl rfl rfl (PV.move rfl) ?_
  refine WL.op rfl (OpK.callR rfl T.cf167 rfl (c_spec_l05Plain (by first | assumption | exact Rd.up (by assumption) hB | exact rdCh (by assumption) (by assumption))) (fun w1 hXw1 => ?_))
  have hB := hB.trans hXw1
  refine WL.pure rfl rfl rfl (PV.not rfl) ?_
  refine WL.pure rfl rfl rfl (PV.move rfl) ?_
  refine WL.split (t := 15) rfl (fun hc1 => ?_) (fun hc1 => ?_)
  · skip
    try simp only [decide_eq_true_eq, decide_eq_false_iff_not, Bool.not_eq_true', Bool.not_eq_false', Bool.not_eq_eq_eq_not, Bool.not_true, Bool.not_false, Int.not_lt, Int.not_le, Classical.not_not, beq_iff_eq, beq_eq_false_iff_ne] at hc1
    refine WL.skip rfl rfl rfl rfl rfl ?_
    refine WL.skip rfl rfl rfl rfl rfl ?_
    refine WL.skip rfl rfl rfl rfl rfl ?_
    refine WL.skip rfl rfl rfl rfl rfl ?_
    refine WL.pure rfl rfl rfl (PV.pickT rfl rfl) ?_
    refine WL.pure rfl rfl rfl (PV.move rfl) ?_
    refine WL.skip rfl rfl rfl rfl rfl ?_
    refine WL.skip rfl rfl rfl rfl rfl ?_
    refine WL.skip rfl rfl rfl rfl rfl ?_
    refine WL.pure rfl rfl rfl (PV.pickT rfl rfl) ?_
    refine WL.nilS ?_
    refine CW.condT rfl ?_
    refine CW.seq ?_
    refine CW.reg ?_
    refine WL.pure rfl rfl rfl (PV.assign rfl) ?_
    refine WL.pure rfl rfl rfl (PV.assign rfl) ?_
    refine WL.pure rfl rfl rfl (PV.assign rfl) ?_
    refine WL.nilS ?_
    refine CW.ret ?_
    refine RQ.then ?_
    refine RQ.r3 rfl rfl rfl ?_
    refine ⟨hB, (.slice none 0 0), none, ?_, osE (Osl.nil _ _) ?_, Lo.nl _⟩
    · skip
      first | (have hR : nrmR cs xs L mo = none := (by first | exact nrmR_n1 (by assumption) | exact nrmR_n2 (by assumption) | exact nrmR_n3 (by omega)); exact tE3 rfl (iE (by rw [hR]; rfl)) (bE (by rw [hR]; rfl))) | (rw [hyl])
    · skip
      first | (have hR : nrmR cs xs L mo = none := (by first | exact nrmR_n1 (by assumption) | exact nrmR_n2 (by assumption) | exact nrmR_n3 (by omega)); rw [hR]; rfl) | (rw [hyl])
  try simp only [decide_eq_true_eq, decide_eq_false_iff_not, Bool.not_eq_true', Bool.not_eq_false', Bool.not_eq_eq_eq_not, Bool.not_true, Bool.not_false, Int.not_lt, Int.not_le, Classical.not_not, beq_iff_eq, beq_eq_false_iff_ne] at hc1
  refine WL.pureG rfl rfl rfl rfl rfl (PV.move rfl) ?_
  refine WL.pureG rfl rfl rfl rfl rfl (PV.move rfl) ?_
  refine WL.opG rfl rfl rfl (OpK.callR rfl T.cf168 rfl (c_spec_l05Long (by first | assumption | exact Rd.up (by assumption) hB | exact Osl.rd (by assumption) | exact Osn.rdR (by assumption) | exact NL.rd (by assumption) | exact rdII (by assumption) (by assumption) | exact Inn.rd (by assumption) (by omega))) (fun w2 hXw2 => ?_))
  have hB := hB.trans hXw2
  refine WL.pureG rfl rfl rfl rfl rfl (PV.not rfl) ?_
  refine WL.pure rfl rfl rfl (PV.pickF rfl rfl) ?_
  refine WL.pure rfl rfl rfl (PV.move rfl) ?_
  refine WL.split (t := 21) rfl (fun hc2 => ?_) (fun hc2 => ?_)
  · skip
    try simp only [decide_eq_true_eq, decide_eq_false_iff_not, Bool.not_eq_true', Bool.not_eq_false', Bool.not_eq_eq_eq_not, Bool.not_true, Bool.not_false, Int.not_lt, Int.not_le, Classical.not_not, beq_iff_eq, beq_eq_false_iff_ne] at hc2
    refine WL.skip rfl rfl rfl rfl rfl ?_
    refine WL.skip rfl rfl rfl rfl rfl ?_
    refine WL.skip rfl rfl rfl rfl rfl ?_
    refine WL.pure rfl rfl rfl (PV.pickT rfl rfl) ?_
    refine WL.nilS ?_
    refine CW.condT rfl ?_
    refine CW.seq ?_
    refine CW.reg ?_
    refine WL.pure rfl rfl rfl (PV.assign rfl) ?_
    refine WL.pure rfl rfl rfl (PV.assign rfl) ?_
    refine WL.pure rfl rfl rfl (PV.assign rfl) ?_
    refine WL.nilS ?_
    refine CW.ret ?_
    refine RQ.then ?_
    refine RQ.r3 rfl rfl rfl ?_
    refine ⟨hB, (.slice none 0 0), none, ?_, osE (Osl.nil _ _) ?_, Lo.nl _⟩
    · skip
      first | (have hR : nrmR cs xs L mo = none := (by first | exact nrmR_n1 (by assumption) | exact nrmR_n2 (by assumption) | exact nrmR_n3 (by omega)); exact tE3 rfl (iE (by rw [hR]; rfl)) (bE (by rw [hR]; rfl))) | (rw [hyl])
    · skip
      first | (have hR : nrmR cs xs L mo = none := (by first | exact nrmR_n1 (by assumption) | exact nrmR_n2 (by assumption) | exact nrmR_n3 (by omega)); rw [hR]; rfl) | (rw [hyl])
  try simp only [decide_eq_true_eq, decide_eq_false_iff_not, Bool.not_eq_true', Bool.not_eq_false', Bool.not_eq_eq_eq_not, Bool.not_true, Bool.not_false, Int.not_lt, Int.not_le, Classical.not_not, beq_iff_eq, beq_eq_false_iff_ne] at hc2
  refine WL.pureG rfl rfl rfl rfl rfl (PV.move rfl) ?_
  refine WL.opG rfl rfl rfl (OpK.callR rfl T.cf98 rfl (c_spec_l00In) (fun w3 hXw3 => ?_))
  have hB := hB.trans hXw3
  refine WL.pureG rfl rfl rfl rfl rfl (PV.not rfl) ?_
  refine WL.pure rfl rfl rfl (PV.pickF rfl rfl) ?_
  refine WL.nilS ?_
  refine CW.cond rfl (fun hc3 => ?_) (fun hc3 => ?_)
  · skip
    try simp only [decide_eq_true_eq, decide_eq_false_iff_not, Bool.not_eq_true', Bool.not_eq_false', Bool.not_eq_eq_eq_not, Bool.not_true, Bool.not_false, Int.not_lt, Int.not_le, Classical.not_not, beq_iff_eq, beq_eq_false_iff_ne] at hc3
    refine CW.seq ?_
    refine CW.reg ?_
    refine WL.pure rfl rfl rfl (PV.assign rfl) ?_
    refine WL.pure rfl rfl rfl (PV.assign rfl) ?_
    refine WL.pure rfl rfl rfl (PV.assign rfl) ?_
    refine WL.nilS ?_
    refine CW.ret ?_
    refine RQ.then ?_
    refine RQ.r3 rfl rfl rfl ?_
    refine ⟨hB, (.slice none 0 0), none, ?_, osE (Osl.nil _ _) ?_, Lo.nl _⟩
    · skip
      first | (have hR : nrmR cs xs L mo = none := (by first | exact nrmR_n1 (by assumption) | exact nrmR_n2 (by assumption) | exact nrmR_n3 (by omega)); exact tE3 rfl (iE (by rw [hR]; rfl)) (bE (by rw [hR]; rfl))) | (rw [hyl])
    · skip
      first | (have hR : nrmR cs xs L mo = none := (by first | exact nrmR_n1 (by assumption) | exact nrmR_n2 (by assumption) | exact nrmR_n3 (by omega)); rw [hR]; rfl) | (rw [hyl])
  try simp only [decide_eq_true_eq, decide_eq_false_iff_not, Bool.not_eq_true', Bool.not_eq_false', Bool.not_eq_eq_eq_not, Bool.not_true, Bool.not_false, Int.not_lt, Int.not_le, Classical.not_not, beq_iff_eq, beq_eq_false_iff_ne] at hc3
  refine CW.skipS ?_
  refine CW.seq ?_
  refine CW.reg ?_
  have hpb := pln_y (by assumption : plnB cs L = true); have hlb := listB_y hpb.1; have hoks := hlb.2.2.2; have hlg := longB_y (by assumption : longB xs L = true); have hx24 := hlg.2.1; have hyl := nrmR_y (by assumption : plnB cs L = true) (by assumption : longB xs L = true) (show 0 ≤ mo ∧ mo ≤ 200 by assumption)
  refine WL.pure rfl rfl rfl (PV.move rfl) ?_
  refine WL.pure rfl rfl rfl (PV.move rfl) ?_
  refine WL.pure rfl rfl rfl (PV.move rfl) ?_
  refine WL.op rfl (OpK.call rfl T.cf186 rfl (c_spec_l05Normal (by first | assumption | exact Rd.up (by assumption) hB | exact rdCh (by assumption) (by assumption)) (by first | assumption | exact Rd.up (by assumption) hB | exact Osl.rd (by assumption) | exact Osn.rdR (by assumption) | exact NL.rd (by assumption) | exact rdII (by assumption) (by assumption) | exact Inn.rd (by assumption) (by omega)) (by first | assumption | omega | (simp only [marks_len, marksB_len, marksR_len, sumL_marksS, List.length_take]; omega)) (by first | assumption | omega | (simp only [marks_len, marksB_len, marksR_len, sumL_marksS, List.length_take]; omega)) (by first | assumption | (intro k9 h9; simp only [List.length_cons, List.length_nil] at h9; (obtain rfl : k9 = 0 := (by omega)); assumption))) (fun rv1 w4 hR => ?_))
  obtain ⟨hXw4, v1, og1, rfl, ho1, hq1⟩ := hR
  have hl1 := Lo.up hq1 hB
  have hB := hB.trans hXw4
  refine WL.pure rfl rfl rfl (PV.extract rfl rfl) ?_
  refine WL.pure rfl rfl rfl (PV.extract rfl rfl) ?_
  refine WL.pure rfl rfl rfl (PV.extract rfl rfl) ?_
  refine WL.pure rfl rfl rfl (PV.assign rfl) ?_
  refine WL.pure rfl rfl rfl (PV.assign rfl) ?_
  refine WL.pure rfl rfl rfl (PV.assign rfl) ?_
  refine WL.nilS ?_
  refine CW.ret ?_
  refine RQ.r3 rfl rfl rfl ?_
  refine ⟨hB, v1, og1, ?_, osE ho1 ?_, hl1⟩
  · skip
    first | (have hR : nrmR cs xs L mo = none := (by first | exact nrmR_n1 (by assumption) | exact nrmR_n2 (by assumption) | exact nrmR_n3 (by omega)); exact tE3 rfl (iE (by rw [hR]; rfl)) (bE (by rw [hR]; rfl))) | (rw [hyl])
  · skip
    first | (have hR : nrmR cs xs L mo = none := (by first | exact nrmR_n1 (by assumption) | exact nrmR_n2 (by assumption) | exact nrmR_n3 (by omega)); rw [hR]; rfl) | (rw [hyl])
theorem c_impl_PlacesOf {w : World} {uc0 uc1 uc2 uc3 : Value} {c : C4} {vw : Value} {xs : List Int} {L : Int} (hch0 : Rd EI w uc0 c.1) (hch1 : Rd EI w uc1 c.2.1) (hch2 : Rd EI w uc2 c.2.2.1) (hch3 : Rd EI w uc3 c.2.2.2) (hw : Rd EI w vw xs) : Calls Try.prog 92 #[.agg #[uc0, uc1, uc2, uc3], vw, .int .i64 L] w (Ret1 (fun v w' => Ext w w' ∧ ∃ u og_u, v = .tuple #[u, .bool (chB c L && longB xs L)] ∧ Osl VI w' og_u u (onT (chB c L && longB xs L) (placesL c xs xs.length)) ∧ Lo w og_u)) := by
  have hB : Ext w w := Ext.refl w
  have hlc0 := hch0.leI; have hlc1 := hch1.leI; have hlc2 := hch2.leI; have hlc3 := hch3.leI; have hlw := hw.leI
  refine callsOf (vs := [_, _, _]) Try.func92 rfl Try.ntmps92 rfl rfl ?_
  refine CW.seq ?_
  refine CW.reg ?_
  refine WL.op rfl (OpK.box rfl rfl (by first | exact Rd.cells1 (by assumption) | exact Osl.cells1 (by assumption) | exact Osn.cells1 (by assumption) | exact Rd.cells1 (NL.rd (by assumption)) | exact Inn.cell1 (by assumption) (by omega) | assumption | rfl) (fun b1 w1 hXw1 hb1 hge1 => ?_))
  have hl1 := Lo.new hB hge1
  have hB := hB.trans hXw1
  refine WL.pure rfl rfl rfl (PV.assign rfl) ?_
  refine WL.pure rfl rfl rfl (PV.assign rfl) ?_
  refine WL.nilS ?_
  refine CW.seq ?_
  refine CW.seq ?_
  refine CW.reg ?_
  refine WL.pure rfl rfl rfl ((by first | exact PV.loadA T.ag107 rfl (by first | exact Cells.up (by assumption) hB | exact Bx.cells (by assumption) | assumption) (Ext.refl _) rfl | exact PV.loadP (ds := [_, _, _, _]) T.ag107 rfl (by first | exact Cells.up (by assumption) hB | exact Bx.cells (by assumption) | assumption) (Ext.refl _) rfl rfl)) ?_
  refine WL.pure rfl rfl rfl (PV.move rfl) ?_
  refine WL.op rfl (OpK.callR rfl T.cf181 rfl (c_impl_ValidChange (by first | assumption | exact Rd.up (by assumption) hB | exact Osl.rd (by assumption) | exact Osn.rdR (by assumption) | exact NL.rd (by assumption) | exact rdII (by assumption) (by assumption) | exact Inn.rd (by assumption) (by omega)) (by first | assumption | exact Rd.up (by assumption) hB | exact Osl.rd (by assumption) | exact Osn.rdR (by assumption) | exact NL.rd (by assumption) | exact rdII (by assumption) (by assumption) | exact Inn.rd (by assumption) (by omega)) (by first | assumption | exact Rd.up (by assumption) hB | exact Osl.rd (by assumption) | exact Osn.rdR (by assumption) | exact NL.rd (by assumption) | exact rdII (by assumption) (by assumption) | exact Inn.rd (by assumption) (by omega)) (by first | assumption | exact Rd.up (by assumption) hB | exact Osl.rd (by assumption) | exact Osn.rdR (by assumption) | exact NL.rd (by assumption) | exact rdII (by assumption) (by assumption) | exact Inn.rd (by assumption) (by omega))) (fun w2 hXw2 => ?_))
  have hB := hB.trans hXw2
  have hb1 := hb1.up hXw2
  refine WL.pure rfl rfl rfl (PV.not rfl) ?_
  refine WL.pure rfl rfl rfl (PV.move rfl) ?_
  refine WL.split (t := 14) rfl (fun hc1 => ?_) (fun hc1 => ?_)
  · skip
    try simp only [decide_eq_true_eq, decide_eq_false_iff_not, Bool.not_eq_true', Bool.not_eq_false', Bool.not_eq_eq_eq_not, Bool.not_true, Bool.not_false, Int.not_lt, Int.not_le, Classical.not_not, beq_iff_eq, beq_eq_false_iff_ne] at hc1
    refine WL.skip rfl rfl rfl rfl rfl ?_
    refine WL.skip rfl rfl rfl rfl rfl ?_
    refine WL.skip rfl rfl rfl rfl rfl ?_
    refine WL.skip rfl rfl rfl rfl rfl ?_
    refine WL.pure rfl rfl rfl (PV.pickT rfl rfl) ?_
    refine WL.nilS ?_
    refine CW.condT rfl ?_
    refine CW.seq ?_
    refine CW.reg ?_
    refine WL.pure rfl rfl rfl (PV.assign rfl) ?_
    refine WL.pure rfl rfl rfl (PV.assign rfl) ?_
    refine WL.nilS ?_
    refine CW.ret ?_
    refine RQ.then ?_
    refine RQ.r2 rfl rfl ?_
    refine ⟨hB, (.slice none 0 0), none, ?_, osE (Osl.nil _ _) ?_, Lo.nl _⟩
    · skip
      first | exact tE2 rfl (bE hV.symm) | (have hN : (chB c L && longB xs L) = false := (by first | (rw [(by assumption : chB c L = false)]; simp; done) | (rw [(by assumption : longB xs L = false)]; simp; done)); exact tE2 rfl (bE hN.symm))
    · skip
      first | (rw [onT_yes hV, show k = xs.length from (by omega)]; done) | (have hN : (chB c L && longB xs L) = false := (by first | (rw [(by assumption : chB c L = false)]; simp; done) | (rw [(by assumption : longB xs L = false)]; simp; done)); rw [onT_no (by rw [hN]; decide)])
  try simp only [decide_eq_true_eq, decide_eq_false_iff_not, Bool.not_eq_true', Bool.not_eq_false', Bool.not_eq_eq_eq_not, Bool.not_true, Bool.not_false, Int.not_lt, Int.not_le, Classical.not_not, beq_iff_eq, beq_eq_false_iff_ne] at hc1
  refine WL.pureG rfl rfl rfl rfl rfl (PV.move rfl) ?_
  refine WL.pureG rfl rfl rfl rfl rfl (PV.move rfl) ?_
  refine WL.opG rfl rfl rfl (OpK.callR rfl T.cf165 rfl (c_impl_IsLongWord (by first | assumption | exact Rd.up (by assumption) hB | exact Osl.rd (by assumption) | exact Osn.rdR (by assumption) | exact NL.rd (by assumption) | exact rdII (by assumption) (by assumption) | exact Inn.rd (by assumption) (by omega))) (fun w3 hXw3 => ?_))
  have hB := hB.trans hXw3
  have hb1 := hb1.up hXw3
  refine WL.pureG rfl rfl rfl rfl rfl (PV.not rfl) ?_
  refine WL.pure rfl rfl rfl (PV.pickF rfl rfl) ?_
  refine WL.nilS ?_
  refine CW.cond rfl (fun hc2 => ?_) (fun hc2 => ?_)
  · skip
    try simp only [decide_eq_true_eq, decide_eq_false_iff_not, Bool.not_eq_true', Bool.not_eq_false', Bool.not_eq_eq_eq_not, Bool.not_true, Bool.not_false, Int.not_lt, Int.not_le, Classical.not_not, beq_iff_eq, beq_eq_false_iff_ne] at hc2
    refine CW.seq ?_
    refine CW.reg ?_
    refine WL.pure rfl rfl rfl (PV.assign rfl) ?_
    refine WL.pure rfl rfl rfl (PV.assign rfl) ?_
    refine WL.nilS ?_
    refine CW.ret ?_
    refine RQ.then ?_
    refine RQ.r2 rfl rfl ?_
    refine ⟨hB, (.slice none 0 0), none, ?_, osE (Osl.nil _ _) ?_, Lo.nl _⟩
    · skip
      first | exact tE2 rfl (bE hV.symm) | (have hN : (chB c L && longB xs L) = false := (by first | (rw [(by assumption : chB c L = false)]; simp; done) | (rw [(by assumption : longB xs L = false)]; simp; done)); exact tE2 rfl (bE hN.symm))
    · skip
      first | (rw [onT_yes hV, show k = xs.length from (by omega)]; done) | (have hN : (chB c L && longB xs L) = false := (by first | (rw [(by assumption : chB c L = false)]; simp; done) | (rw [(by assumption : longB xs L = false)]; simp; done)); rw [onT_no (by rw [hN]; decide)])
  try simp only [decide_eq_true_eq, decide_eq_false_iff_not, Bool.not_eq_true', Bool.not_eq_false', Bool.not_eq_eq_eq_not, Bool.not_true, Bool.not_false, Int.not_lt, Int.not_le, Classical.not_not, beq_iff_eq, beq_eq_false_iff_ne] at hc2
  refine CW.skipS ?_
  refine CW.seq ?_
  refine CW.reg ?_
  have hcv := chB_y (by assumption : chB c L = true); have hok := hcv.1; have hlg := longB_y (by assumption : longB xs L = true); have hl24 := hlg.2.1; have hV : (chB c L && longB xs L) = true := (by rw [(by assumption : chB c L = true), (by assumption : longB xs L = true)]; rfl)
  refine WL.op rfl (OpK.buildS VI (os := []) [] rfl T.sl28 rfl rfl T.zv2 rfl (by intro z hz; cases hz) rfl (fun v2 g2 w4 hXw4 ho2 hge2 => ?_))
  have hl2 := Lo.new hB hge2
  have hd1_2 := Dj.new hb1.ltO hge2
  have hB := hB.trans hXw4
  have hb1 := hb1.up hXw4
  refine WL.pure rfl rfl rfl (PV.assign rfl) ?_
  refine WL.nilS ?_
  refine CW.seq ?_
  refine CW.seq ?_
  refine CW.reg ?_
  refine WL.pure rfl rfl rfl (PV.move rfl) ?_
  refine WL.pure rfl rfl rfl ((by first | exact PV.len rfl (by assumption) T.sl28 | exact PV.lenOs rfl (by assumption) T.sl28 | exact PV.len rfl (NL.rd (by assumption)) T.sl28 | exact PV.len rfl (Inn.rd (by assumption) (by omega)) T.sl28)) ?_
  refine WL.pure rfl rfl rfl (PV.move rfl) ?_
  refine WL.nilS ?_
  refine CW.block ?_
  have hlt1 := hb1.ltO
  have hlt2 := ho2.ltO
  refine CW.loop (σk := [(1, _), (3, _), (22, _)]) (fun ρ wz m => ∃ (v3 : Value) (og3 : Option Nat) (k : Nat), ρ = [(8, v3), (23, .int .i64 (k : Nat))] ∧ m = xs.length - k ∧ UpdL [(some g2)] w4 wz ∧ Osl VI wz og3 v3 (placesL c xs k) ∧ OgR w4 (some g2) og3 ∧ (k ≤ xs.length)) (ρ₀ := [(8, _), (23, _)]) (m₀ := _) ⟨rfl, rfl, rfl, rfl, rfl, trivial⟩ ⟨v2, (some g2), 0, rfl, rfl, (UpdL.refl _ _), osE ho2 (by exact places_zero _ _), OgR.refl _ _, (by first | omega | rfl | (simp; done) | assumption | (simp_all; done))⟩ ?_
  rintro _ wl1 _ ⟨v3, og3, k, rfl, rfl, hU0, ho3, ha3, hk⟩
  have hb1 := hb1.loop hU0 ⟨hd1_2, trivial⟩
  have hl3 := Lo.ogr hl2 hB ha3
  have hg0_3 := ha3
  have hk0_3 : OkB [(some g2)] w4 og3 := OkB.ogr (OkB.mem (by simp)) (Nat.le_refl _) ha3
  have hd1_3 := Dj.ogr hd1_2 hlt1 ha3
  have hB := hB.loop hU0 ⟨hl2, trivial⟩
  have hpk := places_len c xs k
  refine CW.seq ?_
  refine CW.reg ?_
  refine WL.pure rfl rfl rfl (PV.lss rfl rfl) ?_
  refine WL.nilS ?_
  refine CW.seq ?_
  refine CW.cond rfl (fun hc3 => ?_) (fun hc3 => ?_)
  · skip
    try simp only [decide_eq_true_eq, decide_eq_false_iff_not, Bool.not_eq_true', Bool.not_eq_false', Bool.not_eq_eq_eq_not, Bool.not_true, Bool.not_false, Int.not_lt, Int.not_le, Classical.not_not, beq_iff_eq, beq_eq_false_iff_ne] at hc3
    refine CW.skipS ?_
    refine CW.seq ?_
    refine CW.block ?_
    refine CW.seq ?_
    refine CW.reg ?_
    refine WL.pure rfl rfl rfl (PV.move rfl) ?_
    refine WL.pure rfl rfl rfl (PV.assign rfl) ?_
    refine WL.nilS ?_
    refine CW.seq ?_
    refine CW.reg ?_
    refine WL.pure rfl rfl rfl ((by first | exact PV.loadA T.ag107 rfl (by first | exact Cells.up (by assumption) hB | exact Bx.cells (by assumption) | assumption) (Ext.refl _) rfl | exact PV.loadP (ds := [_, _, _, _]) T.ag107 rfl (by first | exact Cells.up (by assumption) hB | exact Bx.cells (by assumption) | assumption) (Ext.refl _) rfl rfl)) ?_
    refine WL.pure rfl rfl rfl (PV.move rfl) ?_
    refine WL.pure rfl rfl rfl (PV.move rfl) ?_
    refine WL.op rfl (OpK.callR rfl T.cf187 rfl (c_impl_Change_fits (by first | assumption | exact Rd.up (by assumption) hB | exact Osl.rd (by assumption) | exact Osn.rdR (by assumption) | exact NL.rd (by assumption) | exact rdII (by assumption) (by assumption) | exact Inn.rd (by assumption) (by omega)) (by first | assumption | exact Rd.up (by assumption) hB | exact Osl.rd (by assumption) | exact Osn.rdR (by assumption) | exact NL.rd (by assumption) | exact rdII (by assumption) (by assumption) | exact Inn.rd (by assumption) (by omega)) (by first | assumption | exact Rd.up (by assumption) hB | exact Osl.rd (by assumption) | exact Osn.rdR (by assumption) | exact NL.rd (by assumption) | exact rdII (by assumption) (by assumption) | exact Inn.rd (by assumption) (by omega)) (by first | assumption | exact Rd.up (by assumption) hB | exact Osl.rd (by assumption) | exact Osn.rdR (by assumption) | exact NL.rd (by assumption) | exact rdII (by assumption) (by assumption) | exact Inn.rd (by assumption) (by omega)) (by first | assumption | exact Rd.up (by assumption) hB | exact Osl.rd (by assumption) | exact Osn.rdR (by assumption) | exact NL.rd (by assumption) | exact rdII (by assumption) (by assumption) | exact Inn.rd (by assumption) (by omega)) (by first | assumption | omega | (simp only [marks_len, marksB_len, marksR_len, sumL_marksS, List.length_take]; omega)) (by first | assumption | omega | (simp only [marks_len, marksB_len, marksR_len, sumL_marksS, List.length_take]; omega))) (fun w5 hXw5 => ?_))
    have hB := hB.trans hXw5
    have hb1 := hb1.up hXw5
    have ho3 := ho3.up hXw5
    have hU0 := hU0.ext hXw5
    refine WL.nilS ?_
    refine CW.cond rfl (fun hc4 => ?_) (fun hc4 => ?_)
    · skip
      try simp only [decide_eq_true_eq, decide_eq_false_iff_not, Bool.not_eq_true', Bool.not_eq_false', Bool.not_eq_eq_eq_not, Bool.not_true, Bool.not_false, Int.not_lt, Int.not_le, Classical.not_not, beq_iff_eq, beq_eq_false_iff_ne] at hc4
      refine CW.reg ?_
      refine WL.pure rfl rfl rfl (PV.move rfl) ?_
      refine WL.pure rfl rfl rfl (PV.move rfl) ?_
      refine WL.op rfl (OpK.buildS VI (os := [.tmp 31]) [_] rfl T.sl28 rfl rfl T.zv2 rfl (by intro z hz; first | rfl | (simp only [List.mem_cons, List.not_mem_nil, or_false] at hz; subst hz; exact (by first | exact Rd.cells1 (by assumption) | exact Osl.cells1 (by assumption) | exact Osn.cells1 (by assumption) | exact Rd.cells1 (NL.rd (by assumption)) | exact Inn.cell1 (by assumption) (by omega) | assumption | rfl))) rfl (fun v4 g4 w6 hXw6 ho4 hge4 => ?_))
      have hl4 := Lo.new hB hge4
      have hd1_4 := Dj.new hb1.ltO hge4
      have hd3_4 := Dj.new ho3.ltO hge4
      have hk0_4 := OkN.new hU0 hge4
      have hg0_4 := OgR.new hU0.size hge4
      have hB := hB.trans hXw6
      have hb1 := hb1.up hXw6
      have ho3 := ho3.up hXw6
      have hU0 := hU0.ext hXw6
      refine WL.op rfl (OpK.appendS (f := VI) rfl T.sl28 T.zv2 rfl rfl ho3 rfl (Osl.src ho4 (fun _ => rfl)) (by first | (simp only [List.length_cons, List.length_nil]; omega) | (simp_all; omega)) (fun v5 og5 w7 hXw7 ho5 hap5 => ?_))
      have hl5 := Lo.app hl3 hB hap5
      have hd1_5 := Dj.app hd1_3 hb1.ltO hap5
      have hd4_5 := Dj.app (Dj.symm hd3_4) ho4.ltO hap5
      have hk0_5 := OkN.app hU0 hk0_3 hap5
      have hg0_5 := OgR.app hg0_3 hU0.size hap5
      have hB := hB.updL hXw7 hl3
      have hb1 := hb1.updD hXw7 hd1_3
      have ho4 := ho4.updD hXw7 (Dj.symm hd3_4)
      have hU0 := hU0.step hXw7 hk0_3
      refine WL.pure rfl rfl rfl (PV.assign rfl) ?_
      refine WL.nil ?_
      refine NQ.block ?_
      refine NQ.then ?_
      refine CW.reg ?_
      refine WL.pure rfl rfl rfl (PV.add rfl rfl (by constructor <;> omega)) ?_
      refine WL.pure rfl rfl rfl (PV.move rfl) ?_
      refine WL.nil ?_
      refine NQ.next (ρ := [(8, _), (23, _)]) ⟨rfl, rfl, rfl, rfl, rfl, trivial⟩ ?_
      exact ⟨_, ⟨v5, og5, k + 1, rfl, rfl, hU0, osE ho5 (by first | exact places_y (by assumption) | exact places_n (by assumption)), (by first | exact hg0_5 | exact OgR.weak hg0_5), (by first | omega | assumption | (simp_all; done) | (simp_all; omega))⟩, by omega⟩
    try simp only [decide_eq_true_eq, decide_eq_false_iff_not, Bool.not_eq_true', Bool.not_eq_false', Bool.not_eq_eq_eq_not, Bool.not_true, Bool.not_false, Int.not_lt, Int.not_le, Classical.not_not, beq_iff_eq, beq_eq_false_iff_ne] at hc4
    refine CW.skip ?_
    refine NQ.block ?_
    refine NQ.then ?_
    refine CW.reg ?_
    refine WL.pure rfl rfl rfl (PV.add rfl rfl (by constructor <;> omega)) ?_
    refine WL.pure rfl rfl rfl (PV.move rfl) ?_
    refine WL.nil ?_
    refine NQ.next (ρ := [(8, _), (23, _)]) ⟨rfl, rfl, rfl, rfl, rfl, trivial⟩ ?_
    exact ⟨_, ⟨v3, og3, k + 1, rfl, rfl, hU0, osE ho3 (by first | exact places_y (by assumption) | exact places_n (by assumption)), (by first | exact hg0_3 | exact OgR.weak hg0_3), (by first | omega | assumption | (simp_all; done) | (simp_all; omega))⟩, by omega⟩
  try simp only [decide_eq_true_eq, decide_eq_false_iff_not, Bool.not_eq_true', Bool.not_eq_false', Bool.not_eq_eq_eq_not, Bool.not_true, Bool.not_false, Int.not_lt, Int.not_le, Classical.not_not, beq_iff_eq, beq_eq_false_iff_ne] at hc3
  refine CW.exit ?_
  refine XQ.then ?_
  refine XQ.then ?_
  refine XQ.here ?_
  refine NQ.then ?_
  refine CW.seq ?_
  refine CW.reg ?_
  refine WL.pure rfl rfl rfl (PV.move rfl) ?_
  refine WL.pure rfl rfl rfl (PV.assign rfl) ?_
  refine WL.pure rfl rfl rfl (PV.assign rfl) ?_
  refine WL.nilS ?_
  refine CW.ret ?_
  refine RQ.r2 rfl rfl ?_
  refine ⟨hB, v3, og3, ?_, osE ho3 ?_, hl3⟩
  · skip
    first | exact tE2 rfl (bE hV.symm) | (have hN : (chB c L && longB xs L) = false := (by first | (rw [(by assumption : chB c L = false)]; simp; done) | (rw [(by assumption : longB xs L = false)]; simp; done)); exact tE2 rfl (bE hN.symm))
  · skip
    first | (rw [onT_yes hV, show k = xs.length from (by omega)]; done) | (have hN : (chB c L && longB xs L) = false := (by first | (rw [(by assumption : chB c L = false)]; simp; done) | (rw [(by assumption : longB xs L = false)]; simp; done)); rw [onT_no (by rw [hN]; decide)])
theorem c_impl_LoosePairs {w : World} {va : Value} {cs : List C4} {L mo : Int} (ha : Rd ECh w va cs) : Calls Try.prog 93 #[va, .int .i64 L, .int .i64 mo] w (Ret1 (fun v w' => Ext w w' ∧ ∃ u og_u vs_u os_u, v = .tuple #[u, .bool (lsB cs L mo)] ∧ Osl VV w' og_u u vs_u ∧ Lo w og_u ∧ Inn w' os_u vs_u (onT (lsB cs L mo) (lsL cs mo.toNat)) ∧ LoI w os_u ∧ DI os_u og_u)) := by
  have hB : Ext w w := Ext.refl w
  have hla := ha.leI
  refine callsOf (vs := [_, _, _]) Try.func93 rfl Try.ntmps93 rfl rfl ?_
  refine CW.seq ?_
  refine CW.reg ?_
  refine WL.pure rfl rfl rfl (PV.assign rfl) ?_
  refine WL.pure rfl rfl rfl (PV.assign rfl) ?_
  refine WL.nilS ?_
  refine CW.seq ?_
  refine CW.seq ?_
  refine CW.reg ?_
  refine WL.pure rfl rfl rfl (PV.move rfl) ?_
  refine WL.pure rfl rfl rfl (PV.move rfl) ?_
  refine WL.op rfl (OpK.callR rfl T.cf164 rfl (c_impl_arePlain (by first | assumption | exact Rd.up (by assumption) hB | exact rdCh (by assumption) (by assumption))) (fun w1 hXw1 => ?_))
  have hB := hB.trans hXw1
  refine WL.pure rfl rfl rfl (PV.not rfl) ?_
  refine WL.pure rfl rfl rfl (PV.move rfl) ?_
  refine WL.split (t := 21) rfl (fun hc1 => ?_) (fun hc1 => ?_)
  · skip
    try simp only [decide_eq_true_eq, decide_eq_false_iff_not, Bool.not_eq_true', Bool.not_eq_false', Bool.not_eq_eq_eq_not, Bool.not_true, Bool.not_false, Int.not_lt, Int.not_le, Classical.not_not, beq_iff_eq, beq_eq_false_iff_ne] at hc1
    refine WL.skip rfl rfl rfl rfl rfl ?_
    refine WL.skip rfl rfl rfl rfl rfl ?_
    refine WL.skip rfl rfl rfl rfl rfl ?_
    refine WL.pure rfl rfl rfl (PV.pickT rfl rfl) ?_
    refine WL.nilS ?_
    refine CW.condT rfl ?_
    refine CW.seq ?_
    refine CW.reg ?_
    refine WL.pure rfl rfl rfl (PV.assign rfl) ?_
    refine WL.pure rfl rfl rfl (PV.assign rfl) ?_
    refine WL.nilS ?_
    refine CW.ret ?_
    refine RQ.then ?_
    refine RQ.r2 rfl rfl ?_
    first | (have hS : lsB cs L mo = false := (by first | exact ls_n1 (by assumption) | exact ls_n2 (by omega) | exact ls_n3 (k := k) (by omega) (lsO_n1 htk (by assumption)) | exact ls_n3 (k := k) (by omega) (lsO_n2 htk (by assumption))); exact ⟨hB, .slice none 0 0, none, [], [], tE2 rfl (bE hS.symm), Osl.nil _ _, Lo.nl _, innE (Inn.zero _) (onT_no (by rw [hS]; decide)).symm, LoI.nl _, DI.nl _⟩) | (obtain rfl : k = (ov1 cs cs.length).length := (by omega); have hS := ls_y (by assumption : plnB cs L = true) hmo2 he; exact ⟨hB, _, _, _, _, tE2 rfl (bE hS.symm), ho5, hl5, innE (Inn.sel hn3 _ (by rw [List.length_map]; exact Nat.le_refl _)) (onT_yes hS).symm, LoI.sel hl3 (by rw [hn3.lo, List.length_map]; exact Nat.le_refl _), DI.sel hd3_5 (by rw [hn3.lo, List.length_map]; exact Nat.le_refl _)⟩)
  try simp only [decide_eq_true_eq, decide_eq_false_iff_not, Bool.not_eq_true', Bool.not_eq_false', Bool.not_eq_eq_eq_not, Bool.not_true, Bool.not_false, Int.not_lt, Int.not_le, Classical.not_not, beq_iff_eq, beq_eq_false_iff_ne] at hc1
  refine WL.pureG rfl rfl rfl rfl rfl (PV.move rfl) ?_
  refine WL.opG rfl rfl rfl (OpK.callR rfl T.cf104 rfl (c_impl_within) (fun w2 hXw2 => ?_))
  have hB := hB.trans hXw2
  refine WL.pureG rfl rfl rfl rfl rfl (PV.not rfl) ?_
  refine WL.pure rfl rfl rfl (PV.pickF rfl rfl) ?_
  refine WL.nilS ?_
  refine CW.cond rfl (fun hc2 => ?_) (fun hc2 => ?_)
  · skip
    try simp only [decide_eq_true_eq, decide_eq_false_iff_not, Bool.not_eq_true', Bool.not_eq_false', Bool.not_eq_eq_eq_not, Bool.not_true, Bool.not_false, Int.not_lt, Int.not_le, Classical.not_not, beq_iff_eq, beq_eq_false_iff_ne] at hc2
    refine CW.seq ?_
    refine CW.reg ?_
    refine WL.pure rfl rfl rfl (PV.assign rfl) ?_
    refine WL.pure rfl rfl rfl (PV.assign rfl) ?_
    refine WL.nilS ?_
    refine CW.ret ?_
    refine RQ.then ?_
    refine RQ.r2 rfl rfl ?_
    first | (have hS : lsB cs L mo = false := (by first | exact ls_n1 (by assumption) | exact ls_n2 (by omega) | exact ls_n3 (k := k) (by omega) (lsO_n1 htk (by assumption)) | exact ls_n3 (k := k) (by omega) (lsO_n2 htk (by assumption))); exact ⟨hB, .slice none 0 0, none, [], [], tE2 rfl (bE hS.symm), Osl.nil _ _, Lo.nl _, innE (Inn.zero _) (onT_no (by rw [hS]; decide)).symm, LoI.nl _, DI.nl _⟩) | (obtain rfl : k = (ov1 cs cs.length).length := (by omega); have hS := ls_y (by assumption : plnB cs L = true) hmo2 he; exact ⟨hB, _, _, _, _, tE2 rfl (bE hS.symm), ho5, hl5, innE (Inn.sel hn3 _ (by rw [List.length_map]; exact Nat.le_refl _)) (onT_yes hS).symm, LoI.sel hl3 (by rw [hn3.lo, List.length_map]; exact Nat.le_refl _), DI.sel hd3_5 (by rw [hn3.lo, List.length_map]; exact Nat.le_refl _)⟩)
  try simp only [decide_eq_true_eq, decide_eq_false_iff_not, Bool.not_eq_true', Bool.not_eq_false', Bool.not_eq_eq_eq_not, Bool.not_true, Bool.not_false, Int.not_lt, Int.not_le, Classical.not_not, beq_iff_eq, beq_eq_false_iff_ne] at hc2
  refine CW.skipS ?_
  refine CW.seq ?_
  refine CW.reg ?_
  have hpb := pln_y (by assumption : plnB cs L = true); have hlb := listB_y hpb.1; have hoks := hlb.2.2.2; have h8 := hlb.1; have ho300 := ov1_300 h8 hoks; have hmo2 : 0 ≤ mo ∧ mo ≤ 200 := (by first | assumption | omega)
  refine WL.op rfl (OpK.buildS VV (os := []) [] rfl T.sl25 rfl rfl T.zv28 rfl (by intro z hz; cases hz) rfl (fun v1 g1 w3 hXw3 ho1 hge1 => ?_))
  have hl1 := Lo.new hB hge1
  have hB := hB.trans hXw3
  refine WL.pure rfl rfl rfl (PV.assign rfl) ?_
  refine WL.nilS ?_
  refine CW.seq ?_
  refine CW.seq ?_
  refine CW.reg ?_
  refine WL.pure rfl rfl rfl (PV.move rfl) ?_
  refine WL.op rfl (OpK.call rfl T.cf183 rfl (c_impl_overlaps (by first | assumption | exact Rd.up (by assumption) hB | exact rdCh (by assumption) (by assumption)) (by first | assumption | (intro k9 h9; simp only [List.length_cons, List.length_nil] at h9; rcases (show k9 = 0 ∨ k9 = 1 by omega) with rfl | rfl <;> first | assumption | (exfalso; omega))) (by first | assumption | omega | (simp only [marks_len, marksB_len, marksR_len, sumL_marksS, List.length_take]; omega))) (fun rv1 w4 hR => ?_))
  obtain ⟨hXw4, v2, og2, vs3, os3, rfl, hm4, ho2, hq2, hn3, hq3, hd2_3⟩ := hR
  have hl2 := Lo.up hq2 hB
  have hd1_2 := Dj.lo ho1.ltO hq2
  have hl3 := LoI.up hq3 hB
  have hlv3 := hn3.lv
  have hd1_3 := DI.lo ho1.ltO hq3
  have hch9 := fun (k : Nat) (h : k < (ov1 cs cs.length).length) => hm4.2 k h _ hB ha
  have hB := hB.trans hXw4
  have ho1 := ho1.up hXw4
  refine WL.pure rfl rfl rfl ((PV.lenOsn rfl ho2 T.sl197)) ?_
  refine WL.pure rfl rfl rfl (PV.move rfl) ?_
  refine WL.nilS ?_
  refine CW.block ?_
  have hlt1 := ho1.ltO
  have hlt2 := ho2.ltO
  have hlt3 := hn3.ltO
  refine CW.loop (σk := [(0, _), (2, _), (28, _), (29, _)]) (fun ρ wz m => ∃ (v5 : Value) (og5 : Option Nat) (k : Nat), ρ = [(8, v5), (30, .int .i64 (k : Nat))] ∧ m = (ov1 cs cs.length).length - k ∧ UpdL [(some g1)] w4 wz ∧ Osl VV wz og5 v5 (sel (lsP cs mo.toNat) (.slice none 0 0) (vs3.map fO) k) ∧ OgR w4 (some g1) og5 ∧ (k ≤ (ov1 cs cs.length).length) ∧ (∀ j : Nat, j < k → lsO cs mo.toNat j = true)) (ρ₀ := [(8, _), (30, _)]) (m₀ := _) ⟨rfl, rfl, rfl, rfl, rfl, rfl, trivial⟩ ⟨v1, (some g1), 0, rfl, rfl, (UpdL.refl _ _), osE ho1 (by exact sel_zero _ _ _), OgR.refl _ _, (by first | omega | rfl | (simp; done) | assumption | (simp_all; done)), (by intro j h; omega)⟩ ?_
  rintro _ wl1 _ ⟨v5, og5, k, rfl, rfl, hU0, ho5, ha5, hk, he⟩
  have ho2 := ho2.loop hU0 ⟨(Dj.symm hd1_2), trivial⟩
  have hn3 := hn3.loop hU0 ⟨hd1_3, trivial⟩
  have hl5 := Lo.ogr hl1 hB ha5
  have hg0_5 := ha5
  have hk0_5 : OkB [(some g1)] w4 og5 := OkB.ogr (OkB.mem (by simp)) (Nat.le_refl _) ha5
  have hd2_5 := Dj.ogr (Dj.symm hd1_2) hlt2 ha5
  have hd3_5 := DI.ogr hd1_3 hlt3 ha5
  have hB := hB.loop hU0 ⟨hl1, trivial⟩
  have hvl := hm4.1; have hsl := sel_len (lsP cs mo.toNat) (.slice none 0 0) (vs3.map fO) k; obtain ⟨t, htk⟩ : ∃ t, t = (ov1 cs cs.length).getD k (0, 0, 0) := ⟨_, rfl⟩
  refine CW.seq ?_
  refine CW.reg ?_
  refine WL.pure rfl rfl rfl (PV.lss rfl rfl) ?_
  refine WL.nilS ?_
  refine CW.seq ?_
  refine CW.cond rfl (fun hc3 => ?_) (fun hc3 => ?_)
  · skip
    try simp only [decide_eq_true_eq, decide_eq_false_iff_not, Bool.not_eq_true', Bool.not_eq_false', Bool.not_eq_eq_eq_not, Bool.not_true, Bool.not_false, Int.not_lt, Int.not_le, Classical.not_not, beq_iff_eq, beq_eq_false_iff_ne] at hc3
    refine CW.skipS ?_
    refine CW.seq ?_
    refine CW.block ?_
    refine CW.seq ?_
    refine CW.reg ?_
    have ht3 : okT3 cs t := (by rw [htk]; exact ov1_get (by omega)); have ht31 : t.1 < cs.length := ht3.1; have ht32 : t.2.1 < cs.length := ht3.2.1; have hta := hoks t.1 ht3.1; have htb := hoks t.2.1 ht3.2.1; have hta1 := hta.2.1; have htb1 := htb.2.1; have hta2 := hta.2.2.1; have htb2 := htb.2.2.1; have hwl := ovW_lenT ht3; have hpa : (patL cs t.1).length = (cs.getD t.1 d4).2.1.length := rfl; have hpb9 : (patL cs t.2.1).length = (cs.getD t.2.1 d4).2.1.length := rfl; have ht33 := ht3.2.2; have hwa := ovW_at hoks (k := k) (by omega); rw [← htk] at hwa; have hch := hch9 k (by omega); rw [← htk] at hch; obtain ⟨⟨hqa0, hqa1, hqa2, hqa3⟩, ⟨hqb0, hqb1, hqb2, hqb3⟩⟩ := hch; have hat : ((ovW cs t).length : Int) - ((cs.getD t.2.1 d4).2.1.length : Int) = ((patL cs t.1).length : Int) - (t.2.2 : Nat) := (by omega); have hp1 := put_len (c := cs.getD t.1 d4) (wd := ovW cs t) (a := 0) (by omega) (by omega); have hp2 := put_len (c := cs.getD t.2.1 d4) (wd := ovW cs t) (a := ((patL cs t.1).length : Int) - (t.2.2 : Nat)) (by omega) (by omega)
    have hwk := rdE (fO_rd (k := k) hn3 (by rw [List.length_map]; omega)) hwa.1
    have hrdp1 := ho2.rd
    first
      | refine WL.at (x := .tmp 28) (y := .tmp 30) (E := (EG 9 gO gO_ok)) (nO) rfl rfl hrdp1 (by first | omega | (simp only [List.length_set]; omega) | (simp only [List.length_append, List.length_take, List.length_replicate, List.length_drop]; omega)) (fun p1 csp1 hpp1 hcp1 hq => ?_)
      | refine WL.atZ (x := .tmp 28) (y := .tmp 30) (E := (EG 9 gO gO_ok)) (nO) rfl rfl hrdp1 (by first | omega | (simp only [List.length_set]; omega) | (simp only [List.length_append, List.length_take, List.length_replicate, List.length_drop]; omega)) (fun p1 csp1 hpp1 hzp1 hcp1 hq => ?_)
    cases hq
    refine WL.pure rfl rfl rfl ((by first | exact PV.indexAddr hpp1 rfl rfl T.sl197 | exact PV.indexAddr hpp1 rfl (by rw [← hzp1]; rfl) T.sl197)) ?_
    refine WL.pure rfl rfl rfl ((by first | exact PV.loadA T.ag200 rfl (by first | exact Cells.up (by assumption) hB | exact Bx.cells (by assumption) | assumption) (Ext.refl _) rfl | exact PV.loadP (ds := [_, _, _, _, _, _, _, _, _]) T.ag200 rfl (by first | exact Cells.up (by assumption) hB | exact Bx.cells (by assumption) | assumption) (Ext.refl _) rfl rfl)) ?_
    refine WL.op rfl (OpK.alloc rfl T.zv200 rfl (fun b6 w5 hXw5 hb6 hge6 => ?_))
    have hl6 := Lo.new hB hge6
    have hd2_6 := Dj.new ho2.ltO hge6
    have hd3_6 := DI.new hn3 hge6
    have hd5_6 := Dj.new ho5.ltO hge6
    have hk0_6 := OkN.new hU0 hge6
    have hg0_6 := OgR.new hU0.size hge6
    have hB := hB.trans hXw5
    have ho2 := ho2.up hXw5
    have hn3 := hn3.up hXw5
    have ho5 := ho5.up hXw5
    have hU0 := hU0.ext hXw5
    have hwk := rdE (fO_rd (k := k) hn3 (by rw [List.length_map]; omega)) hwa.1
    refine WL.op rfl (OpK.storeA T.sz200 rfl rfl rfl rfl (fun v hv => gO_ok.3 _ v hv) hb6 (fun w6 hXw6 hb6 => ?_))
    have hB := hB.updL hXw6 hl6
    have ho2 := ho2.updD hXw6 hd2_6
    have hn3 := hn3.updD hXw6 hd3_6
    have ho5 := ho5.updD hXw6 hd5_6
    have hU0 := hU0.step hXw6 hk0_6
    refine WL.nilS ?_
    refine CW.seq ?_
    refine CW.reg ?_
    have hwk := rdE (fO_rd (k := k) hn3 (by rw [List.length_map]; omega)) hwa.1
    refine WL.pure rfl rfl rfl (PV.move rfl) ?_
    refine WL.pure rfl rfl rfl ((by first | exact PV.fieldAddr T.fl200_1 rfl (by first | assumption | exact Bx.cells (by assumption)) | exact PV.fieldAddrP T.fl200_1 rfl rfl)) ?_
    refine WL.pure rfl rfl rfl ((by first | exact PV.loadA T.ag107 rfl (by first | exact Cells.up (by assumption) hB | exact Bx.cells (by assumption) | assumption) (Ext.refl _) rfl | exact PV.loadP (ds := [_, _, _, _]) T.ag107 rfl (by first | exact Cells.up (by assumption) hB | exact Bx.cells (by assumption) | assumption) (Ext.refl _) rfl rfl)) ?_
    refine WL.pure rfl rfl rfl ((by first | exact PV.fieldAddr T.fl200_0 rfl (by first | assumption | exact Bx.cells (by assumption)) | exact PV.fieldAddrP T.fl200_0 rfl rfl)) ?_
    refine WL.pure rfl rfl rfl ((by first | exact PV.load0 T.na28 rfl (by first | exact Cells.up (by assumption) hB | exact Bx.cells (by assumption) | assumption) (Ext.refl _) rfl | exact PV.load1 T.na28 rfl (by first | exact Cells.up (by assumption) hB | exact Bx.cells (by assumption) | assumption) (Ext.refl _) rfl)) ?_
    refine WL.op rfl (OpK.call rfl T.cf188 rfl (c_impl_Change_put (c := cs.getD t.1 d4) (xs := ovW cs t) (by first | assumption | exact Rd.up (by assumption) hB | exact Osl.rd (by assumption) | exact Osn.rdR (by assumption) | exact NL.rd (by assumption) | exact rdII (by assumption) (by assumption) | exact Inn.rd (by assumption) (by omega)) (by first | assumption | exact Rd.up (by assumption) hB | exact Osl.rd (by assumption) | exact Osn.rdR (by assumption) | exact NL.rd (by assumption) | exact rdII (by assumption) (by assumption) | exact Inn.rd (by assumption) (by omega)) (by first | assumption | exact Rd.up (by assumption) hB | exact Osl.rd (by assumption) | exact Osn.rdR (by assumption) | exact NL.rd (by assumption) | exact rdII (by assumption) (by assumption) | exact Inn.rd (by assumption) (by omega)) (by first | assumption | exact Rd.up (by assumption) hB | exact Osl.rd (by assumption) | exact Osn.rdR (by assumption) | exact NL.rd (by assumption) | exact rdII (by assumption) (by assumption) | exact Inn.rd (by assumption) (by omega)) (by first | assumption | exact Rd.up (by assumption) hB | exact Osl.rd (by assumption) | exact Osn.rdR (by assumption) | exact NL.rd (by assumption) | exact rdII (by assumption) (by assumption) | exact Inn.rd (by assumption) (by omega)) (by first | assumption | omega | (simp only [marks_len, marksB_len, marksR_len, sumL_marksS, List.length_take]; omega)) (by first | assumption | omega | (simp only [marks_len, marksB_len, marksR_len, sumL_marksS, List.length_take]; omega)) (by first | assumption | omega | (simp only [marks_len, marksB_len, marksR_len, sumL_marksS, List.length_take]; omega))) (fun rv2 w7 hR => ?_))
    obtain ⟨hXw7, v7, og7, rfl, ho7, hq7⟩ := hR
    have hl7 := Lo.up hq7 hB
    have hd2_7 := Dj.lo ho2.ltO hq7
    have hd3_7 := DI.fresh hn3 hq7
    have hd5_7 := Dj.lo ho5.ltO hq7
    have hd6_7 := Dj.lo hb6.ltO hq7
    have hk0_7 := OkN.lo hU0 hq7
    have hg0_7 := OgR.lo hU0.size hq7
    have hB := hB.trans hXw7
    have ho2 := ho2.up hXw7
    have hn3 := hn3.up hXw7
    have ho5 := ho5.up hXw7
    have hb6 := hb6.up hXw7
    have hU0 := hU0.ext hXw7
    have hwk := rdE (fO_rd (k := k) hn3 (by rw [List.length_map]; omega)) hwa.1
    refine WL.pure rfl rfl rfl (PV.move rfl) ?_
    refine WL.op rfl (OpK.call rfl T.cf185 rfl (c_impl_changeOften (by first | assumption | exact Rd.up (by assumption) hB | exact rdCh (by assumption) (by assumption)) (by first | assumption | exact Rd.up (by assumption) hB | exact Osl.rd (by assumption) | exact Osn.rdR (by assumption) | exact NL.rd (by assumption) | exact rdII (by assumption) (by assumption) | exact Inn.rd (by assumption) (by omega)) (by first | assumption | omega | (simp only [marks_len, marksB_len, marksR_len, sumL_marksS, List.length_take]; omega)) (by first | assumption | omega | (simp only [marks_len, marksB_len, marksR_len, sumL_marksS, List.length_take]; omega)) (by first | assumption | (intro k9 h9; simp only [List.length_cons, List.length_nil] at h9; (obtain rfl : k9 = 0 := (by omega)); assumption))) (fun rv3 w8 hR => ?_))
    obtain ⟨hXw8, v8, og8, rfl, ho8, hq8⟩ := hR
    have hl8 := Lo.up hq8 hB
    have hd2_8 := Dj.lo ho2.ltO hq8
    have hd3_8 := DI.fresh hn3 hq8
    have hd5_8 := Dj.lo ho5.ltO hq8
    have hd6_8 := Dj.lo hb6.ltO hq8
    have hd7_8 := Dj.lo ho7.ltO hq8
    have hk0_8 := OkN.lo hU0 hq8
    have hg0_8 := OgR.lo hU0.size hq8
    have hB := hB.trans hXw8
    have ho2 := ho2.up hXw8
    have hn3 := hn3.up hXw8
    have ho5 := ho5.up hXw8
    have hb6 := hb6.up hXw8
    have ho7 := ho7.up hXw8
    have hU0 := hU0.ext hXw8
    have hwk := rdE (fO_rd (k := k) hn3 (by rw [List.length_map]; omega)) hwa.1
    refine WL.pure rfl rfl rfl (PV.move rfl) ?_
    refine WL.pure rfl rfl rfl (PV.extract rfl rfl) ?_
    refine WL.pure rfl rfl rfl (PV.extract rfl rfl) ?_
    refine WL.pure rfl rfl rfl (PV.extract rfl rfl) ?_
    refine WL.pure rfl rfl rfl (PV.assign rfl) ?_
    refine WL.pure rfl rfl rfl (PV.assign rfl) ?_
    refine WL.pure rfl rfl rfl (PV.assign rfl) ?_
    refine WL.nilS ?_
    refine CW.seq ?_
    refine CW.reg ?_
    refine WL.pure rfl rfl rfl (PV.move rfl) ?_
    refine WL.pure rfl rfl rfl ((by first | exact PV.fieldAddr T.fl200_2 rfl (by first | assumption | exact Bx.cells (by assumption)) | exact PV.fieldAddrP T.fl200_2 rfl rfl)) ?_
    refine WL.pure rfl rfl rfl ((by first | exact PV.loadA T.ag107 rfl (by first | exact Cells.up (by assumption) hB | exact Bx.cells (by assumption) | assumption) (Ext.refl _) rfl | exact PV.loadP (ds := [_, _, _, _]) T.ag107 rfl (by first | exact Cells.up (by assumption) hB | exact Bx.cells (by assumption) | assumption) (Ext.refl _) rfl rfl)) ?_
    refine WL.pure rfl rfl rfl ((by first | exact PV.fieldAddr T.fl200_0 rfl (by first | assumption | exact Bx.cells (by assumption)) | exact PV.fieldAddrP T.fl200_0 rfl rfl)) ?_
    refine WL.pure rfl rfl rfl ((by first | exact PV.load0 T.na28 rfl (by first | exact Cells.up (by assumption) hB | exact Bx.cells (by assumption) | assumption) (Ext.refl _) rfl | exact PV.load1 T.na28 rfl (by first | exact Cells.up (by assumption) hB | exact Bx.cells (by assumption) | assumption) (Ext.refl _) rfl)) ?_
    refine WL.pure rfl rfl rfl ((by first | exact PV.fieldAddr T.fl200_0 rfl (by first | assumption | exact Bx.cells (by assumption)) | exact PV.fieldAddrP T.fl200_0 rfl rfl)) ?_
    refine WL.pure rfl rfl rfl ((by first | exact PV.load0 T.na28 rfl (by first | exact Cells.up (by assumption) hB | exact Bx.cells (by assumption) | assumption) (Ext.refl _) rfl | exact PV.load1 T.na28 rfl (by first | exact Cells.up (by assumption) hB | exact Bx.cells (by assumption) | assumption) (Ext.refl _) rfl)) ?_
    refine WL.pure rfl rfl rfl ((by first | exact PV.len rfl (by assumption) T.sl28 | exact PV.lenOs rfl (by assumption) T.sl28 | exact PV.len rfl (NL.rd (by assumption)) T.sl28 | exact PV.len rfl (Inn.rd (by assumption) (by omega)) T.sl28)) ?_
    refine WL.pure rfl rfl rfl ((by first | exact PV.fieldAddr T.fl200_2 rfl (by first | assumption | exact Bx.cells (by assumption)) | exact PV.fieldAddrP T.fl200_2 rfl rfl)) ?_
    refine WL.pure rfl rfl rfl ((by first | exact PV.fieldAddr T.fl107_1 rfl (by first | assumption | exact Bx.cells (by assumption)) | exact PV.fieldAddrP T.fl107_1 rfl rfl)) ?_
    refine WL.pure rfl rfl rfl ((by first | exact PV.load0 T.na28 rfl (by first | exact Cells.up (by assumption) hB | exact Bx.cells (by assumption) | assumption) (Ext.refl _) rfl | exact PV.load1 T.na28 rfl (by first | exact Cells.up (by assumption) hB | exact Bx.cells (by assumption) | assumption) (Ext.refl _) rfl)) ?_
    refine WL.pure rfl rfl rfl ((by first | exact PV.len rfl (by assumption) T.sl28 | exact PV.lenOs rfl (by assumption) T.sl28 | exact PV.len rfl (NL.rd (by assumption)) T.sl28 | exact PV.len rfl (Inn.rd (by assumption) (by omega)) T.sl28)) ?_
    refine WL.pure rfl rfl rfl (PV.sub rfl rfl (by constructor <;> omega)) ?_
    rw [hat]
    refine WL.op rfl (OpK.call rfl T.cf188 rfl (c_impl_Change_put (c := cs.getD t.2.1 d4) (xs := ovW cs t) (by first | assumption | exact Rd.up (by assumption) hB | exact Osl.rd (by assumption) | exact Osn.rdR (by assumption) | exact NL.rd (by assumption) | exact rdII (by assumption) (by assumption) | exact Inn.rd (by assumption) (by omega)) (by first | assumption | exact Rd.up (by assumption) hB | exact Osl.rd (by assumption) | exact Osn.rdR (by assumption) | exact NL.rd (by assumption) | exact rdII (by assumption) (by assumption) | exact Inn.rd (by assumption) (by omega)) (by first | assumption | exact Rd.up (by assumption) hB | exact Osl.rd (by assumption) | exact Osn.rdR (by assumption) | exact NL.rd (by assumption) | exact rdII (by assumption) (by assumption) | exact Inn.rd (by assumption) (by omega)) (by first | assumption | exact Rd.up (by assumption) hB | exact Osl.rd (by assumption) | exact Osn.rdR (by assumption) | exact NL.rd (by assumption) | exact rdII (by assumption) (by assumption) | exact Inn.rd (by assumption) (by omega)) (by first | assumption | exact Rd.up (by assumption) hB | exact Osl.rd (by assumption) | exact Osn.rdR (by assumption) | exact NL.rd (by assumption) | exact rdII (by assumption) (by assumption) | exact Inn.rd (by assumption) (by omega)) (by first | assumption | omega | (simp only [marks_len, marksB_len, marksR_len, sumL_marksS, List.length_take]; omega)) (by first | assumption | omega | (simp only [marks_len, marksB_len, marksR_len, sumL_marksS, List.length_take]; omega)) (by first | assumption | omega | (simp only [marks_len, marksB_len, marksR_len, sumL_marksS, List.length_take]; omega))) (fun rv4 w9 hR => ?_))
    obtain ⟨hXw9, v9, og9, rfl, ho9, hq9⟩ := hR
    have hl9 := Lo.up hq9 hB
    have hd2_9 := Dj.lo ho2.ltO hq9
    have hd3_9 := DI.fresh hn3 hq9
    have hd5_9 := Dj.lo ho5.ltO hq9
    have hd6_9 := Dj.lo hb6.ltO hq9
    have hd7_9 := Dj.lo ho7.ltO hq9
    have hd8_9 := Dj.lo ho8.ltO hq9
    have hk0_9 := OkN.lo hU0 hq9
    have hg0_9 := OgR.lo hU0.size hq9
    have hB := hB.trans hXw9
    have ho2 := ho2.up hXw9
    have hn3 := hn3.up hXw9
    have ho5 := ho5.up hXw9
    have hb6 := hb6.up hXw9
    have ho7 := ho7.up hXw9
    have ho8 := ho8.up hXw9
    have hU0 := hU0.ext hXw9
    have hwk := rdE (fO_rd (k := k) hn3 (by rw [List.length_map]; omega)) hwa.1
    refine WL.pure rfl rfl rfl (PV.move rfl) ?_
    refine WL.op rfl (OpK.call rfl T.cf185 rfl (c_impl_changeOften (by first | assumption | exact Rd.up (by assumption) hB | exact rdCh (by assumption) (by assumption)) (by first | assumption | exact Rd.up (by assumption) hB | exact Osl.rd (by assumption) | exact Osn.rdR (by assumption) | exact NL.rd (by assumption) | exact rdII (by assumption) (by assumption) | exact Inn.rd (by assumption) (by omega)) (by first | assumption | omega | (simp only [marks_len, marksB_len, marksR_len, sumL_marksS, List.length_take]; omega)) (by first | assumption | omega | (simp only [marks_len, marksB_len, marksR_len, sumL_marksS, List.length_take]; omega)) (by first | assumption | (intro k9 h9; simp only [List.length_cons, List.length_nil] at h9; (obtain rfl : k9 = 0 := (by omega)); assumption))) (fun rv5 w10 hR => ?_))
    obtain ⟨hXw10, v10, og10, rfl, ho10, hq10⟩ := hR
    have hl10 := Lo.up hq10 hB
    have hd2_10 := Dj.lo ho2.ltO hq10
    have hd3_10 := DI.fresh hn3 hq10
    have hd5_10 := Dj.lo ho5.ltO hq10
    have hd6_10 := Dj.lo hb6.ltO hq10
    have hd7_10 := Dj.lo ho7.ltO hq10
    have hd8_10 := Dj.lo ho8.ltO hq10
    have hd9_10 := Dj.lo ho9.ltO hq10
    have hk0_10 := OkN.lo hU0 hq10
    have hg0_10 := OgR.lo hU0.size hq10
    have hB := hB.trans hXw10
    have ho2 := ho2.up hXw10
    have hn3 := hn3.up hXw10
    have ho5 := ho5.up hXw10
    have hb6 := hb6.up hXw10
    have ho7 := ho7.up hXw10
    have ho8 := ho8.up hXw10
    have ho9 := ho9.up hXw10
    have hU0 := hU0.ext hXw10
    have hwk := rdE (fO_rd (k := k) hn3 (by rw [List.length_map]; omega)) hwa.1
    refine WL.pure rfl rfl rfl (PV.move rfl) ?_
    refine WL.pure rfl rfl rfl (PV.extract rfl rfl) ?_
    refine WL.pure rfl rfl rfl (PV.extract rfl rfl) ?_
    refine WL.pure rfl rfl rfl (PV.extract rfl rfl) ?_
    refine WL.pure rfl rfl rfl (PV.assign rfl) ?_
    refine WL.pure rfl rfl rfl (PV.assign rfl) ?_
    refine WL.pure rfl rfl rfl (PV.assign rfl) ?_
    refine WL.nilS ?_
    refine CW.seq ?_
    refine CW.seq ?_
    refine CW.reg ?_
    refine WL.pure rfl rfl rfl (PV.move rfl) ?_
    refine WL.pure rfl rfl rfl (PV.not rfl) ?_
    refine WL.pure rfl rfl rfl (PV.move rfl) ?_
    refine WL.split (t := 68) rfl (fun hc4 => ?_) (fun hc4 => ?_)
    · skip
      try simp only [decide_eq_true_eq, decide_eq_false_iff_not, Bool.not_eq_true', Bool.not_eq_false', Bool.not_eq_eq_eq_not, Bool.not_true, Bool.not_false, Int.not_lt, Int.not_le, Classical.not_not, beq_iff_eq, beq_eq_false_iff_ne] at hc4
      refine WL.skip rfl rfl rfl rfl rfl ?_
      refine WL.skip rfl rfl rfl rfl rfl ?_
      refine WL.pure rfl rfl rfl (PV.pickT rfl rfl) ?_
      refine WL.nilS ?_
      refine CW.condT rfl ?_
      refine CW.seq ?_
      refine CW.reg ?_
      refine WL.pure rfl rfl rfl (PV.assign rfl) ?_
      refine WL.pure rfl rfl rfl (PV.assign rfl) ?_
      refine WL.nilS ?_
      refine CW.ret ?_
      refine RQ.then ?_
      refine RQ.block ?_
      refine RQ.then ?_
      refine RQ.then ?_
      refine RQ.block ?_
      refine RQ.then ?_
      refine RQ.r2 rfl rfl ?_
      first | (have hS : lsB cs L mo = false := (by first | exact ls_n1 (by assumption) | exact ls_n2 (by omega) | exact ls_n3 (k := k) (by omega) (lsO_n1 htk (by assumption)) | exact ls_n3 (k := k) (by omega) (lsO_n2 htk (by assumption))); exact ⟨hB, .slice none 0 0, none, [], [], tE2 rfl (bE hS.symm), Osl.nil _ _, Lo.nl _, innE (Inn.zero _) (onT_no (by rw [hS]; decide)).symm, LoI.nl _, DI.nl _⟩) | (obtain rfl : k = (ov1 cs cs.length).length := (by omega); have hS := ls_y (by assumption : plnB cs L = true) hmo2 he; exact ⟨hB, _, _, _, _, tE2 rfl (bE hS.symm), ho5, hl5, innE (Inn.sel hn3 _ (by rw [List.length_map]; exact Nat.le_refl _)) (onT_yes hS).symm, LoI.sel hl3 (by rw [hn3.lo, List.length_map]; exact Nat.le_refl _), DI.sel hd3_5 (by rw [hn3.lo, List.length_map]; exact Nat.le_refl _)⟩)
    try simp only [decide_eq_true_eq, decide_eq_false_iff_not, Bool.not_eq_true', Bool.not_eq_false', Bool.not_eq_eq_eq_not, Bool.not_true, Bool.not_false, Int.not_lt, Int.not_le, Classical.not_not, beq_iff_eq, beq_eq_false_iff_ne] at hc4
    refine WL.pureG rfl rfl rfl rfl rfl (PV.move rfl) ?_
    refine WL.pureG rfl rfl rfl rfl rfl (PV.not rfl) ?_
    refine WL.pure rfl rfl rfl (PV.pickF rfl rfl) ?_
    refine WL.nilS ?_
    refine CW.cond rfl (fun hc5 => ?_) (fun hc5 => ?_)
    · skip
      try simp only [decide_eq_true_eq, decide_eq_false_iff_not, Bool.not_eq_true', Bool.not_eq_false', Bool.not_eq_eq_eq_not, Bool.not_true, Bool.not_false, Int.not_lt, Int.not_le, Classical.not_not, beq_iff_eq, beq_eq_false_iff_ne] at hc5
      refine CW.seq ?_
      refine CW.reg ?_
      refine WL.pure rfl rfl rfl (PV.assign rfl) ?_
      refine WL.pure rfl rfl rfl (PV.assign rfl) ?_
      refine WL.nilS ?_
      refine CW.ret ?_
      refine RQ.then ?_
      refine RQ.block ?_
      refine RQ.then ?_
      refine RQ.then ?_
      refine RQ.block ?_
      refine RQ.then ?_
      refine RQ.r2 rfl rfl ?_
      first | (have hS : lsB cs L mo = false := (by first | exact ls_n1 (by assumption) | exact ls_n2 (by omega) | exact ls_n3 (k := k) (by omega) (lsO_n1 htk (by assumption)) | exact ls_n3 (k := k) (by omega) (lsO_n2 htk (by assumption))); exact ⟨hB, .slice none 0 0, none, [], [], tE2 rfl (bE hS.symm), Osl.nil _ _, Lo.nl _, innE (Inn.zero _) (onT_no (by rw [hS]; decide)).symm, LoI.nl _, DI.nl _⟩) | (obtain rfl : k = (ov1 cs cs.length).length := (by omega); have hS := ls_y (by assumption : plnB cs L = true) hmo2 he; exact ⟨hB, _, _, _, _, tE2 rfl (bE hS.symm), ho5, hl5, innE (Inn.sel hn3 _ (by rw [List.length_map]; exact Nat.le_refl _)) (onT_yes hS).symm, LoI.sel hl3 (by rw [hn3.lo, List.length_map]; exact Nat.le_refl _), DI.sel hd3_5 (by rw [hn3.lo, List.length_map]; exact Nat.le_refl _)⟩)
    try simp only [decide_eq_true_eq, decide_eq_false_iff_not, Bool.not_eq_true', Bool.not_eq_false', Bool.not_eq_eq_eq_not, Bool.not_true, Bool.not_false, Int.not_lt, Int.not_le, Classical.not_not, beq_iff_eq, beq_eq_false_iff_ne] at hc5
    refine CW.skipS ?_
    refine CW.seq ?_
    refine CW.reg ?_
    refine WL.pure rfl rfl rfl (PV.move rfl) ?_
    refine WL.pure rfl rfl rfl (PV.move rfl) ?_
    refine WL.op rfl (OpK.callR rfl T.cf142 rfl (c_slices_Equal_int64_int64 (by first | assumption | exact Rd.up (by assumption) hB | exact Osl.rd (by assumption) | exact Osn.rdR (by assumption) | exact NL.rd (by assumption) | exact rdII (by assumption) (by assumption) | exact Inn.rd (by assumption) (by omega)) (by first | assumption | exact Rd.up (by assumption) hB | exact Osl.rd (by assumption) | exact Osn.rdR (by assumption) | exact NL.rd (by assumption) | exact rdII (by assumption) (by assumption) | exact Inn.rd (by assumption) (by omega))) (fun w11 hXw11 => ?_))
    have hB := hB.trans hXw11
    have ho2 := ho2.up hXw11
    have hn3 := hn3.up hXw11
    have ho5 := ho5.up hXw11
    have hb6 := hb6.up hXw11
    have ho7 := ho7.up hXw11
    have ho8 := ho8.up hXw11
    have ho9 := ho9.up hXw11
    have ho10 := ho10.up hXw11
    have hU0 := hU0.ext hXw11
    have hwk := rdE (fO_rd (k := k) hn3 (by rw [List.length_map]; omega)) hwa.1
    refine WL.pure rfl rfl rfl (PV.not rfl) ?_
    refine WL.nilS ?_
    refine CW.cond rfl (fun hc6 => ?_) (fun hc6 => ?_)
    · skip
      try simp only [decide_eq_true_eq, decide_eq_false_iff_not, Bool.not_eq_true', Bool.not_eq_false', Bool.not_eq_eq_eq_not, Bool.not_true, Bool.not_false, Int.not_lt, Int.not_le, Classical.not_not, beq_iff_eq, beq_eq_false_iff_ne] at hc6
      refine CW.reg ?_
      refine WL.pure rfl rfl rfl (PV.move rfl) ?_
      refine WL.pure rfl rfl rfl ((by first | exact PV.fieldAddr T.fl200_0 rfl (by first | assumption | exact Bx.cells (by assumption)) | exact PV.fieldAddrP T.fl200_0 rfl rfl)) ?_
      refine WL.pure rfl rfl rfl ((by first | exact PV.load0 T.na28 rfl (by first | exact Cells.up (by assumption) hB | exact Bx.cells (by assumption) | assumption) (Ext.refl _) rfl | exact PV.load1 T.na28 rfl (by first | exact Cells.up (by assumption) hB | exact Bx.cells (by assumption) | assumption) (Ext.refl _) rfl)) ?_
      refine WL.op rfl (OpK.buildS VV (os := [.tmp 78]) [_] rfl T.sl25 rfl rfl T.zv28 rfl (by intro z hz; first | rfl | (simp only [List.mem_cons, List.not_mem_nil, or_false] at hz; subst hz; exact (by first | exact Rd.cells1 (by assumption) | exact Osl.cells1 (by assumption) | exact Osn.cells1 (by assumption) | exact Rd.cells1 (NL.rd (by assumption)) | exact Inn.cell1 (by assumption) (by omega) | assumption | rfl))) rfl (fun v11 g11 w12 hXw12 ho11 hge11 => ?_))
      have hl11 := Lo.new hB hge11
      have hd2_11 := Dj.new ho2.ltO hge11
      have hd3_11 := DI.new hn3 hge11
      have hd5_11 := Dj.new ho5.ltO hge11
      have hd6_11 := Dj.new hb6.ltO hge11
      have hd7_11 := Dj.new ho7.ltO hge11
      have hd8_11 := Dj.new ho8.ltO hge11
      have hd9_11 := Dj.new ho9.ltO hge11
      have hd10_11 := Dj.new ho10.ltO hge11
      have hk0_11 := OkN.new hU0 hge11
      have hg0_11 := OgR.new hU0.size hge11
      have hB := hB.trans hXw12
      have ho2 := ho2.up hXw12
      have hn3 := hn3.up hXw12
      have ho5 := ho5.up hXw12
      have hb6 := hb6.up hXw12
      have ho7 := ho7.up hXw12
      have ho8 := ho8.up hXw12
      have ho9 := ho9.up hXw12
      have ho10 := ho10.up hXw12
      have hU0 := hU0.ext hXw12
      have hwk := rdE (fO_rd (k := k) hn3 (by rw [List.length_map]; omega)) hwa.1
      refine WL.op rfl (OpK.appendS (f := VV) rfl T.sl25 T.zv28 rfl rfl ho5 rfl (Osl.srcM ho11 (one_mem (rfl))) (by first | (simp only [List.length_cons, List.length_nil]; omega) | (simp_all; omega)) (fun v12 og12 w13 hXw13 ho12 hap12 => ?_))
      have hl12 := Lo.app hl5 hB hap12
      have hd2_12 := Dj.app hd2_5 ho2.ltO hap12
      have hd3_12 := DI.app hd3_5 hn3 hap12
      have hd6_12 := Dj.app (Dj.symm hd5_6) hb6.ltO hap12
      have hd7_12 := Dj.app (Dj.symm hd5_7) ho7.ltO hap12
      have hd8_12 := Dj.app (Dj.symm hd5_8) ho8.ltO hap12
      have hd9_12 := Dj.app (Dj.symm hd5_9) ho9.ltO hap12
      have hd10_12 := Dj.app (Dj.symm hd5_10) ho10.ltO hap12
      have hd11_12 := Dj.app (Dj.symm hd5_11) ho11.ltO hap12
      have hk0_12 := OkN.app hU0 hk0_5 hap12
      have hg0_12 := OgR.app hg0_5 hU0.size hap12
      have hB := hB.updL hXw13 hl5
      have ho2 := ho2.updD hXw13 hd2_5
      have hn3 := hn3.updD hXw13 hd3_5
      have hb6 := hb6.updD hXw13 (Dj.symm hd5_6)
      have ho7 := ho7.updD hXw13 (Dj.symm hd5_7)
      have ho8 := ho8.updD hXw13 (Dj.symm hd5_8)
      have ho9 := ho9.updD hXw13 (Dj.symm hd5_9)
      have ho10 := ho10.updD hXw13 (Dj.symm hd5_10)
      have ho11 := ho11.updD hXw13 (Dj.symm hd5_11)
      have hU0 := hU0.step hXw13 hk0_5
      have hwk := rdE (fO_rd (k := k) hn3 (by rw [List.length_map]; omega)) hwa.1
      refine WL.pure rfl rfl rfl (PV.assign rfl) ?_
      refine WL.nil ?_
      refine NQ.block ?_
      refine NQ.then ?_
      refine CW.reg ?_
      refine WL.pure rfl rfl rfl (PV.add rfl rfl (by constructor <;> omega)) ?_
      refine WL.pure rfl rfl rfl (PV.move rfl) ?_
      refine WL.nil ?_
      refine NQ.next (ρ := [(8, _), (30, _)]) ⟨rfl, rfl, rfl, rfl, rfl, rfl, trivial⟩ ?_
      exact ⟨_, ⟨v12, og12, k + 1, rfl, rfl, hU0, osE ho12 (by first | exact (sel_no (lsP_n htk (by assumption))) | (rw [fO_get (by omega)]; exact sel_put (lsP_y htk (by assumption)))), (by first | exact hg0_12 | exact OgR.weak hg0_12), (by first | omega | assumption | (simp_all; done) | (simp_all; omega)), (by intro j h; rcases Nat.lt_succ_iff_lt_or_eq.1 h with h | rfl; exact he j h; exact lsO_y htk (by assumption) (by assumption))⟩, by omega⟩
    try simp only [decide_eq_true_eq, decide_eq_false_iff_not, Bool.not_eq_true', Bool.not_eq_false', Bool.not_eq_eq_eq_not, Bool.not_true, Bool.not_false, Int.not_lt, Int.not_le, Classical.not_not, beq_iff_eq, beq_eq_false_iff_ne] at hc6
    refine CW.skip ?_
    refine NQ.block ?_
    refine NQ.then ?_
    refine CW.reg ?_
    refine WL.pure rfl rfl rfl (PV.add rfl rfl (by constructor <;> omega)) ?_
    refine WL.pure rfl rfl rfl (PV.move rfl) ?_
    refine WL.nil ?_
    refine NQ.next (ρ := [(8, _), (30, _)]) ⟨rfl, rfl, rfl, rfl, rfl, rfl, trivial⟩ ?_
    exact ⟨_, ⟨v5, og5, k + 1, rfl, rfl, hU0, osE ho5 (by first | exact (sel_no (lsP_n htk (by assumption))) | (rw [fO_get (by omega)]; exact sel_put (lsP_y htk (by assumption)))), (by first | exact hg0_5 | exact OgR.weak hg0_5), (by first | omega | assumption | (simp_all; done) | (simp_all; omega)), (by intro j h; rcases Nat.lt_succ_iff_lt_or_eq.1 h with h | rfl; exact he j h; exact lsO_y htk (by assumption) (by assumption))⟩, by omega⟩
  try simp only [decide_eq_true_eq, decide_eq_false_iff_not, Bool.not_eq_true', Bool.not_eq_false', Bool.not_eq_eq_eq_not, Bool.not_true, Bool.not_false, Int.not_lt, Int.not_le, Classical.not_not, beq_iff_eq, beq_eq_false_iff_ne] at hc3
  refine CW.exit ?_
  refine XQ.then ?_
  refine XQ.then ?_
  refine XQ.here ?_
  refine NQ.then ?_
  refine CW.seq ?_
  refine CW.reg ?_
  refine WL.pure rfl rfl rfl (PV.move rfl) ?_
  refine WL.pure rfl rfl rfl (PV.assign rfl) ?_
  refine WL.pure rfl rfl rfl (PV.assign rfl) ?_
  refine WL.nilS ?_
  refine CW.ret ?_
  refine RQ.r2 rfl rfl ?_
  first | (have hS : lsB cs L mo = false := (by first | exact ls_n1 (by assumption) | exact ls_n2 (by omega) | exact ls_n3 (k := k) (by omega) (lsO_n1 htk (by assumption)) | exact ls_n3 (k := k) (by omega) (lsO_n2 htk (by assumption))); exact ⟨hB, .slice none 0 0, none, [], [], tE2 rfl (bE hS.symm), Osl.nil _ _, Lo.nl _, innE (Inn.zero _) (onT_no (by rw [hS]; decide)).symm, LoI.nl _, DI.nl _⟩) | (obtain rfl : k = (ov1 cs cs.length).length := (by omega); have hS := ls_y (by assumption : plnB cs L = true) hmo2 he; exact ⟨hB, _, _, _, _, tE2 rfl (bE hS.symm), ho5, hl5, innE (Inn.sel hn3 _ (by rw [List.length_map]; exact Nat.le_refl _)) (onT_yes hS).symm, LoI.sel hl3 (by rw [hn3.lo, List.length_map]; exact Nat.le_refl _), DI.sel hd3_5 (by rw [hn3.lo, List.length_map]; exact Nat.le_refl _)⟩)

end Go.Proofs.Ythemmoceomdccaa
