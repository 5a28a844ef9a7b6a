/- Walks of the functions that the law FnExactLoosePairs reaches: each says what its function computes. No condition. -/
import Derived.Test.YthjeebjgdeldkaaProg
import Derived.Test.YthjeebjgdeldkaaLibM
import Derived.Test.YthjeebjgdeldkaaPlA
import Derived.Test.YthjeebjgdeldkaaLibT
import Derived.Test.YthjeebjgdeldkaaLibV
import Derived.Test.YthjeebjgdeldkaaPlK
import Derived.Test.YthjeebjgdeldkaaPlQ
import Derived.Test.YthjeebjgdeldkaaPlL
import Derived.Test.YthjeebjgdeldkaaPlO
import Derived.Test.YthjeebjgdeldkaaPlG
import Derived.Test.YthjeebjgdeldkaaLibW
import Derived.Test.YthjeebjgdeldkaaPlSo
import Derived.Test.YthjeebjgdeldkaaLibY
import Derived.Test.YthjeebjgdeldkaaPlLs
import Derived.Test.YthjeebjgdeldkaaWFnExactLoosePairsb
namespace Go.Proofs.Ythjeebjgdeldkaa
open Go Go.WX Go.Proofs
set_option linter.unusedSimpArgs false
set_option linter.unusedVariables false

theorem c_impl_overlaps {w : World} {va : Value} {cs : List C4}  (ha : Rd ECh w va cs) (hoks : ∀ k : Nat, k < cs.length → okC (cs.getD k d4)) (h8 : cs.length ≤ 8) : Calls Try.prog 94 #[va] w (Ret1 (fun v w' => Ext w w' ∧ ∃ (u : Value) (og_u : Option Nat) (vs_u : List O9) (os_u : List (Option Nat)), v = u ∧ (CO w va cs vs_u (ov1 cs cs.length)) ∧ Osn 9 gO w' og_u u vs_u ∧ Lo w og_u ∧ Inn w' os_u (vs_u.map fO) ((ov1 cs cs.length).map (ovW cs)) ∧ LoI w os_u ∧ DI os_u og_u)) := by
  have hB : Ext w w := Ext.refl w
  have hla := ha.leI
  refine callsOf (vs := [_]) Try.func94 rfl Try.ntmps94 rfl rfl ?_
  refine CW.seq ?_
  refine CW.reg ?_
  refine WL.pure rfl rfl rfl (PV.assign rfl) ?_
  refine WL.nilS ?_
  refine CW.seq ?_
  refine CW.reg ?_
  refine WL.op rfl (OpK.buildN (g := gO) (os := []) [] gO_ok rfl T.sl105 rfl rfl T.zv108 rfl rfl (fun v1 g1 w1 hXw1 ho1 hge1 => ?_))
  have hl1 := Lo.new hB hge1
  have hB := hB.trans hXw1
  refine WL.pure rfl rfl rfl (PV.assign rfl) ?_
  refine WL.nilS ?_
  refine CW.seq ?_
  refine CW.seq ?_
  refine CW.reg ?_
  refine WL.pure rfl rfl rfl (PV.move rfl) ?_
  refine WL.pure rfl rfl rfl ((by first | exact PV.len rfl (by assumption) T.sl46 | exact PV.lenOs rfl (by assumption) T.sl46 | exact PV.len rfl (NL.rd (by assumption)) T.sl46 | exact PV.len rfl (Inn.rd (by assumption) (by omega)) T.sl46)) ?_
  refine WL.pure rfl rfl rfl (PV.move rfl) ?_
  refine WL.nilS ?_
  refine CW.block ?_
  have hn2 := Inn.zero w1
  have hl2 := LoI.nl w
  have hd1_2 : DI [] (some g1) := DI.zero _
  have hlt1 := ho1.ltO
  have hlt2 := hn2.ltO
  refine CW.loop (σk := [(0, _), (11, _), (12, _)]) (fun ρ wz m => ∃ (v3 : Value) (og3 : Option Nat) (vs3 : List O9) (os3 : List (Option Nat)) (i : Nat), ρ = [(3, v3), (13, .int .i64 (i : Nat))] ∧ m = cs.length - i ∧ UpdL [(some g1)] w1 wz ∧ Osn 9 gO wz og3 v3 (vs3) ∧ OgR w1 (some g1) og3 ∧ Inn wz os3 (vs3.map fO) ((ov1 cs i).map (ovW cs)) ∧ BlR w1 [] os3 ∧ DI os3 og3 ∧ (i ≤ cs.length) ∧ (CO w va cs vs3 (ov1 cs i))) (ρ₀ := [(3, _), (13, _)]) (m₀ := _) ⟨rfl, rfl, rfl, rfl, rfl, trivial⟩ ⟨v1, (some g1), _, [], 0, rfl, rfl, (UpdL.refl _ _), ho1, OgR.refl _ _, innE hn2 (by rfl), BlR.refl _ _, hd1_2, (by first | omega | rfl | (simp; done) | assumption | (simp_all; done)), (by exact CO.zero _ _ _)⟩ ?_
  rintro _ wl1 _ ⟨v3, og3, vs3, os3, i, rfl, rfl, hU0, ho3, ha3, hn4, hy4, hd3_4, hi, hC⟩
  have hl3 := Lo.ogr hl1 hB ha3
  have hg0_3 := ha3
  have hk0_3 : OkB [(some g1)] w1 og3 := OkB.ogr (OkB.mem (by simp)) (Nat.le_refl _) ha3
  have hBpre0 := hB
  have hB := hB.loop hU0 ⟨hl1, trivial⟩
  have hlv4 := hn4.lv
  have hz0_4 := hy4
  have hl4 := LoI.blr hl2 hBpre0 hy4
  refine CW.seq ?_
  refine CW.reg ?_
  refine WL.pure rfl rfl rfl (PV.lss rfl rfl) ?_
  refine WL.nilS ?_
  refine CW.seq ?_
  refine CW.cond rfl (fun hc1 => ?_) (fun hc1 => ?_)
  · skip
    try simp only [decide_eq_true_eq, decide_eq_false_iff_not, Bool.not_eq_true', Bool.not_eq_false', Bool.not_eq_eq_eq_not, Bool.not_true, Bool.not_false, Int.not_lt, Int.not_le, Classical.not_not, beq_iff_eq, beq_eq_false_iff_ne] at hc1
    refine CW.skipS ?_
    refine CW.seq ?_
    refine CW.block ?_
    refine CW.seq ?_
    refine CW.reg ?_
    have hoki := hoks i (by omega); have hok1i := hoki.2.1
    refine WL.pure rfl rfl rfl (PV.move rfl) ?_
    obtain ⟨p1, vqp1_0, vqp1_1, vqp1_2, vqp1_3, hpp1, hcp1, hqp1_0, hqp1_1, hqp1_2, hqp1_3, hqBp1⟩ := Rd.chAt ha (i := i) (by first | omega | (simp only [List.length_set]; omega) | (simp only [List.length_append, List.length_take, List.length_replicate, List.length_drop]; omega))
    refine WL.pure rfl rfl rfl ((PV.indexAddr hpp1 rfl rfl T.sl46)) ?_
    refine WL.pure rfl rfl rfl ((by first | exact PV.loadA T.ag58 rfl (by first | exact Cells.up (by assumption) hB | exact Bx.cells (by assumption) | assumption) (Ext.refl _) rfl | exact PV.loadP (ds := [_, _, _, _]) T.ag58 rfl (by first | exact Cells.up (by assumption) hB | exact Bx.cells (by assumption) | assumption) (Ext.refl _) rfl rfl)) ?_
    refine WL.op rfl (OpK.alloc rfl T.zv58 rfl (fun b5 w2 hXw2 hb5 hge5 => ?_))
    have hl5 := Lo.new hB hge5
    have hd4_5 := DI.new hn4 hge5
    have hd3_5 := Dj.new ho3.ltO hge5
    have hk0_5 := OkN.new hU0 hge5
    have hg0_5 := OgR.new hU0.size hge5
    have hB := hB.trans hXw2
    have hn4 := hn4.up hXw2
    have ho3 := ho3.up hXw2
    have hU0 := hU0.ext hXw2
    refine WL.pure rfl rfl rfl (PV.assign rfl) ?_
    refine WL.op rfl (OpK.storeA T.sz58 rfl rfl rfl rfl (by simp [Value.oneCell'] <;> first | done | (repeat' apply And.intro) <;> first | rfl | exact Inn.one1 (by assumption) (by omega) | exact Osl.oneCell (by assumption) | exact Osn.oneCell (by assumption) | exact Rd.oneCell (by assumption) | exact Rd.oneCell (NL.rd (by assumption)) | assumption) hb5 (fun w3 hXw3 hb5 => ?_))
    have hB := hB.updL hXw3 hl5
    have hn4 := hn4.updD hXw3 hd4_5
    have ho3 := ho3.updD hXw3 hd3_5
    have hU0 := hU0.step hXw3 hk0_5
    refine WL.nilS ?_
    refine CW.seq ?_
    refine CW.reg ?_
    refine WL.pure rfl rfl rfl (PV.move rfl) ?_
    refine WL.pure rfl rfl rfl ((by first | exact PV.len rfl (by assumption) T.sl46 | exact PV.lenOs rfl (by assumption) T.sl46 | exact PV.len rfl (NL.rd (by assumption)) T.sl46 | exact PV.len rfl (Inn.rd (by assumption) (by omega)) T.sl46)) ?_
    refine WL.pure rfl rfl rfl (PV.move rfl) ?_
    refine WL.nilS ?_
    refine CW.block ?_
    have hlt4 := hn4.ltO
    have hlt3 := ho3.ltO
    have hlt5 := hb5.ltO
    refine CW.loop (σk := [(0, _), (4, _), (5, _), (11, _), (12, _), (13, _), (18, _), (19, _)]) (fun ρ wz m => ∃ (v6 : Value) (og6 : Option Nat) (vs6 : List O9) (os6 : List (Option Nat)) (j : Nat), ρ = [(3, v6), (20, .int .i64 (j : Nat))] ∧ m = cs.length - j ∧ UpdL [og3] w3 wz ∧ Osn 9 gO wz og6 v6 (vs6) ∧ OgR w3 og3 og6 ∧ Inn wz os6 (vs6.map fO) ((ov1 cs i ++ ov2 cs i j).map (ovW cs)) ∧ BlR w3 os3 os6 ∧ DI os6 og6 ∧ (j ≤ cs.length) ∧ (CO w va cs vs6 (ov1 cs i ++ ov2 cs i j))) (ρ₀ := [(3, _), (20, _)]) (m₀ := _) ⟨rfl, rfl, rfl, rfl, rfl, rfl, rfl, rfl, rfl, rfl, trivial⟩ ⟨v3, og3, _, os3, 0, rfl, rfl, (UpdL.refl _ _), ho3, OgR.refl _ _, innE hn4 (by rw [← ovQ_zero2]), BlR.refl _ _, hd3_4, (by first | omega | rfl | (simp; done) | assumption | (simp_all; done)), (by rw [← ovQ_zero2]; exact hC)⟩ ?_
    rintro _ wl2 _ ⟨v6, og6, vs6, os6, j, rfl, rfl, hU1, ho6, ha6, hn7, hy7, hd6_7, hj, hC⟩
    have hU0 := hU0.trans hU1 ⟨hk0_3, trivial⟩
    have hb5 := hb5.loop hU1 ⟨(Dj.symm hd3_5), trivial⟩
    have hl6 := Lo.ogr hl3 hB ha6
    have hg1_6 := ha6
    have hk1_6 : OkB [og3] w3 og6 := OkB.ogr (OkB.mem (by simp)) (Nat.le_refl _) ha6
    have hk0_6 := OkB.ogr hk0_3 (by first | assumption | exact UpdL.size (by assumption)) ha6
    have hg0_6 := OgR.trans hg0_3 (by first | assumption | exact UpdL.size (by assumption)) ha6
    have hd5_6 := Dj.ogr (Dj.symm hd3_5) hlt5 ha6
    have hBpre1 := hB
    have hB := hB.loop hU1 ⟨hl3, trivial⟩
    have hlv7 := hn7.lv
    have hd5_7 := DI.blr hd4_5 hlt5 hy7
    have hz1_7 := hy7
    have hz0_7 := BlR.trans hz0_4 (by first | assumption | exact UpdL.size (by assumption)) hy7
    have hl7 := LoI.blr hl4 hBpre1 hy7
    refine CW.seq ?_
    refine CW.reg ?_
    refine WL.pure rfl rfl rfl (PV.lss rfl rfl) ?_
    refine WL.nilS ?_
    refine CW.seq ?_
    refine CW.cond rfl (fun hc2 => ?_) (fun hc2 => ?_)
    · skip
      try simp only [decide_eq_true_eq, decide_eq_false_iff_not, Bool.not_eq_true', Bool.not_eq_false', Bool.not_eq_eq_eq_not, Bool.not_true, Bool.not_false, Int.not_lt, Int.not_le, Classical.not_not, beq_iff_eq, beq_eq_false_iff_ne] at hc2
      refine CW.skipS ?_
      refine CW.seq ?_
      refine CW.block ?_
      refine CW.seq ?_
      refine CW.reg ?_
      have hokj := hoks j (by omega); have hok1j := hokj.2.1
      refine WL.pure rfl rfl rfl (PV.move rfl) ?_
      obtain ⟨p2, vqp2_0, vqp2_1, vqp2_2, vqp2_3, hpp2, hcp2, hqp2_0, hqp2_1, hqp2_2, hqp2_3, hqBp2⟩ := Rd.chAt ha (i := j) (by first | omega | (simp only [List.length_set]; omega) | (simp only [List.length_append, List.length_take, List.length_replicate, List.length_drop]; omega))
      refine WL.pure rfl rfl rfl ((PV.indexAddr hpp2 rfl rfl T.sl46)) ?_
      refine WL.pure rfl rfl rfl ((by first | exact PV.loadA T.ag58 rfl (by first | exact Cells.up (by assumption) hB | exact Bx.cells (by assumption) | assumption) (Ext.refl _) rfl | exact PV.loadP (ds := [_, _, _, _]) T.ag58 rfl (by first | exact Cells.up (by assumption) hB | exact Bx.cells (by assumption) | assumption) (Ext.refl _) rfl rfl)) ?_
      refine WL.op rfl (OpK.alloc rfl T.zv58 rfl (fun b8 w4 hXw4 hb8 hge8 => ?_))
      have hl8 := Lo.new hB hge8
      have hd5_8 := Dj.new hb5.ltO hge8
      have hd7_8 := DI.new hn7 hge8
      have hd6_8 := Dj.new ho6.ltO hge8
      have hk0_8 := OkN.new hU0 hge8
      have hg0_8 := OgR.new hU0.size hge8
      have hk1_8 := OkN.new hU1 hge8
      have hg1_8 := OgR.new hU1.size hge8
      have hB := hB.trans hXw4
      have hb5 := hb5.up hXw4
      have hn7 := hn7.up hXw4
      have ho6 := ho6.up hXw4
      have hU0 := hU0.ext hXw4
      have hU1 := hU1.ext hXw4
      refine WL.pure rfl rfl rfl (PV.assign rfl) ?_
      refine WL.op rfl (OpK.storeA T.sz58 rfl rfl rfl rfl (by simp [Value.oneCell'] <;> first | done | (repeat' apply And.intro) <;> first | rfl | exact Inn.one1 (by assumption) (by omega) | exact Osl.oneCell (by assumption) | exact Osn.oneCell (by assumption) | exact Rd.oneCell (by assumption) | exact Rd.oneCell (NL.rd (by assumption)) | assumption) hb8 (fun w5 hXw5 hb8 => ?_))
      have hB := hB.updL hXw5 hl8
      have hb5 := hb5.updD hXw5 hd5_8
      have hn7 := hn7.updD hXw5 hd7_8
      have ho6 := ho6.updD hXw5 hd6_8
      have hU0 := hU0.step hXw5 hk0_8
      have hU1 := hU1.step hXw5 hk1_8
      refine WL.nilS ?_
      refine CW.seq ?_
      refine CW.reg ?_
      refine WL.pure rfl rfl rfl ((by first | exact PV.fieldAddr T.fl58_1 rfl (by first | assumption | exact Bx.cells (by assumption)) | exact PV.fieldAddrP T.fl58_1 rfl rfl)) ?_
      refine WL.pure rfl rfl rfl ((by first | exact PV.load0 T.na26 rfl (by first | exact Cells.up (by assumption) hB | exact Bx.cells (by assumption) | assumption) (Ext.refl _) rfl | exact PV.load1 T.na26 rfl (by first | exact Cells.up (by assumption) hB | exact Bx.cells (by assumption) | assumption) (Ext.refl _) rfl)) ?_
      refine WL.pure rfl rfl rfl ((by first | exact PV.len rfl (by assumption) T.sl26 | exact PV.lenOs rfl (by assumption) T.sl26 | exact PV.len rfl (NL.rd (by assumption)) T.sl26 | exact PV.len rfl (Inn.rd (by assumption) (by omega)) T.sl26)) ?_
      refine WL.pure rfl rfl rfl ((by first | exact PV.fieldAddr T.fl58_1 rfl (by first | assumption | exact Bx.cells (by assumption)) | exact PV.fieldAddrP T.fl58_1 rfl rfl)) ?_
      refine WL.pure rfl rfl rfl ((by first | exact PV.load0 T.na26 rfl (by first | exact Cells.up (by assumption) hB | exact Bx.cells (by assumption) | assumption) (Ext.refl _) rfl | exact PV.load1 T.na26 rfl (by first | exact Cells.up (by assumption) hB | exact Bx.cells (by assumption) | assumption) (Ext.refl _) rfl)) ?_
      refine WL.pure rfl rfl rfl ((by first | exact PV.len rfl (by assumption) T.sl26 | exact PV.lenOs rfl (by assumption) T.sl26 | exact PV.len rfl (NL.rd (by assumption)) T.sl26 | exact PV.len rfl (Inn.rd (by assumption) (by omega)) T.sl26)) ?_
      refine WL.pure rfl rfl rfl (PV.min2 rfl rfl) ?_
      refine WL.pure rfl rfl rfl (PV.assign rfl) ?_
      refine WL.nilS ?_
      refine CW.seq ?_
      refine CW.seq ?_
      refine CW.reg ?_
      refine WL.pure rfl rfl rfl (PV.move rfl) ?_
      refine WL.pure rfl rfl rfl (PV.move rfl) ?_
      refine WL.pure rfl rfl rfl (PV.eql rfl rfl) ?_
      refine WL.nilS ?_
      refine CW.cond rfl (fun hc3 => ?_) (fun hc3 => ?_)
      · skip
        try simp only [decide_eq_true_eq, decide_eq_false_iff_not, Bool.not_eq_true', Bool.not_eq_false', Bool.not_eq_eq_eq_not, Bool.not_true, Bool.not_false, Int.not_lt, Int.not_le, Classical.not_not, beq_iff_eq, beq_eq_false_iff_ne] at hc3
        have hmo := mostN_eq (cs := cs) (i := i) (j := j) (by omega) hok1i.1; unfold patL at hmo
        refine CW.reg ?_
        refine WL.pure rfl rfl rfl (PV.move rfl) ?_
        refine WL.pure rfl rfl rfl (PV.sub rfl rfl (by constructor <;> omega)) ?_
        refine WL.pure rfl rfl rfl (PV.assign rfl) ?_
        refine WL.nilS ?_
        refine CW.seq ?_
        refine CW.reg ?_
        refine WL.pure rfl rfl rfl (PV.assign rfl) ?_
        refine WL.nilS ?_
        refine CW.block ?_
        have hlt5 := hb5.ltO
        have hlt7 := hn7.ltO
        have hlt6 := ho6.ltO
        have hlt8 := hb8.ltO
        refine CW.loop (σk := [(0, _), (4, _), (5, _), (7, _), (8, _), (11, _), (12, _), (13, _), (18, _), (19, _), (20, _)]) (fun ρ wz m => ∃ (v9 : Value) (og9 : Option Nat) (vs9 : List O9) (os9 : List (Option Nat)) (n : Nat), ρ = [(3, v9), (9, .int .i64 ((n + 1 : Nat) : Int))] ∧ m = mostN cs i j - n ∧ UpdL [og6] w5 wz ∧ Osn 9 gO wz og9 v9 (vs9) ∧ OgR w5 og6 og9 ∧ Inn wz os9 (vs9.map fO) ((ovQ cs i j n).map (ovW cs)) ∧ BlR w5 os6 os9 ∧ DI os9 og9 ∧ (n ≤ mostN cs i j) ∧ (CO w va cs vs9 (ovQ cs i j n))) (ρ₀ := [(3, _), (9, _)]) (m₀ := _) ⟨rfl, rfl, rfl, rfl, rfl, rfl, rfl, rfl, rfl, rfl, rfl, rfl, rfl, trivial⟩ ⟨v6, og6, _, os6, 0, rfl, rfl, (UpdL.refl _ _), ho6, OgR.refl _ _, innE hn7 (by rw [← ovQ_zero3]), BlR.refl _ _, hd6_7, (by first | omega | rfl | (simp; done) | assumption | (simp_all; done)), (by rw [← ovQ_zero3]; exact hC)⟩ ?_
        rintro _ wl3 _ ⟨v9, og9, vs9, os9, n, rfl, rfl, hU2, ho9, ha9, hn10, hy10, hd9_10, hn, hC⟩
        have hU0 := hU0.trans hU2 ⟨hk0_6, trivial⟩
        have hU1 := hU1.trans hU2 ⟨hk1_6, trivial⟩
        have hb5 := hb5.loop hU2 ⟨hd5_6, trivial⟩
        have hb8 := hb8.loop hU2 ⟨(Dj.symm hd6_8), trivial⟩
        have hl9 := Lo.ogr hl6 hB ha9
        have hg2_9 := ha9
        have hk2_9 : OkB [og6] w5 og9 := OkB.ogr (OkB.mem (by simp)) (Nat.le_refl _) ha9
        have hk0_9 := OkB.ogr hk0_6 (by first | assumption | exact UpdL.size (by assumption)) ha9
        have hg0_9 := OgR.trans hg0_6 (by first | assumption | exact UpdL.size (by assumption)) ha9
        have hk1_9 := OkB.ogr hk1_6 (by first | assumption | exact UpdL.size (by assumption)) ha9
        have hg1_9 := OgR.trans hg1_6 (by first | assumption | exact UpdL.size (by assumption)) ha9
        have hd5_9 := Dj.ogr hd5_6 hlt5 ha9
        have hd8_9 := Dj.ogr (Dj.symm hd6_8) hlt8 ha9
        have hBpre2 := hB
        have hB := hB.loop hU2 ⟨hl6, trivial⟩
        have hlv10 := hn10.lv
        have hd5_10 := DI.blr hd5_7 hlt5 hy10
        have hd8_10 := DI.blr hd7_8 hlt8 hy10
        have hz2_10 := hy10
        have hz0_10 := BlR.trans hz0_7 (by first | assumption | exact UpdL.size (by assumption)) hy10
        have hz1_10 := BlR.trans hz1_7 (by first | assumption | exact UpdL.size (by assumption)) hy10
        have hl10 := LoI.blr hl7 hBpre2 hy10
        have hq300 := ovQ_300 (n := n) h8 hoks (show i ≤ cs.length by omega) (show j ≤ cs.length by omega) hn
        refine CW.seq ?_
        refine CW.seq ?_
        refine CW.reg ?_
        refine WL.pure rfl rfl rfl (PV.move rfl) ?_
        refine WL.pure rfl rfl rfl (PV.move rfl) ?_
        refine WL.pure rfl rfl rfl (PV.leq rfl rfl) ?_
        refine WL.nilS ?_
        refine CW.cond rfl (fun hc4 => ?_) (fun hc4 => ?_)
        · skip
          try simp only [decide_eq_true_eq, decide_eq_false_iff_not, Bool.not_eq_true', Bool.not_eq_false', Bool.not_eq_eq_eq_not, Bool.not_true, Bool.not_false, Int.not_lt, Int.not_le, Classical.not_not, beq_iff_eq, beq_eq_false_iff_ne] at hc4
          refine CW.skipS ?_
          refine CW.seq ?_
          refine CW.block ?_
          refine CW.seq ?_
          refine CW.draw T.mixed (by kernel_rfl) (fun _ _ _ _ _ h => h) (fun w8 w9 => Upd none w8 w9) 12 (.take 0 (.take 1 (.take 2 (.take 3 (.take 4 (.take 5 (.take 6 (.take 7 (.take 8 (.take 9 (.take 10 (.must 11 .done)))))))))))) (by kernel_rfl) (fun w6 hXd => ?_)
          have hB := hB.trans hXd
          have hb5 := hb5.up hXd
          have hb8 := hb8.up hXd
          have hn10 := hn10.up hXd
          have ho9 := ho9.up hXd
          have hU0 := hU0.ext hXd
          have hU1 := hU1.ext hXd
          have hU2 := hU2.ext hXd
          have hBr := hB
          have hS : Upd none w6 w6 := Ext.toUpd (Ext.refl _)
          have hmr := mostN_rng cs i j; have hmr1 : mostN cs i j ≤ (cs.getD i d4).2.1.length := hmr.1; have hmr2 : mostN cs i j ≤ (cs.getD j d4).2.1.length := hmr.2; have hov := ovP_there (cs := cs) (i := i) (j := j) (k := n + 1) (by omega) (by omega)
          refine HP.take rfl rfl rfl rfl hS (fun wS hS1 => (by first | exact PV.fieldAddr T.fl58_1 rfl (by first | assumption | exact Bx.cells (by assumption)) | exact PV.fieldAddrP T.fl58_1 rfl rfl)) ?_
          refine HP.take rfl rfl rfl rfl hS (fun wS hS1 => (by first | exact PV.load0 T.na26 rfl (by first | exact Cells.up (by assumption) (hBr.trans hS1) | exact Bx.cells (Bx.updD (by assumption) hS1 (Dj.nlR _)) | exact Cells.upd (by assumption) hS1 (by simp)) (Ext.refl _) rfl | exact PV.load1 T.na26 rfl (by first | exact Cells.up (by assumption) (hBr.trans hS1) | exact Bx.cells (Bx.updD (by assumption) hS1 (Dj.nlR _)) | exact Cells.upd (by assumption) hS1 (by simp)) (Ext.refl _) rfl)) ?_
          refine HP.take rfl rfl rfl rfl hS (fun wS hS1 => (by first | exact PV.fieldAddr T.fl58_1 rfl (by first | assumption | exact Bx.cells (by assumption)) | exact PV.fieldAddrP T.fl58_1 rfl rfl)) ?_
          refine HP.take rfl rfl rfl rfl hS (fun wS hS1 => (by first | exact PV.load0 T.na26 rfl (by first | exact Cells.up (by assumption) (hBr.trans hS1) | exact Bx.cells (Bx.updD (by assumption) hS1 (Dj.nlR _)) | exact Cells.upd (by assumption) hS1 (by simp)) (Ext.refl _) rfl | exact PV.load1 T.na26 rfl (by first | exact Cells.up (by assumption) (hBr.trans hS1) | exact Bx.cells (Bx.updD (by assumption) hS1 (Dj.nlR _)) | exact Cells.upd (by assumption) hS1 (by simp)) (Ext.refl _) rfl)) ?_
          refine HP.take rfl rfl rfl rfl hS (fun wS hS1 => (by first | exact PV.len rfl (by assumption) T.sl26 | exact PV.lenOs rfl (by assumption) T.sl26 | exact PV.len rfl (NL.rd (by assumption)) T.sl26 | exact PV.len rfl (Inn.rd (by assumption) (by omega)) T.sl26)) ?_
          refine HP.take rfl rfl rfl rfl hS (fun wS hS1 => PV.move rfl) ?_
          refine HP.take rfl rfl rfl rfl hS (fun wS hS1 => PV.sub rfl rfl (by constructor <;> omega)) ?_
          refine HP.take rfl rfl rfl rfl hS (fun wS hS1 => (by first | exact PV.fieldAddr T.fl58_1 rfl (by first | assumption | exact Bx.cells (by assumption)) | exact PV.fieldAddrP T.fl58_1 rfl rfl)) ?_
          refine HP.take rfl rfl rfl rfl hS (fun wS hS1 => (by first | exact PV.load0 T.na26 rfl (by first | exact Cells.up (by assumption) (hBr.trans hS1) | exact Bx.cells (Bx.updD (by assumption) hS1 (Dj.nlR _)) | exact Cells.upd (by assumption) hS1 (by simp)) (Ext.refl _) rfl | exact PV.load1 T.na26 rfl (by first | exact Cells.up (by assumption) (hBr.trans hS1) | exact Bx.cells (Bx.updD (by assumption) hS1 (Dj.nlR _)) | exact Cells.upd (by assumption) hS1 (by simp)) (Ext.refl _) rfl)) ?_
          refine HP.take rfl rfl rfl rfl hS (fun wS hS1 => PV.move rfl) ?_
          refine HP.slRH (x := .tmp 50) (hi := .tmp 51) (E := EI) T.sl26 rfl rfl  (by first | assumption | exact Osl.rd (by assumption)) (by first | omega | (simp; omega) | (simp_all; omega)) (fun u1 huu1 hru1 => ?_)
          refine HP.take rfl rfl rfl rfl hS (fun wS hS1 => (huu1 _ _ _ _ _ _)) ?_
          refine HP.must rfl rfl (OpK.callR rfl T.cf129 rfl (c_impl_hasAt (by first | assumption | exact Rd.up (by assumption) hB | exact Osl.rd (by assumption) | exact Osn.rdR (by assumption) | exact NL.rd (by assumption) | exact rdII (by assumption) (by assumption) | exact Inn.rd (by assumption) (by omega)) (by first | assumption | exact Rd.up (by assumption) hB | exact Osl.rd (by assumption) | exact Osn.rdR (by assumption) | exact NL.rd (by assumption) | exact rdII (by assumption) (by assumption) | exact Inn.rd (by assumption) (by omega)) (by first | assumption | omega | (simp only [marks_len, marksB_len, marksR_len, sumL_marksS, List.length_take]; omega)) (by first | assumption | omega | (simp only [marks_len, marksB_len, marksR_len, sumL_marksS, List.length_take]; omega))) (fun w7 hXw7 => ?_))
          refine ⟨Upd.trans hS hXw7, ?_⟩
          have hS := Upd.trans hS hXw7
          have hB := hB.trans hXw7
          have hb5 := hb5.up hXw7
          have hb8 := hb8.up hXw7
          have hn10 := hn10.up hXw7
          have ho9 := ho9.up hXw7
          have hU0 := hU0.ext hXw7
          have hU1 := hU1.ext hXw7
          have hU2 := hU2.ext hXw7
          refine HP.doneS ?_
          refine CW.cond rfl (fun hc5 => ?_) (fun hc5 => ?_)
          · skip
            try simp only [decide_eq_true_eq, decide_eq_false_iff_not, Bool.not_eq_true', Bool.not_eq_false', Bool.not_eq_eq_eq_not, Bool.not_true, Bool.not_false, Int.not_lt, Int.not_le, Classical.not_not, beq_iff_eq, beq_eq_false_iff_ne] at hc5
            have hyes : ovP cs i j (n + 1) = true := hov.symm.trans (by assumption)
            refine CW.draw T.mixed (by kernel_rfl) (fun _ _ _ _ _ h => h) (fun w8 w9 => Upd og9 w8 w9) 15 (.take 0 (.take 1 (.take 2 (.take 3 (.take 4 (.take 5 (.take 6 (.take 9 (.take 10 (.must 7 (.must 8 (.take 11 (.must 12 (.must 13 (.take 14 .done))))))))))))))) (by kernel_rfl) (fun w8 hXd => ?_)
            have hB := hB.trans hXd
            have hb5 := hb5.up hXd
            have hb8 := hb8.up hXd
            have hn10 := hn10.up hXd
            have ho9 := ho9.up hXd
            have hU0 := hU0.ext hXd
            have hU1 := hU1.ext hXd
            have hU2 := hU2.ext hXd
            have hBr := hB
            have hS : Upd og9 w8 w8 := Ext.toUpd (Ext.refl _)
            refine HP.take rfl rfl rfl rfl hS (fun wS hS1 => PV.move rfl) ?_
            refine HP.take rfl rfl rfl rfl hS (fun wS hS1 => (by first | exact PV.fieldAddr T.fl58_1 rfl (by first | assumption | exact Bx.cells (by assumption)) | exact PV.fieldAddrP T.fl58_1 rfl rfl)) ?_
            refine HP.take rfl rfl rfl rfl hS (fun wS hS1 => (by first | exact PV.load0 T.na26 rfl (by first | exact Cells.up (by assumption) (hBr.updL hS1 hl9) | exact Bx.cells (Bx.updD (by assumption) hS1 (by first | assumption | exact Dj.symm (by assumption))) | exact Cells.upd (by assumption) hS1 (by simp)) (Ext.refl _) rfl | exact PV.load1 T.na26 rfl (by first | exact Cells.up (by assumption) (hBr.updL hS1 hl9) | exact Bx.cells (Bx.updD (by assumption) hS1 (by first | assumption | exact Dj.symm (by assumption))) | exact Cells.upd (by assumption) hS1 (by simp)) (Ext.refl _) rfl)) ?_
            refine HP.take rfl rfl rfl rfl hS (fun wS hS1 => (by first | exact PV.fieldAddr T.fl58_1 rfl (by first | assumption | exact Bx.cells (by assumption)) | exact PV.fieldAddrP T.fl58_1 rfl rfl)) ?_
            refine HP.take rfl rfl rfl rfl hS (fun wS hS1 => (by first | exact PV.load0 T.na26 rfl (by first | exact Cells.up (by assumption) (hBr.updL hS1 hl9) | exact Bx.cells (Bx.updD (by assumption) hS1 (by first | assumption | exact Dj.symm (by assumption))) | exact Cells.upd (by assumption) hS1 (by simp)) (Ext.refl _) rfl | exact PV.load1 T.na26 rfl (by first | exact Cells.up (by assumption) (hBr.updL hS1 hl9) | exact Bx.cells (Bx.updD (by assumption) hS1 (by first | assumption | exact Dj.symm (by assumption))) | exact Cells.upd (by assumption) hS1 (by simp)) (Ext.refl _) rfl)) ?_
            refine HP.take rfl rfl rfl rfl hS (fun wS hS1 => PV.move rfl) ?_
            refine HP.slRL (x := .tmp 58) (lo := .tmp 59) (E := EI) T.sl26 rfl rfl  (by first | assumption | exact Osl.rd (by assumption)) (by first | omega | (simp; omega) | (simp_all; omega)) (fun u2 huu2 hru2 => ?_)
            refine HP.take rfl rfl rfl rfl hS (fun wS hS1 => (huu2 _ _ _ _ _ _)) ?_
            refine HP.take rfl rfl rfl rfl hS (fun wS hS1 => (by first | exact PV.loadA T.ag58 rfl (by first | exact Cells.up (by assumption) (hBr.updL hS1 hl9) | exact Bx.cells (Bx.updD (by assumption) hS1 (by first | assumption | exact Dj.symm (by assumption))) | exact Cells.upd (by assumption) hS1 (by simp)) (Ext.refl _) rfl | exact PV.loadP (ds := [_, _, _, _]) T.ag58 rfl (by first | exact Cells.up (by assumption) (hBr.updL hS1 hl9) | exact Bx.cells (Bx.updD (by assumption) hS1 (by first | assumption | exact Dj.symm (by assumption))) | exact Cells.upd (by assumption) hS1 (by simp)) (Ext.refl _) rfl rfl)) ?_
            refine HP.take rfl rfl rfl rfl hS (fun wS hS1 => (by first | exact PV.loadA T.ag58 rfl (by first | exact Cells.up (by assumption) (hBr.updL hS1 hl9) | exact Bx.cells (Bx.updD (by assumption) hS1 (by first | assumption | exact Dj.symm (by assumption))) | exact Cells.upd (by assumption) hS1 (by simp)) (Ext.refl _) rfl | exact PV.loadP (ds := [_, _, _, _]) T.ag58 rfl (by first | exact Cells.up (by assumption) (hBr.updL hS1 hl9) | exact Bx.cells (Bx.updD (by assumption) hS1 (by first | assumption | exact Dj.symm (by assumption))) | exact Cells.upd (by assumption) hS1 (by simp)) (Ext.refl _) rfl rfl)) ?_
            refine HP.must rfl rfl (OpK.buildS VV (os := [.tmp 56, .tmp 60]) [_, _] rfl T.sl28 rfl rfl T.zv26 rfl (by intro z hz; first | rfl | (simp only [List.mem_cons, List.not_mem_nil, or_false] at hz; rcases hz with hz | hz <;> subst hz <;> exact (by first | exact Rd.cells1 (by assumption) | exact Osl.cells1 (by assumption) | exact Osn.cells1 (by assumption) | exact Rd.cells1 (NL.rd (by assumption)) | exact Inn.cell1 (by assumption) (by omega) | rfl))) rfl (fun v11 g11 w9 hXw9 ho11 hge11 => ?_))
            have hl11 := Lo.new hB hge11
            have hd5_11 := Dj.new hb5.ltO hge11
            have hd8_11 := Dj.new hb8.ltO hge11
            have hd10_11 := DI.new hn10 hge11
            have hd9_11 := Dj.new ho9.ltO hge11
            have hk0_11 := OkN.new hU0 hge11
            have hg0_11 := OgR.new hU0.size hge11
            have hk1_11 := OkN.new hU1 hge11
            have hg1_11 := OgR.new hU1.size hge11
            have hk2_11 := OkN.new hU2 hge11
            have hg2_11 := OgR.new hU2.size hge11
            refine ⟨Upd.trans hS (Ext.toUpd hXw9), ?_⟩
            have hS := Upd.trans hS (Ext.toUpd hXw9)
            have hB := hB.trans hXw9
            have hb5 := hb5.up hXw9
            have hb8 := hb8.up hXw9
            have hn10 := hn10.up hXw9
            have ho9 := ho9.up hXw9
            have hU0 := hU0.ext hXw9
            have hU1 := hU1.ext hXw9
            have hU2 := hU2.ext hXw9
            refine HP.must rfl rfl (OpK.call rfl T.cf130 rfl (c_slices_Concat_int64_int64 (rdSl2 (by assumption) (by first | assumption | exact Rd.up (by assumption) hB) (by first | assumption | exact Rd.up (by assumption) hB)) (by simp only [List.flatten_cons, List.flatten_nil, List.append_nil, List.length_append, List.length_drop]; omega)) (fun rv1 w10 hR => ?_))
            obtain ⟨hXw10, v12, og12, rfl, ho12, hq12⟩ := hR
            have hl12 := Lo.up hq12 hB
            have hd5_12 := Dj.lo hb5.ltO hq12
            have hd8_12 := Dj.lo hb8.ltO hq12
            have hd10_12 := DI.fresh hn10 hq12
            have hd9_12 := Dj.lo ho9.ltO hq12
            have hd11_12 := Dj.lo ho11.ltO hq12
            have hk0_12 := OkN.lo hU0 hq12
            have hg0_12 := OgR.lo hU0.size hq12
            have hk1_12 := OkN.lo hU1 hq12
            have hg1_12 := OgR.lo hU1.size hq12
            have hk2_12 := OkN.lo hU2 hq12
            have hg2_12 := OgR.lo hU2.size hq12
            refine ⟨Upd.trans hS (Ext.toUpd hXw10), ?_⟩
            have hS := Upd.trans hS (Ext.toUpd hXw10)
            have hB := hB.trans hXw10
            have hb5 := hb5.up hXw10
            have hb8 := hb8.up hXw10
            have hn10 := hn10.up hXw10
            have ho9 := ho9.up hXw10
            have ho11 := ho11.up hXw10
            have hU0 := hU0.ext hXw10
            have hU1 := hU1.ext hXw10
            have hU2 := hU2.ext hXw10
            refine HP.take rfl rfl rfl rfl hS (fun wS hS1 => PV.build (ks := [0, 1, 2]) (os := [.tmp 62, .tmp 63, .tmp 64]) (css := [[_], [_, _, _, _], [_, _, _, _]]) (ds := [_, _, _, _, _, _, _, _, _]) T.bu108 rfl rfl ⟨(by first | exact Rd.cells1 (by assumption) | exact Osl.cells1 (by assumption) | exact Osn.cells1 (by assumption) | exact Rd.cells1 (NL.rd (by assumption)) | exact Inn.cell1 (by assumption) (by omega) | rfl), (by first | exact Rd.cells1 (by assumption) | exact Osl.cells1 (by assumption) | exact Osn.cells1 (by assumption) | exact Rd.cells1 (NL.rd (by assumption)) | exact Inn.cell1 (by assumption) (by omega) | rfl), (by first | exact Rd.cells1 (by assumption) | exact Osl.cells1 (by assumption) | exact Osn.cells1 (by assumption) | exact Rd.cells1 (NL.rd (by assumption)) | exact Inn.cell1 (by assumption) (by omega) | rfl), trivial⟩ rfl) ?_
            have hga13 := gO_agg (Osl.rd ho12) hqp1_0 hqp1_1 hqp1_2 hqp1_3 hqp2_0 hqp2_1 hqp2_2 hqp2_3
            refine HP.must rfl rfl (OpK.buildN (g := gO) (os := [.tmp 65]) [(shOf rv1, (shOf vqp1_0, shOf vqp1_1, shOf vqp1_2, shOf vqp1_3), (shOf vqp2_0, shOf vqp2_1, shOf vqp2_2, shOf vqp2_3))] gO_ok rfl T.sl105 rfl rfl T.zv108 (congrArg (fun z => some [z]) hga13) rfl (fun v13 g13 w11 hXw11 ho13 hge13 => ?_))
            have hl13 := Lo.new hB hge13
            have hd5_13 := Dj.new hb5.ltO hge13
            have hd8_13 := Dj.new hb8.ltO hge13
            have hd10_13 := DI.new hn10 hge13
            have hd9_13 := Dj.new ho9.ltO hge13
            have hd11_13 := Dj.new ho11.ltO hge13
            have hd12_13 := Dj.new ho12.ltO hge13
            have hk0_13 := OkN.new hU0 hge13
            have hg0_13 := OgR.new hU0.size hge13
            have hk1_13 := OkN.new hU1 hge13
            have hg1_13 := OgR.new hU1.size hge13
            have hk2_13 := OkN.new hU2 hge13
            have hg2_13 := OgR.new hU2.size hge13
            refine ⟨Upd.trans hS (Ext.toUpd hXw11), ?_⟩
            have hS := Upd.trans hS (Ext.toUpd hXw11)
            have hB := hB.trans hXw11
            have hb5 := hb5.up hXw11
            have hb8 := hb8.up hXw11
            have hn10 := hn10.up hXw11
            have ho9 := ho9.up hXw11
            have ho11 := ho11.up hXw11
            have ho12 := ho12.up hXw11
            have hU0 := hU0.ext hXw11
            have hU1 := hU1.ext hXw11
            have hU2 := hU2.ext hXw11
            refine HP.must rfl rfl (OpK.appendN (g := gO) rfl T.sl105 T.zv108 rfl rfl ho9 rfl (Osn.src ho13) (by first | (simp only [List.length_cons, List.length_nil]; omega) | (simp_all; omega)) (fun v14 og14 w12 hXw12 ho14 hap14 => ?_))
            have hn15 := innVE (Inn.put hn10 ho12 hd10_12) (fO_put (r := ((shOf vqp1_0, shOf vqp1_1, shOf vqp1_2, shOf vqp1_3), (shOf vqp2_0, shOf vqp2_1, shOf vqp2_2, shOf vqp2_3))) (Osl.rd ho12)) rfl
            have hl15 := LoI.put hl10 hl12
            have hz0_15 := BlR.put hz0_10 hg0_12
            have hz1_15 := BlR.put hz1_10 hg1_12
            have hz2_15 := BlR.put hz2_10 hg2_12
            have hd5_15 := DI.put hd5_10 (Dj.symm hd5_12)
            have hd8_15 := DI.put hd8_10 (Dj.symm hd8_12)
            have hd9_15 := DI.put hd9_10 (Dj.symm hd9_12)
            have hd11_15 := DI.put hd10_11 (Dj.symm hd11_12)
            have hd13_15 := DI.put hd10_13 hd12_13
            have hnp15 := hn15
            have hl14 := Lo.app hl9 hB hap14
            have hd5_14 := Dj.app hd5_9 hb5.ltO hap14
            have hd8_14 := Dj.app hd8_9 hb8.ltO hap14
            have hd11_14 := Dj.app (Dj.symm hd9_11) ho11.ltO hap14
            have hd13_14 := Dj.app (Dj.symm hd9_13) ho13.ltO hap14
            have hd14_15 := DI.app hd9_15 hn15 hap14
            have hk0_14 := OkN.app hU0 hk0_9 hap14
            have hg0_14 := OgR.app hg0_9 hU0.size hap14
            have hk1_14 := OkN.app hU1 hk1_9 hap14
            have hg1_14 := OgR.app hg1_9 hU1.size hap14
            have hk2_14 := OkN.app hU2 hk2_9 hap14
            have hg2_14 := OgR.app hg2_9 hU2.size hap14
            refine ⟨Upd.trans hS hXw12, ?_⟩
            have hS := Upd.trans hS hXw12
            have hB := hB.updL hXw12 hl9
            have hb5 := hb5.updD hXw12 hd5_9
            have hb8 := hb8.updD hXw12 hd8_9
            have ho11 := ho11.updD hXw12 (Dj.symm hd9_11)
            have ho13 := ho13.updD hXw12 (Dj.symm hd9_13)
            have hn15 := hn15.updD hXw12 hd9_15
            have hU0 := hU0.step hXw12 hk0_9
            have hU1 := hU1.step hXw12 hk1_9
            have hU2 := hU2.step hXw12 hk2_9
            refine HP.take rfl rfl rfl rfl hS (fun wS hS1 => PV.assign rfl) ?_
            refine HP.done ?_
            refine NQ.block ?_
            refine NQ.then ?_
            refine CW.reg ?_
            refine WL.pure rfl rfl rfl (PV.move rfl) ?_
            refine WL.pure rfl rfl rfl (PV.add rfl rfl (by constructor <;> omega)) ?_
            refine WL.pure rfl rfl rfl (PV.assign rfl) ?_
            refine WL.nil ?_
            refine NQ.next (ρ := [(3, _), (9, _)]) ⟨rfl, rfl, rfl, rfl, rfl, rfl, rfl, rfl, rfl, rfl, rfl, rfl, rfl, trivial⟩ ?_
            exact ⟨_, ⟨v14, og14, _, (os9 ++ [og12]), n + 1, rfl, rfl, hU2, ho14, (by first | exact hg2_14 | exact OgR.weak hg2_14), innE hn15 (by first | exact ovW_put hyes rfl (by simp [patL]) | (rw [← ovQ_no hnot])), (by first | exact hz2_15 | exact BlR.weak hz2_15), hd14_15, (by first | omega | assumption | (simp_all; done) | (simp_all; omega)), (by first | (rw [← ovQ_put hyes]; exact hC.put (fun b e hb => ⟨hqBp1 b e hb, hqBp2 b e hb⟩)) | (rw [← ovQ_no hnot]; exact hC))⟩, by omega⟩
          try simp only [decide_eq_true_eq, decide_eq_false_iff_not, Bool.not_eq_true', Bool.not_eq_false', Bool.not_eq_eq_eq_not, Bool.not_true, Bool.not_false, Int.not_lt, Int.not_le, Classical.not_not, beq_iff_eq, beq_eq_false_iff_ne] at hc5
          have hnot : ovP cs i j (n + 1) = false := hov.symm.trans (by assumption)
          refine CW.skip ?_
          refine NQ.block ?_
          refine NQ.then ?_
          refine CW.reg ?_
          refine WL.pure rfl rfl rfl (PV.move rfl) ?_
          refine WL.pure rfl rfl rfl (PV.add rfl rfl (by constructor <;> omega)) ?_
          refine WL.pure rfl rfl rfl (PV.assign rfl) ?_
          refine WL.nil ?_
          refine NQ.next (ρ := [(3, _), (9, _)]) ⟨rfl, rfl, rfl, rfl, rfl, rfl, rfl, rfl, rfl, rfl, rfl, rfl, rfl, trivial⟩ ?_
          exact ⟨_, ⟨v9, og9, _, os9, n + 1, rfl, rfl, hU2, ho9, (by first | exact hg2_9 | exact OgR.weak hg2_9), innE hn10 (by first | exact ovW_put hyes rfl (by simp [patL]) | (rw [← ovQ_no hnot])), (by first | exact hz2_10 | exact BlR.weak hz2_10), hd9_10, (by first | omega | assumption | (simp_all; done) | (simp_all; omega)), (by first | (rw [← ovQ_put hyes]; exact hC.put (fun b e hb => ⟨hqBp1 b e hb, hqBp2 b e hb⟩)) | (rw [← ovQ_no hnot]; exact hC))⟩, by omega⟩
        try simp only [decide_eq_true_eq, decide_eq_false_iff_not, Bool.not_eq_true', Bool.not_eq_false', Bool.not_eq_eq_eq_not, Bool.not_true, Bool.not_false, Int.not_lt, Int.not_le, Classical.not_not, beq_iff_eq, beq_eq_false_iff_ne] at hc4
        refine CW.exit ?_
        refine XQ.then ?_
        refine XQ.then ?_
        refine XQ.here ?_
        refine NQ.block ?_
        refine NQ.then ?_
        refine CW.reg ?_
        refine WL.pure rfl rfl rfl (PV.add rfl rfl (by constructor <;> omega)) ?_
        refine WL.pure rfl rfl rfl (PV.move rfl) ?_
        refine WL.nil ?_
        refine NQ.next (ρ := [(3, _), (20, _)]) ⟨rfl, rfl, rfl, rfl, rfl, rfl, rfl, rfl, rfl, rfl, trivial⟩ ?_
        exact ⟨_, ⟨v9, og9, _, os9, j + 1, rfl, rfl, hU1, ho9, (by first | exact hg1_9 | exact OgR.weak hg1_9), innE hn10 (by rw [← ovQ_next (n := n) (by omega)]), (by first | exact hz1_10 | exact BlR.weak hz1_10), hd9_10, (by first | omega | assumption | (simp_all; done) | (simp_all; omega)), (by rw [← ovQ_next (n := n) (by omega)]; exact hC)⟩, by omega⟩
      try simp only [decide_eq_true_eq, decide_eq_false_iff_not, Bool.not_eq_true', Bool.not_eq_false', Bool.not_eq_eq_eq_not, Bool.not_true, Bool.not_false, Int.not_lt, Int.not_le, Classical.not_not, beq_iff_eq, beq_eq_false_iff_ne] at hc3
      have hmo := mostN_ne (cs := cs) (i := i) (j := j) (by omega); unfold patL at hmo
      refine CW.skipS ?_
      refine CW.seq ?_
      refine CW.reg ?_
      refine WL.pure rfl rfl rfl (PV.assign rfl) ?_
      refine WL.nilS ?_
      refine CW.block ?_
      have hlt5 := hb5.ltO
      have hlt7 := hn7.ltO
      have hlt6 := ho6.ltO
      have hlt8 := hb8.ltO
      refine CW.loop (σk := [(0, _), (4, _), (5, _), (7, _), (8, _), (11, _), (12, _), (13, _), (18, _), (19, _), (20, _)]) (fun ρ wz m => ∃ (v16 : Value) (og16 : Option Nat) (vs16 : List O9) (os16 : List (Option Nat)) (n : Nat), ρ = [(3, v16), (9, .int .i64 ((n + 1 : Nat) : Int))] ∧ m = mostN cs i j - n ∧ UpdL [og6] w5 wz ∧ Osn 9 gO wz og16 v16 (vs16) ∧ OgR w5 og6 og16 ∧ Inn wz os16 (vs16.map fO) ((ovQ cs i j n).map (ovW cs)) ∧ BlR w5 os6 os16 ∧ DI os16 og16 ∧ (n ≤ mostN cs i j) ∧ (CO w va cs vs16 (ovQ cs i j n))) (ρ₀ := [(3, _), (9, _)]) (m₀ := _) ⟨rfl, rfl, rfl, rfl, rfl, rfl, rfl, rfl, rfl, rfl, rfl, rfl, rfl, trivial⟩ ⟨v6, og6, _, os6, 0, rfl, rfl, (UpdL.refl _ _), ho6, OgR.refl _ _, innE hn7 (by rw [← ovQ_zero3]), BlR.refl _ _, hd6_7, (by first | omega | rfl | (simp; done) | assumption | (simp_all; done)), (by rw [← ovQ_zero3]; exact hC)⟩ ?_
      rintro _ wl4 _ ⟨v16, og16, vs16, os16, n, rfl, rfl, hU2, ho16, ha16, hn17, hy17, hd16_17, hn, hC⟩
      have hU0 := hU0.trans hU2 ⟨hk0_6, trivial⟩
      have hU1 := hU1.trans hU2 ⟨hk1_6, trivial⟩
      have hb5 := hb5.loop hU2 ⟨hd5_6, trivial⟩
      have hb8 := hb8.loop hU2 ⟨(Dj.symm hd6_8), trivial⟩
      have hl16 := Lo.ogr hl6 hB ha16
      have hg2_16 := ha16
      have hk2_16 : OkB [og6] w5 og16 := OkB.ogr (OkB.mem (by simp)) (Nat.le_refl _) ha16
      have hk0_16 := OkB.ogr hk0_6 (by first | assumption | exact UpdL.size (by assumption)) ha16
      have hg0_16 := OgR.trans hg0_6 (by first | assumption | exact UpdL.size (by assumption)) ha16
      have hk1_16 := OkB.ogr hk1_6 (by first | assumption | exact UpdL.size (by assumption)) ha16
      have hg1_16 := OgR.trans hg1_6 (by first | assumption | exact UpdL.size (by assumption)) ha16
      have hd5_16 := Dj.ogr hd5_6 hlt5 ha16
      have hd8_16 := Dj.ogr (Dj.symm hd6_8) hlt8 ha16
      have hBpre2 := hB
      have hB := hB.loop hU2 ⟨hl6, trivial⟩
      have hlv17 := hn17.lv
      have hd5_17 := DI.blr hd5_7 hlt5 hy17
      have hd8_17 := DI.blr hd7_8 hlt8 hy17
      have hz2_17 := hy17
      have hz0_17 := BlR.trans hz0_7 (by first | assumption | exact UpdL.size (by assumption)) hy17
      have hz1_17 := BlR.trans hz1_7 (by first | assumption | exact UpdL.size (by assumption)) hy17
      have hl17 := LoI.blr hl7 hBpre2 hy17
      have hq300 := ovQ_300 (n := n) h8 hoks (show i ≤ cs.length by omega) (show j ≤ cs.length by omega) hn
      refine CW.seq ?_
      refine CW.seq ?_
      refine CW.reg ?_
      refine WL.pure rfl rfl rfl (PV.move rfl) ?_
      refine WL.pure rfl rfl rfl (PV.move rfl) ?_
      refine WL.pure rfl rfl rfl (PV.leq rfl rfl) ?_
      refine WL.nilS ?_
      refine CW.cond rfl (fun hc6 => ?_) (fun hc6 => ?_)
      · skip
        try simp only [decide_eq_true_eq, decide_eq_false_iff_not, Bool.not_eq_true', Bool.not_eq_false', Bool.not_eq_eq_eq_not, Bool.not_true, Bool.not_false, Int.not_lt, Int.not_le, Classical.not_not, beq_iff_eq, beq_eq_false_iff_ne] at hc6
        refine CW.skipS ?_
        refine CW.seq ?_
        refine CW.block ?_
        refine CW.seq ?_
        refine CW.draw T.mixed (by kernel_rfl) (fun _ _ _ _ _ h => h) (fun w8 w9 => Upd none w8 w9) 12 (.take 0 (.take 1 (.take 2 (.take 3 (.take 4 (.take 5 (.take 6 (.take 7 (.take 8 (.take 9 (.take 10 (.must 11 .done)))))))))))) (by kernel_rfl) (fun w13 hXd => ?_)
        have hB := hB.trans hXd
        have hb5 := hb5.up hXd
        have hb8 := hb8.up hXd
        have hn17 := hn17.up hXd
        have ho16 := ho16.up hXd
        have hU0 := hU0.ext hXd
        have hU1 := hU1.ext hXd
        have hU2 := hU2.ext hXd
        have hBr := hB
        have hS : Upd none w13 w13 := Ext.toUpd (Ext.refl _)
        have hmr := mostN_rng cs i j; have hmr1 : mostN cs i j ≤ (cs.getD i d4).2.1.length := hmr.1; have hmr2 : mostN cs i j ≤ (cs.getD j d4).2.1.length := hmr.2; have hov := ovP_there (cs := cs) (i := i) (j := j) (k := n + 1) (by omega) (by omega)
        refine HP.take rfl rfl rfl rfl hS (fun wS hS1 => (by first | exact PV.fieldAddr T.fl58_1 rfl (by first | assumption | exact Bx.cells (by assumption)) | exact PV.fieldAddrP T.fl58_1 rfl rfl)) ?_
        refine HP.take rfl rfl rfl rfl hS (fun wS hS1 => (by first | exact PV.load0 T.na26 rfl (by first | exact Cells.up (by assumption) (hBr.trans hS1) | exact Bx.cells (Bx.updD (by assumption) hS1 (Dj.nlR _)) | exact Cells.upd (by assumption) hS1 (by simp)) (Ext.refl _) rfl | exact PV.load1 T.na26 rfl (by first | exact Cells.up (by assumption) (hBr.trans hS1) | exact Bx.cells (Bx.updD (by assumption) hS1 (Dj.nlR _)) | exact Cells.upd (by assumption) hS1 (by simp)) (Ext.refl _) rfl)) ?_
        refine HP.take rfl rfl rfl rfl hS (fun wS hS1 => (by first | exact PV.fieldAddr T.fl58_1 rfl (by first | assumption | exact Bx.cells (by assumption)) | exact PV.fieldAddrP T.fl58_1 rfl rfl)) ?_
        refine HP.take rfl rfl rfl rfl hS (fun wS hS1 => (by first | exact PV.load0 T.na26 rfl (by first | exact Cells.up (by assumption) (hBr.trans hS1) | exact Bx.cells (Bx.updD (by assumption) hS1 (Dj.nlR _)) | exact Cells.upd (by assumption) hS1 (by simp)) (Ext.refl _) rfl | exact PV.load1 T.na26 rfl (by first | exact Cells.up (by assumption) (hBr.trans hS1) | exact Bx.cells (Bx.updD (by assumption) hS1 (Dj.nlR _)) | exact Cells.upd (by assumption) hS1 (by simp)) (Ext.refl _) rfl)) ?_
        refine HP.take rfl rfl rfl rfl hS (fun wS hS1 => (by first | exact PV.len rfl (by assumption) T.sl26 | exact PV.lenOs rfl (by assumption) T.sl26 | exact PV.len rfl (NL.rd (by assumption)) T.sl26 | exact PV.len rfl (Inn.rd (by assumption) (by omega)) T.sl26)) ?_
        refine HP.take rfl rfl rfl rfl hS (fun wS hS1 => PV.move rfl) ?_
        refine HP.take rfl rfl rfl rfl hS (fun wS hS1 => PV.sub rfl rfl (by constructor <;> omega)) ?_
        refine HP.take rfl rfl rfl rfl hS (fun wS hS1 => (by first | exact PV.fieldAddr T.fl58_1 rfl (by first | assumption | exact Bx.cells (by assumption)) | exact PV.fieldAddrP T.fl58_1 rfl rfl)) ?_
        refine HP.take rfl rfl rfl rfl hS (fun wS hS1 => (by first | exact PV.load0 T.na26 rfl (by first | exact Cells.up (by assumption) (hBr.trans hS1) | exact Bx.cells (Bx.updD (by assumption) hS1 (Dj.nlR _)) | exact Cells.upd (by assumption) hS1 (by simp)) (Ext.refl _) rfl | exact PV.load1 T.na26 rfl (by first | exact Cells.up (by assumption) (hBr.trans hS1) | exact Bx.cells (Bx.updD (by assumption) hS1 (Dj.nlR _)) | exact Cells.upd (by assumption) hS1 (by simp)) (Ext.refl _) rfl)) ?_
        refine HP.take rfl rfl rfl rfl hS (fun wS hS1 => PV.move rfl) ?_
        refine HP.slRH (x := .tmp 50) (hi := .tmp 51) (E := EI) T.sl26 rfl rfl  (by first | assumption | exact Osl.rd (by assumption)) (by first | omega | (simp; omega) | (simp_all; omega)) (fun u3 huu3 hru3 => ?_)
        refine HP.take rfl rfl rfl rfl hS (fun wS hS1 => (huu3 _ _ _ _ _ _)) ?_
        refine HP.must rfl rfl (OpK.callR rfl T.cf129 rfl (c_impl_hasAt (by first | assumption | exact Rd.up (by assumption) hB | exact Osl.rd (by assumption) | exact Osn.rdR (by assumption) | exact NL.rd (by assumption) | exact rdII (by assumption) (by assumption) | exact Inn.rd (by assumption) (by omega)) (by first | assumption | exact Rd.up (by assumption) hB | exact Osl.rd (by assumption) | exact Osn.rdR (by assumption) | exact NL.rd (by assumption) | exact rdII (by assumption) (by assumption) | exact Inn.rd (by assumption) (by omega)) (by first | assumption | omega | (simp only [marks_len, marksB_len, marksR_len, sumL_marksS, List.length_take]; omega)) (by first | assumption | omega | (simp only [marks_len, marksB_len, marksR_len, sumL_marksS, List.length_take]; omega))) (fun w14 hXw14 => ?_))
        refine ⟨Upd.trans hS hXw14, ?_⟩
        have hS := Upd.trans hS hXw14
        have hB := hB.trans hXw14
        have hb5 := hb5.up hXw14
        have hb8 := hb8.up hXw14
        have hn17 := hn17.up hXw14
        have ho16 := ho16.up hXw14
        have hU0 := hU0.ext hXw14
        have hU1 := hU1.ext hXw14
        have hU2 := hU2.ext hXw14
        refine HP.doneS ?_
        refine CW.cond rfl (fun hc7 => ?_) (fun hc7 => ?_)
        · skip
          try simp only [decide_eq_true_eq, decide_eq_false_iff_not, Bool.not_eq_true', Bool.not_eq_false', Bool.not_eq_eq_eq_not, Bool.not_true, Bool.not_false, Int.not_lt, Int.not_le, Classical.not_not, beq_iff_eq, beq_eq_false_iff_ne] at hc7
          have hyes : ovP cs i j (n + 1) = true := hov.symm.trans (by assumption)
          refine CW.draw T.mixed (by kernel_rfl) (fun _ _ _ _ _ h => h) (fun w8 w9 => Upd og16 w8 w9) 15 (.take 0 (.take 1 (.take 2 (.take 3 (.take 4 (.take 5 (.take 6 (.take 9 (.take 10 (.must 7 (.must 8 (.take 11 (.must 12 (.must 13 (.take 14 .done))))))))))))))) (by kernel_rfl) (fun w15 hXd => ?_)
          have hB := hB.trans hXd
          have hb5 := hb5.up hXd
          have hb8 := hb8.up hXd
          have hn17 := hn17.up hXd
          have ho16 := ho16.up hXd
          have hU0 := hU0.ext hXd
          have hU1 := hU1.ext hXd
          have hU2 := hU2.ext hXd
          have hBr := hB
          have hS : Upd og16 w15 w15 := Ext.toUpd (Ext.refl _)
          refine HP.take rfl rfl rfl rfl hS (fun wS hS1 => PV.move rfl) ?_
          refine HP.take rfl rfl rfl rfl hS (fun wS hS1 => (by first | exact PV.fieldAddr T.fl58_1 rfl (by first | assumption | exact Bx.cells (by assumption)) | exact PV.fieldAddrP T.fl58_1 rfl rfl)) ?_
          refine HP.take rfl rfl rfl rfl hS (fun wS hS1 => (by first | exact PV.load0 T.na26 rfl (by first | exact Cells.up (by assumption) (hBr.updL hS1 hl16) | exact Bx.cells (Bx.updD (by assumption) hS1 (by first | assumption | exact Dj.symm (by assumption))) | exact Cells.upd (by assumption) hS1 (by simp)) (Ext.refl _) rfl | exact PV.load1 T.na26 rfl (by first | exact Cells.up (by assumption) (hBr.updL hS1 hl16) | exact Bx.cells (Bx.updD (by assumption) hS1 (by first | assumption | exact Dj.symm (by assumption))) | exact Cells.upd (by assumption) hS1 (by simp)) (Ext.refl _) rfl)) ?_
          refine HP.take rfl rfl rfl rfl hS (fun wS hS1 => (by first | exact PV.fieldAddr T.fl58_1 rfl (by first | assumption | exact Bx.cells (by assumption)) | exact PV.fieldAddrP T.fl58_1 rfl rfl)) ?_
          refine HP.take rfl rfl rfl rfl hS (fun wS hS1 => (by first | exact PV.load0 T.na26 rfl (by first | exact Cells.up (by assumption) (hBr.updL hS1 hl16) | exact Bx.cells (Bx.updD (by assumption) hS1 (by first | assumption | exact Dj.symm (by assumption))) | exact Cells.upd (by assumption) hS1 (by simp)) (Ext.refl _) rfl | exact PV.load1 T.na26 rfl (by first | exact Cells.up (by assumption) (hBr.updL hS1 hl16) | exact Bx.cells (Bx.updD (by assumption) hS1 (by first | assumption | exact Dj.symm (by assumption))) | exact Cells.upd (by assumption) hS1 (by simp)) (Ext.refl _) rfl)) ?_
          refine HP.take rfl rfl rfl rfl hS (fun wS hS1 => PV.move rfl) ?_
          refine HP.slRL (x := .tmp 58) (lo := .tmp 59) (E := EI) T.sl26 rfl rfl  (by first | assumption | exact Osl.rd (by assumption)) (by first | omega | (simp; omega) | (simp_all; omega)) (fun u4 huu4 hru4 => ?_)
          refine HP.take rfl rfl rfl rfl hS (fun wS hS1 => (huu4 _ _ _ _ _ _)) ?_
          refine HP.take rfl rfl rfl rfl hS (fun wS hS1 => (by first | exact PV.loadA T.ag58 rfl (by first | exact Cells.up (by assumption) (hBr.updL hS1 hl16) | exact Bx.cells (Bx.updD (by assumption) hS1 (by first | assumption | exact Dj.symm (by assumption))) | exact Cells.upd (by assumption) hS1 (by simp)) (Ext.refl _) rfl | exact PV.loadP (ds := [_, _, _, _]) T.ag58 rfl (by first | exact Cells.up (by assumption) (hBr.updL hS1 hl16) | exact Bx.cells (Bx.updD (by assumption) hS1 (by first | assumption | exact Dj.symm (by assumption))) | exact Cells.upd (by assumption) hS1 (by simp)) (Ext.refl _) rfl rfl)) ?_
          refine HP.take rfl rfl rfl rfl hS (fun wS hS1 => (by first | exact PV.loadA T.ag58 rfl (by first | exact Cells.up (by assumption) (hBr.updL hS1 hl16) | exact Bx.cells (Bx.updD (by assumption) hS1 (by first | assumption | exact Dj.symm (by assumption))) | exact Cells.upd (by assumption) hS1 (by simp)) (Ext.refl _) rfl | exact PV.loadP (ds := [_, _, _, _]) T.ag58 rfl (by first | exact Cells.up (by assumption) (hBr.updL hS1 hl16) | exact Bx.cells (Bx.updD (by assumption) hS1 (by first | assumption | exact Dj.symm (by assumption))) | exact Cells.upd (by assumption) hS1 (by simp)) (Ext.refl _) rfl rfl)) ?_
          refine HP.must rfl rfl (OpK.buildS VV (os := [.tmp 56, .tmp 60]) [_, _] rfl T.sl28 rfl rfl T.zv26 rfl (by intro z hz; first | rfl | (simp only [List.mem_cons, List.not_mem_nil, or_false] at hz; rcases hz with hz | hz <;> subst hz <;> exact (by first | exact Rd.cells1 (by assumption) | exact Osl.cells1 (by assumption) | exact Osn.cells1 (by assumption) | exact Rd.cells1 (NL.rd (by assumption)) | exact Inn.cell1 (by assumption) (by omega) | rfl))) rfl (fun v18 g18 w16 hXw16 ho18 hge18 => ?_))
          have hl18 := Lo.new hB hge18
          have hd5_18 := Dj.new hb5.ltO hge18
          have hd8_18 := Dj.new hb8.ltO hge18
          have hd17_18 := DI.new hn17 hge18
          have hd16_18 := Dj.new ho16.ltO hge18
          have hk0_18 := OkN.new hU0 hge18
          have hg0_18 := OgR.new hU0.size hge18
          have hk1_18 := OkN.new hU1 hge18
          have hg1_18 := OgR.new hU1.size hge18
          have hk2_18 := OkN.new hU2 hge18
          have hg2_18 := OgR.new hU2.size hge18
          refine ⟨Upd.trans hS (Ext.toUpd hXw16), ?_⟩
          have hS := Upd.trans hS (Ext.toUpd hXw16)
          have hB := hB.trans hXw16
          have hb5 := hb5.up hXw16
          have hb8 := hb8.up hXw16
          have hn17 := hn17.up hXw16
          have ho16 := ho16.up hXw16
          have hU0 := hU0.ext hXw16
          have hU1 := hU1.ext hXw16
          have hU2 := hU2.ext hXw16
          refine HP.must rfl rfl (OpK.call rfl T.cf130 rfl (c_slices_Concat_int64_int64 (rdSl2 (by assumption) (by first | assumption | exact Rd.up (by assumption) hB) (by first | assumption | exact Rd.up (by assumption) hB)) (by simp only [List.flatten_cons, List.flatten_nil, List.append_nil, List.length_append, List.length_drop]; omega)) (fun rv2 w17 hR => ?_))
          obtain ⟨hXw17, v19, og19, rfl, ho19, hq19⟩ := hR
          have hl19 := Lo.up hq19 hB
          have hd5_19 := Dj.lo hb5.ltO hq19
          have hd8_19 := Dj.lo hb8.ltO hq19
          have hd17_19 := DI.fresh hn17 hq19
          have hd16_19 := Dj.lo ho16.ltO hq19
          have hd18_19 := Dj.lo ho18.ltO hq19
          have hk0_19 := OkN.lo hU0 hq19
          have hg0_19 := OgR.lo hU0.size hq19
          have hk1_19 := OkN.lo hU1 hq19
          have hg1_19 := OgR.lo hU1.size hq19
          have hk2_19 := OkN.lo hU2 hq19
          have hg2_19 := OgR.lo hU2.size hq19
          refine ⟨Upd.trans hS (Ext.toUpd hXw17), ?_⟩
          have hS := Upd.trans hS (Ext.toUpd hXw17)
          have hB := hB.trans hXw17
          have hb5 := hb5.up hXw17
          have hb8 := hb8.up hXw17
          have hn17 := hn17.up hXw17
          have ho16 := ho16.up hXw17
          have ho18 := ho18.up hXw17
          have hU0 := hU0.ext hXw17
          have hU1 := hU1.ext hXw17
          have hU2 := hU2.ext hXw17
          refine HP.take rfl rfl rfl rfl hS (fun wS hS1 => PV.build (ks := [0, 1, 2]) (os := [.tmp 62, .tmp 63, .tmp 64]) (css := [[_], [_, _, _, _], [_, _, _, _]]) (ds := [_, _, _, _, _, _, _, _, _]) T.bu108 rfl rfl ⟨(by first | exact Rd.cells1 (by assumption) | exact Osl.cells1 (by assumption) | exact Osn.cells1 (by assumption) | exact Rd.cells1 (NL.rd (by assumption)) | exact Inn.cell1 (by assumption) (by omega) | rfl), (by first | exact Rd.cells1 (by assumption) | exact Osl.cells1 (by assumption) | exact Osn.cells1 (by assumption) | exact Rd.cells1 (NL.rd (by assumption)) | exact Inn.cell1 (by assumption) (by omega) | rfl), (by first | exact Rd.cells1 (by assumption) | exact Osl.cells1 (by assumption) | exact Osn.cells1 (by assumption) | exact Rd.cells1 (NL.rd (by assumption)) | exact Inn.cell1 (by assumption) (by omega) | rfl), trivial⟩ rfl) ?_
          have hga20 := gO_agg (Osl.rd ho19) hqp1_0 hqp1_1 hqp1_2 hqp1_3 hqp2_0 hqp2_1 hqp2_2 hqp2_3
          refine HP.must rfl rfl (OpK.buildN (g := gO) (os := [.tmp 65]) [(shOf rv2, (shOf vqp1_0, shOf vqp1_1, shOf vqp1_2, shOf vqp1_3), (shOf vqp2_0, shOf vqp2_1, shOf vqp2_2, shOf vqp2_3))] gO_ok rfl T.sl105 rfl rfl T.zv108 (congrArg (fun z => some [z]) hga20) rfl (fun v20 g20 w18 hXw18 ho20 hge20 => ?_))
          have hl20 := Lo.new hB hge20
          have hd5_20 := Dj.new hb5.ltO hge20
          have hd8_20 := Dj.new hb8.ltO hge20
          have hd17_20 := DI.new hn17 hge20
          have hd16_20 := Dj.new ho16.ltO hge20
          have hd18_20 := Dj.new ho18.ltO hge20
          have hd19_20 := Dj.new ho19.ltO hge20
          have hk0_20 := OkN.new hU0 hge20
          have hg0_20 := OgR.new hU0.size hge20
          have hk1_20 := OkN.new hU1 hge20
          have hg1_20 := OgR.new hU1.size hge20
          have hk2_20 := OkN.new hU2 hge20
          have hg2_20 := OgR.new hU2.size hge20
          refine ⟨Upd.trans hS (Ext.toUpd hXw18), ?_⟩
          have hS := Upd.trans hS (Ext.toUpd hXw18)
          have hB := hB.trans hXw18
          have hb5 := hb5.up hXw18
          have hb8 := hb8.up hXw18
          have hn17 := hn17.up hXw18
          have ho16 := ho16.up hXw18
          have ho18 := ho18.up hXw18
          have ho19 := ho19.up hXw18
          have hU0 := hU0.ext hXw18
          have hU1 := hU1.ext hXw18
          have hU2 := hU2.ext hXw18
          refine HP.must rfl rfl (OpK.appendN (g := gO) rfl T.sl105 T.zv108 rfl rfl ho16 rfl (Osn.src ho20) (by first | (simp only [List.length_cons, List.length_nil]; omega) | (simp_all; omega)) (fun v21 og21 w19 hXw19 ho21 hap21 => ?_))
          have hn22 := innVE (Inn.put hn17 ho19 hd17_19) (fO_put (r := ((shOf vqp1_0, shOf vqp1_1, shOf vqp1_2, shOf vqp1_3), (shOf vqp2_0, shOf vqp2_1, shOf vqp2_2, shOf vqp2_3))) (Osl.rd ho19)) rfl
          have hl22 := LoI.put hl17 hl19
          have hz0_22 := BlR.put hz0_17 hg0_19
          have hz1_22 := BlR.put hz1_17 hg1_19
          have hz2_22 := BlR.put hz2_17 hg2_19
          have hd5_22 := DI.put hd5_17 (Dj.symm hd5_19)
          have hd8_22 := DI.put hd8_17 (Dj.symm hd8_19)
          have hd16_22 := DI.put hd16_17 (Dj.symm hd16_19)
          have hd18_22 := DI.put hd17_18 (Dj.symm hd18_19)
          have hd20_22 := DI.put hd17_20 hd19_20
          have hnp22 := hn22
          have hl21 := Lo.app hl16 hB hap21
          have hd5_21 := Dj.app hd5_16 hb5.ltO hap21
          have hd8_21 := Dj.app hd8_16 hb8.ltO hap21
          have hd18_21 := Dj.app (Dj.symm hd16_18) ho18.ltO hap21
          have hd20_21 := Dj.app (Dj.symm hd16_20) ho20.ltO hap21
          have hd21_22 := DI.app hd16_22 hn22 hap21
          have hk0_21 := OkN.app hU0 hk0_16 hap21
          have hg0_21 := OgR.app hg0_16 hU0.size hap21
          have hk1_21 := OkN.app hU1 hk1_16 hap21
          have hg1_21 := OgR.app hg1_16 hU1.size hap21
          have hk2_21 := OkN.app hU2 hk2_16 hap21
          have hg2_21 := OgR.app hg2_16 hU2.size hap21
          refine ⟨Upd.trans hS hXw19, ?_⟩
          have hS := Upd.trans hS hXw19
          have hB := hB.updL hXw19 hl16
          have hb5 := hb5.updD hXw19 hd5_16
          have hb8 := hb8.updD hXw19 hd8_16
          have ho18 := ho18.updD hXw19 (Dj.symm hd16_18)
          have ho20 := ho20.updD hXw19 (Dj.symm hd16_20)
          have hn22 := hn22.updD hXw19 hd16_22
          have hU0 := hU0.step hXw19 hk0_16
          have hU1 := hU1.step hXw19 hk1_16
          have hU2 := hU2.step hXw19 hk2_16
          refine HP.take rfl rfl rfl rfl hS (fun wS hS1 => PV.assign rfl) ?_
          refine HP.done ?_
          refine NQ.block ?_
          refine NQ.then ?_
          refine CW.reg ?_
          refine WL.pure rfl rfl rfl (PV.move rfl) ?_
          refine WL.pure rfl rfl rfl (PV.add rfl rfl (by constructor <;> omega)) ?_
          refine WL.pure rfl rfl rfl (PV.assign rfl) ?_
          refine WL.nil ?_
          refine NQ.next (ρ := [(3, _), (9, _)]) ⟨rfl, rfl, rfl, rfl, rfl, rfl, rfl, rfl, rfl, rfl, rfl, rfl, rfl, trivial⟩ ?_
          exact ⟨_, ⟨v21, og21, _, (os16 ++ [og19]), n + 1, rfl, rfl, hU2, ho21, (by first | exact hg2_21 | exact OgR.weak hg2_21), innE hn22 (by first | exact ovW_put hyes rfl (by simp [patL]) | (rw [← ovQ_no hnot])), (by first | exact hz2_22 | exact BlR.weak hz2_22), hd21_22, (by first | omega | assumption | (simp_all; done) | (simp_all; omega)), (by first | (rw [← ovQ_put hyes]; exact hC.put (fun b e hb => ⟨hqBp1 b e hb, hqBp2 b e hb⟩)) | (rw [← ovQ_no hnot]; exact hC))⟩, by omega⟩
        try simp only [decide_eq_true_eq, decide_eq_false_iff_not, Bool.not_eq_true', Bool.not_eq_false', Bool.not_eq_eq_eq_not, Bool.not_true, Bool.not_false, Int.not_lt, Int.not_le, Classical.not_not, beq_iff_eq, beq_eq_false_iff_ne] at hc7
        have hnot : ovP cs i j (n + 1) = false := hov.symm.trans (by assumption)
        refine CW.skip ?_
        refine NQ.block ?_
        refine NQ.then ?_
        refine CW.reg ?_
        refine WL.pure rfl rfl rfl (PV.move rfl) ?_
        refine WL.pure rfl rfl rfl (PV.add rfl rfl (by constructor <;> omega)) ?_
        refine WL.pure rfl rfl rfl (PV.assign rfl) ?_
        refine WL.nil ?_
        refine NQ.next (ρ := [(3, _), (9, _)]) ⟨rfl, rfl, rfl, rfl, rfl, rfl, rfl, rfl, rfl, rfl, rfl, rfl, rfl, trivial⟩ ?_
        exact ⟨_, ⟨v16, og16, _, os16, n + 1, rfl, rfl, hU2, ho16, (by first | exact hg2_16 | exact OgR.weak hg2_16), innE hn17 (by first | exact ovW_put hyes rfl (by simp [patL]) | (rw [← ovQ_no hnot])), (by first | exact hz2_17 | exact BlR.weak hz2_17), hd16_17, (by first | omega | assumption | (simp_all; done) | (simp_all; omega)), (by first | (rw [← ovQ_put hyes]; exact hC.put (fun b e hb => ⟨hqBp1 b e hb, hqBp2 b e hb⟩)) | (rw [← ovQ_no hnot]; exact hC))⟩, by omega⟩
      try simp only [decide_eq_true_eq, decide_eq_false_iff_not, Bool.not_eq_true', Bool.not_eq_false', Bool.not_eq_eq_eq_not, Bool.not_true, Bool.not_false, Int.not_lt, Int.not_le, Classical.not_not, beq_iff_eq, beq_eq_false_iff_ne] at hc6
      refine CW.exit ?_
      refine XQ.then ?_
      refine XQ.then ?_
      refine XQ.here ?_
      refine NQ.block ?_
      refine NQ.then ?_
      refine CW.reg ?_
      refine WL.pure rfl rfl rfl (PV.add rfl rfl (by constructor <;> omega)) ?_
      refine WL.pure rfl rfl rfl (PV.move rfl) ?_
      refine WL.nil ?_
      refine NQ.next (ρ := [(3, _), (20, _)]) ⟨rfl, rfl, rfl, rfl, rfl, rfl, rfl, rfl, rfl, rfl, trivial⟩ ?_
      exact ⟨_, ⟨v16, og16, _, os16, j + 1, rfl, rfl, hU1, ho16, (by first | exact hg1_16 | exact OgR.weak hg1_16), innE hn17 (by rw [← ovQ_next (n := n) (by omega)]), (by first | exact hz1_17 | exact BlR.weak hz1_17), hd16_17, (by first | omega | assumption | (simp_all; done) | (simp_all; omega)), (by rw [← ovQ_next (n := n) (by omega)]; exact hC)⟩, by omega⟩
    try simp only [decide_eq_true_eq, decide_eq_false_iff_not, Bool.not_eq_true', Bool.not_eq_false', Bool.not_eq_eq_eq_not, Bool.not_true, Bool.not_false, Int.not_lt, Int.not_le, Classical.not_not, beq_iff_eq, beq_eq_false_iff_ne] at hc2
    refine CW.exit ?_
    refine XQ.then ?_
    refine XQ.then ?_
    refine XQ.here ?_
    refine NQ.block ?_
    refine NQ.then ?_
    refine CW.reg ?_
    refine WL.pure rfl rfl rfl (PV.add rfl rfl (by constructor <;> omega)) ?_
    refine WL.pure rfl rfl rfl (PV.move rfl) ?_
    refine WL.nil ?_
    refine NQ.next (ρ := [(3, _), (13, _)]) ⟨rfl, rfl, rfl, rfl, rfl, trivial⟩ ?_
    exact ⟨_, ⟨v6, og6, _, os6, i + 1, rfl, rfl, hU0, ho6, (by first | exact hg0_6 | exact OgR.weak hg0_6), innE hn7 (by rw [← ov1_next (i := i) (show j = cs.length by omega)]), (by first | exact hz0_7 | exact BlR.weak hz0_7), hd6_7, (by first | omega | assumption | (simp_all; done) | (simp_all; omega)), (by have e9 := ov1_next (i := i) (show j = cs.length by omega); rw [← e9]; exact hC)⟩, by omega⟩
  try simp only [decide_eq_true_eq, decide_eq_false_iff_not, Bool.not_eq_true', Bool.not_eq_false', Bool.not_eq_eq_eq_not, Bool.not_true, Bool.not_false, Int.not_lt, Int.not_le, Classical.not_not, beq_iff_eq, beq_eq_false_iff_ne] at hc1
  refine CW.exit ?_
  refine XQ.then ?_
  refine XQ.then ?_
  refine XQ.here ?_
  refine NQ.then ?_
  refine CW.seq ?_
  refine CW.reg ?_
  refine WL.pure rfl rfl rfl (PV.move rfl) ?_
  refine WL.pure rfl rfl rfl (PV.assign rfl) ?_
  refine WL.nilS ?_
  refine CW.ret ?_
  refine RQ.r1 rfl ?_
  obtain rfl : i = cs.length := (by omega); exact ⟨hB, _, _, _, _, rfl, hC, ho3, hl3, hn4, hl4, hd3_4⟩
theorem c_impl_Change_put {w : World} {uc0 uc1 uc2 uc3 : Value} {c : C4} {vw : Value} {xs : List Int} {a : Int} (hch0 : Rd EI w uc0 c.1) (hch1 : Rd EI w uc1 c.2.1) (hch2 : Rd EI w uc2 c.2.2.1) (hch3 : Rd EI w uc3 c.2.2.2) (hw : Rd EI w vw xs) (hok : okC c) (hwn : xs.length ≤ 10000) (hfa : 0 ≤ a ∧ a + c.2.1.length ≤ xs.length) : Calls Try.prog 96 #[.agg #[uc0, uc1, uc2, uc3], vw, .int .i64 a] w (Ret1 (fun v w' => Ext w w' ∧ ∃ u og_u, v = u ∧ Osl VI w' og_u u (putL c xs a) ∧ Lo w og_u)) := by
  have hB : Ext w w := Ext.refl w
  have hlc0 := hch0.leI; have hlc1 := hch1.leI; have hlc2 := hch2.leI; have hlc3 := hch3.leI; have hlw := hw.leI; have hok0 := hok.1; have hok1 := hok.2.1; have hok2 := hok.2.2.1; have hok3 := hok.2.2.2
  refine callsOf (vs := [_, _, _]) Try.func96 rfl Try.ntmps96 rfl rfl ?_
  refine CW.seq ?_
  refine CW.reg ?_
  refine WL.op rfl (OpK.box rfl rfl (by first | exact Rd.cells1 (by assumption) | exact Osl.cells1 (by assumption) | exact Osn.cells1 (by assumption) | exact Rd.cells1 (NL.rd (by assumption)) | exact Inn.cell1 (by assumption) (by omega) | rfl) (fun b1 w1 hXw1 hb1 hge1 => ?_))
  have hl1 := Lo.new hB hge1
  have hB := hB.trans hXw1
  refine WL.pure rfl rfl rfl (PV.assign rfl) ?_
  refine WL.nilS ?_
  refine CW.seq ?_
  refine CW.draw T.mixed (by kernel_rfl) (fun _ _ _ _ _ h => h) (fun w8 w9 => Upd none w8 w9) 15 (.take 0 (.take 1 (.take 2 (.take 3 (.take 4 (.take 5 (.take 6 (.take 7 (.take 8 (.take 9 (.take 10 (.take 11 (.must 12 (.must 13 (.take 14 .done))))))))))))))) (by kernel_rfl) (fun w2 hXd => ?_)
  have hB := hB.trans hXd
  have hb1 := hb1.up hXd
  have hBr := hB
  have hS : Upd none w2 w2 := Ext.toUpd (Ext.refl _)
  refine HP.take rfl rfl rfl rfl hS (fun wS hS1 => PV.move rfl) ?_
  refine HP.take rfl rfl rfl rfl hS (fun wS hS1 => PV.move rfl) ?_
  refine HP.slRH (x := .tmp 7) (hi := .tmp 8) (E := EI) T.sl26 rfl rfl  (by first | assumption | exact Osl.rd (by assumption)) (by first | omega | (simp; omega) | (simp_all; omega)) (fun u1 huu1 hru1 => ?_)
  refine HP.take rfl rfl rfl rfl hS (fun wS hS1 => (huu1 _ _ _ _ _ _)) ?_
  refine HP.take rfl rfl rfl rfl hS (fun wS hS1 => (by first | exact PV.fieldAddr T.fl58_2 rfl (by first | assumption | exact Bx.cells (by assumption)) | exact PV.fieldAddrP T.fl58_2 rfl rfl)) ?_
  refine HP.take rfl rfl rfl rfl hS (fun wS hS1 => (by first | exact PV.load0 T.na26 rfl (by first | exact Cells.up (by assumption) (hBr.trans hS1) | exact Bx.cells (Bx.updD (by assumption) hS1 (Dj.nlR _)) | exact Cells.upd (by assumption) hS1 (by simp)) (Ext.refl _) rfl | exact PV.load1 T.na26 rfl (by first | exact Cells.up (by assumption) (hBr.trans hS1) | exact Bx.cells (Bx.updD (by assumption) hS1 (Dj.nlR _)) | exact Cells.upd (by assumption) hS1 (by simp)) (Ext.refl _) rfl)) ?_
  refine HP.take rfl rfl rfl rfl hS (fun wS hS1 => PV.move rfl) ?_
  refine HP.take rfl rfl rfl rfl hS (fun wS hS1 => PV.move rfl) ?_
  refine HP.take rfl rfl rfl rfl hS (fun wS hS1 => (by first | exact PV.fieldAddr T.fl58_1 rfl (by first | assumption | exact Bx.cells (by assumption)) | exact PV.fieldAddrP T.fl58_1 rfl rfl)) ?_
  refine HP.take rfl rfl rfl rfl hS (fun wS hS1 => (by first | exact PV.load0 T.na26 rfl (by first | exact Cells.up (by assumption) (hBr.trans hS1) | exact Bx.cells (Bx.updD (by assumption) hS1 (Dj.nlR _)) | exact Cells.upd (by assumption) hS1 (by simp)) (Ext.refl _) rfl | exact PV.load1 T.na26 rfl (by first | exact Cells.up (by assumption) (hBr.trans hS1) | exact Bx.cells (Bx.updD (by assumption) hS1 (Dj.nlR _)) | exact Cells.upd (by assumption) hS1 (by simp)) (Ext.refl _) rfl)) ?_
  refine HP.take rfl rfl rfl rfl hS (fun wS hS1 => (by first | exact PV.len rfl (by assumption) T.sl26 | exact PV.lenOs rfl (by assumption) T.sl26 | exact PV.len rfl (NL.rd (by assumption)) T.sl26 | exact PV.len rfl (Inn.rd (by assumption) (by omega)) T.sl26)) ?_
  refine HP.take rfl rfl rfl rfl hS (fun wS hS1 => PV.add rfl rfl (by constructor <;> omega)) ?_
  refine HP.slRL (x := .tmp 12) (lo := .tmp 17) (E := EI) T.sl26 rfl rfl  (by first | assumption | exact Osl.rd (by assumption)) (by first | omega | (simp; omega) | (simp_all; omega)) (fun u2 huu2 hru2 => ?_)
  refine HP.take rfl rfl rfl rfl hS (fun wS hS1 => (huu2 _ _ _ _ _ _)) ?_
  refine HP.must rfl rfl (OpK.buildS VV (os := [.tmp 9, .tmp 11, .tmp 18]) [_, _, _] rfl T.sl28 rfl rfl T.zv26 rfl (by intro z hz; first | rfl | (simp only [List.mem_cons, List.not_mem_nil, or_false] at hz; rcases hz with hz | hz | hz <;> subst hz <;> exact (by first | exact Rd.cells1 (by assumption) | exact Osl.cells1 (by assumption) | exact Osn.cells1 (by assumption) | exact Rd.cells1 (NL.rd (by assumption)) | exact Inn.cell1 (by assumption) (by omega) | rfl))) rfl (fun v2 g2 w3 hXw3 ho2 hge2 => ?_))
  have hl2 := Lo.new hB hge2
  have hv2 := Lo.new hS hge2
  have hd1_2 := Dj.new hb1.ltO hge2
  refine ⟨Upd.trans hS hXw3, ?_⟩
  have hS := Upd.trans hS hXw3
  have hB := hB.trans hXw3
  have hb1 := hb1.up hXw3
  refine HP.must rfl rfl (OpK.call rfl T.cf130 rfl (c_slices_Concat_int64_int64 (rdSl3 (by assumption) (by first | assumption | exact Rd.up (by assumption) hB) (by first | assumption | exact Rd.up (by assumption) hB) (by first | assumption | exact Rd.up (by assumption) hB)) (by simp; omega)) (fun rv1 w4 hR => ?_))
  obtain ⟨hXw4, v3, og3, rfl, ho3, hq3⟩ := hR
  have hl3 := Lo.up hq3 hB
  have hv3 := Lo.up hq3 hS
  have hd1_3 := Dj.lo hb1.ltO hq3
  have hd2_3 := Dj.lo ho2.ltO hq3
  refine ⟨Upd.trans hS hXw4, ?_⟩
  have hS := Upd.trans hS hXw4
  have hB := hB.trans hXw4
  have hb1 := hb1.up hXw4
  have ho2 := ho2.up hXw4
  refine HP.take rfl rfl rfl rfl hS (fun wS hS1 => PV.assign rfl) ?_
  refine HP.doneS ?_
  refine CW.ret ?_
  refine RQ.r1 rfl ?_
  refine ⟨hB, rv1, og3, ?_, osE ho3 ?_, hl3⟩
  · skip
    rfl
  · skip
    simp [putL]
theorem c_slices_Clone_int64_int64 {w : World} {va : Value} {xs : List Int} (ha : Rd EI w va xs) (hN : xs.length ≤ 1048576) : Calls Try.prog 117 #[va] w (Ret1 (fun v w' => Ext w w' ∧ ∃ v1 og_v1, v = v1 ∧ Osl VI w' og_v1 v1 (xs) ∧ Lo w og_v1)) := by
  have hB : Ext w w := Ext.refl w
  have hla := ha.leI
  refine callsOf (vs := [_]) Try.func117 rfl Try.ntmps117 rfl rfl ?_
  refine CW.seq ?_
  refine CW.reg ?_
  refine WL.pure rfl rfl rfl (PV.assign rfl) ?_
  refine WL.nilS ?_
  refine CW.seq ?_
  refine CW.seq ?_
  refine CW.reg ?_
  refine WL.pure rfl rfl rfl (PV.move rfl) ?_
  refine WL.pure rfl rfl rfl ((by first | exact PV.eqlNil T.sl26 rfl (by assumption) rfl | exact PV.eqlNil T.sl26 rfl (Osl.rd (by assumption)) rfl)) ?_
  refine WL.nilS ?_
  refine CW.cond rfl (fun hc1 => ?_) (fun hc1 => ?_)
  · skip
    try simp only [decide_eq_true_eq, decide_eq_false_iff_not, Bool.not_eq_true', Bool.not_eq_false', Bool.not_eq_eq_eq_not, Bool.not_true, Bool.not_false, Int.not_lt, Int.not_le, Classical.not_not, beq_iff_eq, beq_eq_false_iff_ne] at hc1
    refine CW.seq ?_
    refine CW.reg ?_
    refine WL.pure rfl rfl rfl (PV.assign rfl) ?_
    refine WL.nilS ?_
    refine CW.ret ?_
    refine RQ.then ?_
    refine RQ.r1 rfl ?_
    refine ⟨hB, (.slice none 0 0), none, ?_, osE (Osl.nil _ _) ?_, Lo.nl _⟩
    · skip
      rfl
    · skip
      first | rfl | (simp; done) | exact ((Rd.nil_of ha (by assumption)).1).symm
  try simp only [decide_eq_true_eq, decide_eq_false_iff_not, Bool.not_eq_true', Bool.not_eq_false', Bool.not_eq_eq_eq_not, Bool.not_true, Bool.not_false, Int.not_lt, Int.not_le, Classical.not_not, beq_iff_eq, beq_eq_false_iff_ne] at hc1
  refine CW.skipS ?_
  refine CW.seq ?_
  refine CW.reg ?_
  refine WL.op rfl (OpK.buildS VI (os := []) [] rfl T.sl26 rfl rfl T.zv2 rfl (by intro z hz; cases hz) rfl (fun v1 g1 w1 hXw1 ho1 hge1 => ?_))
  have hl1 := Lo.new hB hge1
  have hB := hB.trans hXw1
  refine WL.pure rfl rfl rfl (PV.move rfl) ?_
  refine WL.op rfl (OpK.appendS (f := VI) rfl T.sl26 T.zv2 rfl rfl ho1 rfl (Rd.src (by first | assumption | exact Rd.up (by assumption) hB | exact Inn.rd (by assumption) (by omega)) (fun _ => rfl)) (by first | (simp only [List.length_cons, List.length_nil]; omega) | (simp_all; omega)) (fun v2 og2 w2 hXw2 ho2 hap2 => ?_))
  have hl2 := Lo.app hl1 hB hap2
  have hB := hB.updL hXw2 hl1
  refine WL.pure rfl rfl rfl (PV.assign rfl) ?_
  refine WL.nilS ?_
  refine CW.ret ?_
  refine RQ.r1 rfl ?_
  refine ⟨hB, v2, og2, ?_, osE ho2 ?_, hl2⟩
  · skip
    rfl
  · skip
    first | rfl | (simp; done) | exact ((Rd.nil_of ha (by assumption)).1).symm
theorem c_impl_long {w : World} {vw : Value} {xs : List Int}  (hw : Rd EI w vw xs) : Calls Try.prog 118 #[vw] w (Ret1 (fun v w' => Ext w w' ∧ (((xs.length ≤ 24) ∧ v = .tuple #[vw, .bool true]) ∨ ((¬ xs.length ≤ 24) ∧ v = .tuple #[.slice none 0 0, .bool false])))) := by
  have hB : Ext w w := Ext.refl w
  have hlw := hw.leI
  refine callsOf (vs := [_]) Try.func118 rfl Try.ntmps118 rfl rfl ?_
  refine CW.seq ?_
  refine CW.reg ?_
  refine WL.pure rfl rfl rfl (PV.assign rfl) ?_
  refine WL.pure rfl rfl rfl (PV.assign rfl) ?_
  refine WL.nilS ?_
  refine CW.seq ?_
  refine CW.seq ?_
  refine CW.reg ?_
  refine WL.pure rfl rfl rfl (PV.move rfl) ?_
  refine WL.pure rfl rfl rfl ((by first | exact PV.len rfl (by assumption) T.sl26 | exact PV.lenOs rfl (by assumption) T.sl26 | exact PV.len rfl (NL.rd (by assumption)) T.sl26 | exact PV.len rfl (Inn.rd (by assumption) (by omega)) T.sl26)) ?_
  refine WL.pure rfl rfl rfl (PV.gtr rfl rfl) ?_
  refine WL.nilS ?_
  refine CW.cond rfl (fun hc1 => ?_) (fun hc1 => ?_)
  · skip
    try simp only [decide_eq_true_eq, decide_eq_false_iff_not, Bool.not_eq_true', Bool.not_eq_false', Bool.not_eq_eq_eq_not, Bool.not_true, Bool.not_false, Int.not_lt, Int.not_le, Classical.not_not, beq_iff_eq, beq_eq_false_iff_ne] at hc1
    refine CW.seq ?_
    refine CW.reg ?_
    refine WL.pure rfl rfl rfl (PV.assign rfl) ?_
    refine WL.pure rfl rfl rfl (PV.assign rfl) ?_
    refine WL.nilS ?_
    refine CW.ret ?_
    refine RQ.then ?_
    refine RQ.r2 rfl rfl ?_
    first | exact ⟨hB, .inl ⟨by omega, rfl⟩⟩ | exact ⟨hB, .inr ⟨by omega, rfl⟩⟩
  try simp only [decide_eq_true_eq, decide_eq_false_iff_not, Bool.not_eq_true', Bool.not_eq_false', Bool.not_eq_eq_eq_not, Bool.not_true, Bool.not_false, Int.not_lt, Int.not_le, Classical.not_not, beq_iff_eq, beq_eq_false_iff_ne] at hc1
  refine CW.skipS ?_
  refine CW.seq ?_
  refine CW.reg ?_
  refine WL.pure rfl rfl rfl (PV.move rfl) ?_
  refine WL.pure rfl rfl rfl (PV.assign rfl) ?_
  refine WL.pure rfl rfl rfl (PV.assign rfl) ?_
  refine WL.nilS ?_
  refine CW.ret ?_
  refine RQ.r2 rfl rfl ?_
  first | exact ⟨hB, .inl ⟨by omega, rfl⟩⟩ | exact ⟨hB, .inr ⟨by omega, rfl⟩⟩
theorem c_impl_changeOften {w : World} {va : Value} {cs : List C4} {vw : Value} {xs : List Int} {mo : Int} (ha : Rd ECh w va cs) (hw : Rd EI w vw xs) (hx24 : xs.length ≤ 24) (hmo : 0 ≤ mo ∧ mo ≤ 200) (hoks : ∀ k : Nat, k < cs.length → okC (cs.getD k d4)) : Calls Try.prog 95 #[va, vw, .int .i64 mo] w (Ret1 (fun v w' => Ext w w' ∧ ∃ u og_u, v = .tuple #[u, .int .i64 (nT (normF cs mo.toNat xs)), .bool (nB (normF cs mo.toNat xs))] ∧ Osl VI w' og_u u (nL (normF cs mo.toNat xs)) ∧ Lo w og_u)) := by
  have hB : Ext w w := Ext.refl w
  have hla := ha.leI; have hlw := hw.leI
  refine callsOf (vs := [_, _, _]) Try.func95 rfl Try.ntmps95 rfl rfl ?_
  refine CW.seq ?_
  refine CW.reg ?_
  refine WL.op rfl (OpK.box rfl rfl (by first | exact Rd.cells1 (by assumption) | exact Osl.cells1 (by assumption) | exact Osn.cells1 (by assumption) | exact Rd.cells1 (NL.rd (by assumption)) | exact Inn.cell1 (by assumption) (by omega) | rfl) (fun b1 w1 hXw1 hb1 hge1 => ?_))
  have hl1 := Lo.new hB hge1
  have hB := hB.trans hXw1
  refine WL.pure rfl rfl rfl (PV.assign rfl) ?_
  refine WL.pure rfl rfl rfl (PV.assign rfl) ?_
  refine WL.pure rfl rfl rfl (PV.assign rfl) ?_
  refine WL.nilS ?_
  refine CW.seq ?_
  refine CW.reg ?_
  refine WL.pure rfl rfl rfl ((by first | exact PV.load0 T.na26 rfl (by first | exact Cells.up (by assumption) hB | exact Bx.cells (by assumption) | assumption) (Ext.refl _) rfl | exact PV.load1 T.na26 rfl (by first | exact Cells.up (by assumption) hB | exact Bx.cells (by assumption) | assumption) (Ext.refl _) rfl)) ?_
  refine WL.op rfl (OpK.call rfl T.cf117 rfl (c_slices_Clone_int64_int64 (by first | assumption | exact Rd.up (by assumption) hB | exact Osl.rd (by assumption) | exact Osn.rdR (by assumption) | exact NL.rd (by assumption) | exact rdII (by assumption) (by assumption) | exact Inn.rd (by assumption) (by omega)) (by first | assumption | omega | (simp only [marks_len, marksB_len, marksR_len, sumL_marksS, List.length_take]; omega))) (fun rv1 w2 hR => ?_))
  obtain ⟨hXw2, v2, og2, rfl, ho2, hq2⟩ := hR
  have hl2 := Lo.up hq2 hB
  have hd1_2 := Dj.lo hb1.ltO hq2
  have hB := hB.trans hXw2
  have hb1 := hb1.up hXw2
  first
    | refine WL.op rfl (OpK.storeB T.sz26 rfl rfl (by first | rfl | exact Inn.one1 (by assumption) (by omega) | exact Osl.oneCell (by assumption) | exact Osn.oneCell (by assumption) | exact Rd.oneCell (by assumption) | exact Rd.oneCell (NL.rd (by assumption)) | assumption) hb1 rfl (fun w3 hXw3 hb1 => ?_))
    | refine WL.op rfl (OpK.storeB0 T.sz26 rfl rfl (by first | rfl | exact Inn.one1 (by assumption) (by omega) | exact Osl.oneCell (by assumption) | exact Osn.oneCell (by assumption) | exact Rd.oneCell (by assumption) | exact Rd.oneCell (NL.rd (by assumption)) | assumption) hb1 (fun w3 hXw3 hb1 => ?_))
  have hB := hB.updL hXw3 hl1
  have ho2 := ho2.updD hXw3 (Dj.symm hd1_2)
  refine WL.nilS ?_
  refine CW.seq ?_
  refine CW.reg ?_
  refine WL.pure rfl rfl rfl (PV.assign rfl) ?_
  refine WL.nilS ?_
  refine CW.block ?_
  have hlt1 := hb1.ltO
  have hlt2 := ho2.ltO
  refine CW.loop (σk := [(0, _), (2, _), (4, _)]) (fun ρ wz m => ∃ (v3 : Value) (og3 : Option Nat) (t : Nat) (now : List Int), ρ = [(9, .int .i64 (t : Nat))] ∧ m = mo.toNat + 1 - t ∧ UpdL [og2, (some b1.block)] w3 wz ∧ Osl VI wz og3 v3 (now) ∧ OgR w3 og2 og3 ∧ Bx wz b1 [v3] ∧ (NrR cs mo.toNat xs now t) ∧ (now.length ≤ 24)) (ρ₀ := [(9, _)]) (m₀ := _) ⟨rfl, rfl, rfl, rfl, trivial⟩ ⟨rv1, og2, 0, _, rfl, rfl, (UpdL.refl _ _), osE ho2 (by rfl), OgR.refl _ _, bxE hb1 (by rfl), (by exact NrR.zero _ _ _), (by first | omega | rfl | (simp; done) | assumption | (simp_all; done))⟩ ?_
  rintro _ wl1 _ ⟨v3, og3, t, now, rfl, rfl, hU0, ho3, ha3, hb1, hN, hn24⟩
  have hl3 := Lo.ogr hl2 hB ha3
  have hg0_3 := ha3
  have hk0_3 : OkB [og2, (some b1.block)] w3 og3 := OkB.ogr (OkB.mem (by simp)) (Nat.le_refl _) ha3
  have hd1_3 := Dj.ogr hd1_2 hlt1 ha3
  have hk0_1 : OkB [og2, (some b1.block)] w3 (some b1.block) := OkB.mem (by simp)
  have hB := hB.loop hU0 ⟨hl2, hl1, trivial⟩
  have htm := hN.1
  refine CW.seq ?_
  refine CW.block ?_
  refine CW.seq ?_
  refine CW.reg ?_
  refine WL.pure rfl rfl rfl (PV.move rfl) ?_
  refine WL.pure rfl rfl rfl (PV.makeFunc (fs := []) (cs := [.tmp 4]) rfl rfl) ?_
  refine WL.op rfl (OpK.callR rfl T.cf131 rfl (c_slices_IndexFunc_impl_Change_impl_Change_impl_changeOften_1 (by first | assumption | exact Rd.up (by assumption) hB | exact rdCh (by assumption) (by assumption)) (by first | exact Bx.cells (by assumption) | exact Cells.up (by assumption) hB | assumption | exact Cells.add (Bx.cells (by assumption)) _ | exact Cells.add (Cells.up (by assumption) hB) _) (by first | assumption | exact Rd.up (by assumption) hB | exact Osl.rd (by assumption) | exact Osn.rdR (by assumption) | exact NL.rd (by assumption) | exact rdII (by assumption) (by assumption) | exact Inn.rd (by assumption) (by omega)) (by first | assumption | omega | (simp only [marks_len, marksB_len, marksR_len, sumL_marksS, List.length_take]; omega)) (by first | assumption | (intro k9 h9; simp only [List.length_cons, List.length_nil] at h9; (obtain rfl : k9 = 0 := (by omega)); assumption))) (fun w4 hXw4 => ?_))
  have hB := hB.trans hXw4
  have hb1 := hb1.up hXw4
  have ho3 := ho3.up hXw4
  have hU0 := hU0.ext hXw4
  refine WL.pure rfl rfl rfl (PV.assign rfl) ?_
  refine WL.nilS ?_
  refine CW.seq ?_
  refine CW.seq ?_
  refine CW.reg ?_
  refine WL.pure rfl rfl rfl (PV.move rfl) ?_
  refine WL.pure rfl rfl rfl (PV.lss rfl rfl) ?_
  refine WL.nilS ?_
  refine CW.cond rfl (fun hc1 => ?_) (fun hc1 => ?_)
  · skip
    try simp only [decide_eq_true_eq, decide_eq_false_iff_not, Bool.not_eq_true', Bool.not_eq_false', Bool.not_eq_eq_eq_not, Bool.not_true, Bool.not_false, Int.not_lt, Int.not_le, Classical.not_not, beq_iff_eq, beq_eq_false_iff_ne] at hc1
    refine CW.seq ?_
    refine CW.reg ?_
    refine WL.pure rfl rfl rfl ((by first | exact PV.load0 T.na26 rfl (by first | exact Cells.up (by assumption) hB | exact Bx.cells (by assumption) | assumption) (Ext.refl _) rfl | exact PV.load1 T.na26 rfl (by first | exact Cells.up (by assumption) hB | exact Bx.cells (by assumption) | assumption) (Ext.refl _) rfl)) ?_
    refine WL.pure rfl rfl rfl (PV.move rfl) ?_
    refine WL.pure rfl rfl rfl (PV.assign rfl) ?_
    refine WL.pure rfl rfl rfl (PV.assign rfl) ?_
    refine WL.pure rfl rfl rfl (PV.assign rfl) ?_
    refine WL.nilS ?_
    refine CW.ret ?_
    refine RQ.then ?_
    refine RQ.block ?_
    refine RQ.then ?_
    refine RQ.then ?_
    refine RQ.block ?_
    refine RQ.r3 rfl rfl rfl ?_
    refine ⟨hB, v3, og3, ?_, osE ho3 ?_, hl3⟩
    · skip
      first | (have hR : normF cs mo.toNat xs = none := (by first | exact hN.stop hsy (by omega) | exact hN.long hsy (by assumption)); exact tE3 rfl (iE (by rw [hR]; rfl)) (bE (by rw [hR]; rfl))) | (have hR : normF cs mo.toNat xs = some (now, (t : Int)) := hN.end (by omega); exact tE3 rfl (iE (by rw [hR]; rfl)) (bE (by rw [hR]; rfl)))
    · skip
      first | (have hR : normF cs mo.toNat xs = none := (by first | exact hN.stop hsy (by omega) | exact hN.long hsy (by assumption)); rw [hR]; rfl) | (have hR : normF cs mo.toNat xs = some (now, (t : Int)) := hN.end (by omega); rw [hR]; rfl)
  try simp only [decide_eq_true_eq, decide_eq_false_iff_not, Bool.not_eq_true', Bool.not_eq_false', Bool.not_eq_eq_eq_not, Bool.not_true, Bool.not_false, Int.not_lt, Int.not_le, Classical.not_not, beq_iff_eq, beq_eq_false_iff_ne] at hc1
  have hsy : 0 ≤ stepI cs now := (by omega); have hsf := stepI_first hsy; have hok := hoks _ hsf.1; have hff := fits_y (first_fits hsf.2); have hfr := first_rng (cs.getD (stepI cs now).toNat d4) now; have hpl := put_len hff.1 hff.2; have hok2 := hok.2.2.1
  refine CW.skipS ?_
  refine CW.seq ?_
  refine CW.draw T.mixed (by kernel_rfl) (fun _ _ _ _ _ h => h) (fun w8 w9 => Upd none w8 w9) 18 (.take 0 (.take 1 (.take 2 (.take 3 (.take 4 (.take 5 (.take 6 (.take 7 (.take 8 (.take 9 (.must 10 (.must 11 (.must 12 (.take 13 (.take 14 (.take 15 (.take 16 (.take 17 .done)))))))))))))))))) (by kernel_rfl) (fun w5 hXd => ?_)
  have hB := hB.trans hXd
  have hb1 := hb1.up hXd
  have ho3 := ho3.up hXd
  have hU0 := hU0.ext hXd
  have hBr := hB
  have hS : Upd none w5 w5 := Ext.toUpd (Ext.refl _)
  refine HP.take rfl rfl rfl rfl hS (fun wS hS1 => PV.move rfl) ?_
  refine HP.take rfl rfl rfl rfl hS (fun wS hS1 => PV.move rfl) ?_
  first
    | refine HP.at (x := .tmp 25) (y := .tmp 26) (E := ECh) (d4) rfl rfl (by first | assumption | exact Inn.rd (by assumption) (by omega)) (by first | omega | (simp only [List.length_set]; omega) | (simp only [List.length_append, List.length_take, List.length_replicate, List.length_drop]; omega)) (fun p1 csp1 hpp1 hcp1 hq => ?_)
    | refine HP.atZ (x := .tmp 25) (y := .tmp 26) (E := ECh) (d4) rfl rfl (by first | assumption | exact Inn.rd (by assumption) (by omega)) (by first | omega | (simp only [List.length_set]; omega) | (simp only [List.length_append, List.length_take, List.length_replicate, List.length_drop]; omega)) (fun p1 csp1 hpp1 hzp1 hcp1 hq => ?_)
  obtain ⟨vq0, vq1, vq2, vq3, rfl, hq0, hq1, hq2, hq3⟩ := ECh.parts hq
  refine HP.take rfl rfl rfl rfl hS (fun wS hS1 => (by first | exact PV.indexAddr hpp1 rfl rfl T.sl46 | exact PV.indexAddr hpp1 rfl (by rw [← hzp1]; rfl) T.sl46)) ?_
  refine HP.take rfl rfl rfl rfl hS (fun wS hS1 => (by first | exact PV.loadA T.ag58 rfl (by first | exact Cells.up (by assumption) (hBr.trans hS1) | exact Bx.cells (Bx.updD (by assumption) hS1 (Dj.nlR _)) | exact Cells.upd (by assumption) hS1 (by simp)) (Ext.refl _) rfl | exact PV.loadP (ds := [_, _, _, _]) T.ag58 rfl (by first | exact Cells.up (by assumption) (hBr.trans hS1) | exact Bx.cells (Bx.updD (by assumption) hS1 (Dj.nlR _)) | exact Cells.upd (by assumption) hS1 (by simp)) (Ext.refl _) rfl rfl)) ?_
  refine HP.take rfl rfl rfl rfl hS (fun wS hS1 => (by first | exact PV.load0 T.na26 rfl (by first | exact Cells.up (by assumption) (hBr.trans hS1) | exact Bx.cells (Bx.updD (by assumption) hS1 (Dj.nlR _)) | exact Cells.upd (by assumption) hS1 (by simp)) (Ext.refl _) rfl | exact PV.load1 T.na26 rfl (by first | exact Cells.up (by assumption) (hBr.trans hS1) | exact Bx.cells (Bx.updD (by assumption) hS1 (Dj.nlR _)) | exact Cells.upd (by assumption) hS1 (by simp)) (Ext.refl _) rfl)) ?_
  refine HP.take rfl rfl rfl rfl hS (fun wS hS1 => PV.move rfl) ?_
  refine HP.take rfl rfl rfl rfl hS (fun wS hS1 => PV.move rfl) ?_
  first
    | refine HP.at (x := .tmp 30) (y := .tmp 31) (E := ECh) (d4) rfl rfl (by first | assumption | exact Inn.rd (by assumption) (by omega)) (by first | omega | (simp only [List.length_set]; omega) | (simp only [List.length_append, List.length_take, List.length_replicate, List.length_drop]; omega)) (fun p2 csp2 hpp2 hcp2 hq => ?_)
    | refine HP.atZ (x := .tmp 30) (y := .tmp 31) (E := ECh) (d4) rfl rfl (by first | assumption | exact Inn.rd (by assumption) (by omega)) (by first | omega | (simp only [List.length_set]; omega) | (simp only [List.length_append, List.length_take, List.length_replicate, List.length_drop]; omega)) (fun p2 csp2 hpp2 hzp2 hcp2 hq => ?_)
  obtain ⟨vq0, vq1, vq2, vq3, rfl, hq0, hq1, hq2, hq3⟩ := ECh.parts hq
  refine HP.take rfl rfl rfl rfl hS (fun wS hS1 => (by first | exact PV.indexAddr hpp2 rfl rfl T.sl46 | exact PV.indexAddr hpp2 rfl (by rw [← hzp2]; rfl) T.sl46)) ?_
  refine HP.take rfl rfl rfl rfl hS (fun wS hS1 => (by first | exact PV.loadA T.ag58 rfl (by first | exact Cells.up (by assumption) (hBr.trans hS1) | exact Bx.cells (Bx.updD (by assumption) hS1 (Dj.nlR _)) | exact Cells.upd (by assumption) hS1 (by simp)) (Ext.refl _) rfl | exact PV.loadP (ds := [_, _, _, _]) T.ag58 rfl (by first | exact Cells.up (by assumption) (hBr.trans hS1) | exact Bx.cells (Bx.updD (by assumption) hS1 (Dj.nlR _)) | exact Cells.upd (by assumption) hS1 (by simp)) (Ext.refl _) rfl rfl)) ?_
  refine HP.take rfl rfl rfl rfl hS (fun wS hS1 => (by first | exact PV.load0 T.na26 rfl (by first | exact Cells.up (by assumption) (hBr.trans hS1) | exact Bx.cells (Bx.updD (by assumption) hS1 (Dj.nlR _)) | exact Cells.upd (by assumption) hS1 (by simp)) (Ext.refl _) rfl | exact PV.load1 T.na26 rfl (by first | exact Cells.up (by assumption) (hBr.trans hS1) | exact Bx.cells (Bx.updD (by assumption) hS1 (Dj.nlR _)) | exact Cells.upd (by assumption) hS1 (by simp)) (Ext.refl _) rfl)) ?_
  refine HP.must rfl rfl (OpK.callR rfl T.cf116 rfl (c_impl_Change_first (by first | assumption | exact Rd.up (by assumption) hB | exact Osl.rd (by assumption) | exact Osn.rdR (by assumption) | exact NL.rd (by assumption) | exact rdII (by assumption) (by assumption) | exact Inn.rd (by assumption) (by omega)) (by first | assumption | exact Rd.up (by assumption) hB | exact Osl.rd (by assumption) | exact Osn.rdR (by assumption) | exact NL.rd (by assumption) | exact rdII (by assumption) (by assumption) | exact Inn.rd (by assumption) (by omega)) (by first | assumption | exact Rd.up (by assumption) hB | exact Osl.rd (by assumption) | exact Osn.rdR (by assumption) | exact NL.rd (by assumption) | exact rdII (by assumption) (by assumption) | exact Inn.rd (by assumption) (by omega)) (by first | assumption | exact Rd.up (by assumption) hB | exact Osl.rd (by assumption) | exact Osn.rdR (by assumption) | exact NL.rd (by assumption) | exact rdII (by assumption) (by assumption) | exact Inn.rd (by assumption) (by omega)) (by first | assumption | exact Rd.up (by assumption) hB | exact Osl.rd (by assumption) | exact Osn.rdR (by assumption) | exact NL.rd (by assumption) | exact rdII (by assumption) (by assumption) | exact Inn.rd (by assumption) (by omega)) (by first | assumption | omega | (simp only [marks_len, marksB_len, marksR_len, sumL_marksS, List.length_take]; omega)) (by first | assumption | omega | (simp only [marks_len, marksB_len, marksR_len, sumL_marksS, List.length_take]; omega))) (fun w6 hXw6 => ?_))
  refine ⟨Upd.trans hS hXw6, ?_⟩
  have hS := Upd.trans hS hXw6
  have hB := hB.trans hXw6
  have hb1 := hb1.up hXw6
  have ho3 := ho3.up hXw6
  have hU0 := hU0.ext hXw6
  refine HP.must rfl rfl (OpK.call rfl T.cf96 rfl (c_impl_Change_put (by first | assumption | exact Rd.up (by assumption) hB | exact Osl.rd (by assumption) | exact Osn.rdR (by assumption) | exact NL.rd (by assumption) | exact rdII (by assumption) (by assumption) | exact Inn.rd (by assumption) (by omega)) (by first | assumption | exact Rd.up (by assumption) hB | exact Osl.rd (by assumption) | exact Osn.rdR (by assumption) | exact NL.rd (by assumption) | exact rdII (by assumption) (by assumption) | exact Inn.rd (by assumption) (by omega)) (by first | assumption | exact Rd.up (by assumption) hB | exact Osl.rd (by assumption) | exact Osn.rdR (by assumption) | exact NL.rd (by assumption) | exact rdII (by assumption) (by assumption) | exact Inn.rd (by assumption) (by omega)) (by first | assumption | exact Rd.up (by assumption) hB | exact Osl.rd (by assumption) | exact Osn.rdR (by assumption) | exact NL.rd (by assumption) | exact rdII (by assumption) (by assumption) | exact Inn.rd (by assumption) (by omega)) (by first | assumption | exact Rd.up (by assumption) hB | exact Osl.rd (by assumption) | exact Osn.rdR (by assumption) | exact NL.rd (by assumption) | exact rdII (by assumption) (by assumption) | exact Inn.rd (by assumption) (by omega)) (by first | assumption | omega | (simp only [marks_len, marksB_len, marksR_len, sumL_marksS, List.length_take]; omega)) (by first | assumption | omega | (simp only [marks_len, marksB_len, marksR_len, sumL_marksS, List.length_take]; omega)) (by first | assumption | omega | (simp only [marks_len, marksB_len, marksR_len, sumL_marksS, List.length_take]; omega))) (fun rv2 w7 hR => ?_))
  obtain ⟨hXw7, v5, og5, rfl, ho5, hq5⟩ := hR
  have hl5 := Lo.up hq5 hB
  have hv5 := Lo.up hq5 hS
  have hd1_5 := Dj.lo hb1.ltO hq5
  have hd3_5 := Dj.lo ho3.ltO hq5
  have hk0_5 := OkN.lo hU0 hq5
  have hg0_5 := OgR.lo hU0.size hq5
  refine ⟨Upd.trans hS hXw7, ?_⟩
  have hS := Upd.trans hS hXw7
  have hB := hB.trans hXw7
  have hb1 := hb1.up hXw7
  have ho3 := ho3.up hXw7
  have hU0 := hU0.ext hXw7
  refine HP.must rfl rfl (OpK.call rfl T.cf118 rfl (c_impl_long (by first | assumption | exact Rd.up (by assumption) hB | exact Osl.rd (by assumption) | exact Osn.rdR (by assumption) | exact NL.rd (by assumption) | exact rdII (by assumption) (by assumption) | exact Inn.rd (by assumption) (by omega))) (fun rv3 w8 hR => ?_))
  rcases hR with ⟨hXw8, ⟨hal, rfl⟩ | ⟨hal, rfl⟩⟩
  · skip
    refine ⟨Upd.trans hS hXw8, ?_⟩
    have hS := Upd.trans hS hXw8
    have hB := hB.trans hXw8
    have hb1 := hb1.up hXw8
    have ho3 := ho3.up hXw8
    have ho5 := ho5.up hXw8
    have hU0 := hU0.ext hXw8
    refine HP.take rfl rfl rfl rfl hS (fun wS hS1 => PV.move rfl) ?_
    refine HP.take rfl rfl rfl rfl hS (fun wS hS1 => PV.extract rfl rfl) ?_
    refine HP.take rfl rfl rfl rfl hS (fun wS hS1 => PV.extract rfl rfl) ?_
    refine HP.take rfl rfl rfl rfl hS (fun wS hS1 => PV.assign rfl) ?_
    refine HP.take rfl rfl rfl rfl hS (fun wS hS1 => PV.assign rfl) ?_
    refine HP.doneS ?_
    refine CW.seq ?_
    refine CW.seq ?_
    refine CW.reg ?_
    refine WL.pure rfl rfl rfl (PV.move rfl) ?_
    refine WL.pure rfl rfl rfl (PV.not rfl) ?_
    refine WL.pure rfl rfl rfl (PV.move rfl) ?_
    refine WL.pureG rfl rfl rfl rfl rfl (PV.move rfl) ?_
    refine WL.pureG rfl rfl rfl rfl rfl (PV.move rfl) ?_
    refine WL.pureG rfl rfl rfl rfl rfl (PV.eql rfl rfl) ?_
    refine WL.pure rfl rfl rfl (PV.pickF rfl rfl) ?_
    refine WL.nilS ?_
    refine CW.cond rfl (fun hc2 => ?_) (fun hc2 => ?_)
    · skip
      try simp only [decide_eq_true_eq, decide_eq_false_iff_not, Bool.not_eq_true', Bool.not_eq_false', Bool.not_eq_eq_eq_not, Bool.not_true, Bool.not_false, Int.not_lt, Int.not_le, Classical.not_not, beq_iff_eq, beq_eq_false_iff_ne] at hc2
      refine CW.seq ?_
      refine CW.reg ?_
      refine WL.pure rfl rfl rfl (PV.assign rfl) ?_
      refine WL.pure rfl rfl rfl (PV.assign rfl) ?_
      refine WL.pure rfl rfl rfl (PV.assign rfl) ?_
      refine WL.nilS ?_
      refine CW.ret ?_
      refine RQ.then ?_
      refine RQ.block ?_
      refine RQ.then ?_
      refine RQ.then ?_
      refine RQ.block ?_
      refine RQ.r3 rfl rfl rfl ?_
      refine ⟨hB, (.slice none 0 0), none, ?_, osE (Osl.nil _ _) ?_, Lo.nl _⟩
      · skip
        first | (have hR : normF cs mo.toNat xs = none := (by first | exact hN.stop hsy (by omega) | exact hN.long hsy (by assumption)); exact tE3 rfl (iE (by rw [hR]; rfl)) (bE (by rw [hR]; rfl))) | (have hR : normF cs mo.toNat xs = some (now, (t : Int)) := hN.end (by omega); exact tE3 rfl (iE (by rw [hR]; rfl)) (bE (by rw [hR]; rfl)))
      · skip
        first | (have hR : normF cs mo.toNat xs = none := (by first | exact hN.stop hsy (by omega) | exact hN.long hsy (by assumption)); rw [hR]; rfl) | (have hR : normF cs mo.toNat xs = some (now, (t : Int)) := hN.end (by omega); rw [hR]; rfl)
    try simp only [decide_eq_true_eq, decide_eq_false_iff_not, Bool.not_eq_true', Bool.not_eq_false', Bool.not_eq_eq_eq_not, Bool.not_true, Bool.not_false, Int.not_lt, Int.not_le, Classical.not_not, beq_iff_eq, beq_eq_false_iff_ne] at hc2
    refine CW.skipS ?_
    refine CW.reg ?_
    refine WL.pure rfl rfl rfl (PV.move rfl) ?_
    first
      | refine WL.op rfl (OpK.storeB T.sz26 rfl rfl (by first | rfl | exact Inn.one1 (by assumption) (by omega) | exact Osl.oneCell (by assumption) | exact Osn.oneCell (by assumption) | exact Rd.oneCell (by assumption) | exact Rd.oneCell (NL.rd (by assumption)) | assumption) hb1 rfl (fun w9 hXw9 hb1 => ?_))
      | refine WL.op rfl (OpK.storeB0 T.sz26 rfl rfl (by first | rfl | exact Inn.one1 (by assumption) (by omega) | exact Osl.oneCell (by assumption) | exact Osn.oneCell (by assumption) | exact Rd.oneCell (by assumption) | exact Rd.oneCell (NL.rd (by assumption)) | assumption) hb1 (fun w9 hXw9 hb1 => ?_))
    have hB := hB.updL hXw9 hl1
    have ho3 := ho3.updD hXw9 (Dj.symm hd1_3)
    have ho5 := ho5.updD hXw9 (Dj.symm hd1_5)
    have hU0 := hU0.step hXw9 hk0_1
    refine WL.nil ?_
    refine NQ.block ?_
    refine NQ.then ?_
    refine CW.reg ?_
    refine WL.pure rfl rfl rfl (PV.move rfl) ?_
    refine WL.pure rfl rfl rfl (PV.add rfl rfl (by constructor <;> omega)) ?_
    refine WL.pure rfl rfl rfl (PV.assign rfl) ?_
    refine WL.nil ?_
    refine NQ.next (ρ := [(9, _)]) ⟨rfl, rfl, rfl, rfl, trivial⟩ ?_
    exact ⟨_, ⟨rv2, og5, t + 1, _, rfl, rfl, hU0, osE ho5 (by rfl), (by first | exact hg0_5 | exact OgR.weak hg0_5), bxE hb1 (by rfl), (by exact hN.step hsy (by omega) rfl (by assumption)), (by assumption)⟩, by omega⟩
  · skip
    refine ⟨Upd.trans hS hXw8, ?_⟩
    have hS := Upd.trans hS hXw8
    have hB := hB.trans hXw8
    have hb1 := hb1.up hXw8
    have ho3 := ho3.up hXw8
    have ho5 := ho5.up hXw8
    have hU0 := hU0.ext hXw8
    refine HP.take rfl rfl rfl rfl hS (fun wS hS1 => PV.move rfl) ?_
    refine HP.take rfl rfl rfl rfl hS (fun wS hS1 => PV.extract rfl rfl) ?_
    refine HP.take rfl rfl rfl rfl hS (fun wS hS1 => PV.extract rfl rfl) ?_
    refine HP.take rfl rfl rfl rfl hS (fun wS hS1 => PV.assign rfl) ?_
    refine HP.take rfl rfl rfl rfl hS (fun wS hS1 => PV.assign rfl) ?_
    refine HP.doneS ?_
    refine CW.seq ?_
    refine CW.seq ?_
    refine CW.reg ?_
    refine WL.pure rfl rfl rfl (PV.move rfl) ?_
    refine WL.pure rfl rfl rfl (PV.not rfl) ?_
    refine WL.pure rfl rfl rfl (PV.move rfl) ?_
    refine WL.skip rfl rfl rfl rfl rfl ?_
    refine WL.skip rfl rfl rfl rfl rfl ?_
    refine WL.skip rfl rfl rfl rfl rfl ?_
    refine WL.pure rfl rfl rfl (PV.pickT rfl rfl) ?_
    refine WL.nilS ?_
    refine CW.condT rfl ?_
    refine CW.seq ?_
    refine CW.reg ?_
    refine WL.pure rfl rfl rfl (PV.assign rfl) ?_
    refine WL.pure rfl rfl rfl (PV.assign rfl) ?_
    refine WL.pure rfl rfl rfl (PV.assign rfl) ?_
    refine WL.nilS ?_
    refine CW.ret ?_
    refine RQ.then ?_
    refine RQ.block ?_
    refine RQ.then ?_
    refine RQ.then ?_
    refine RQ.block ?_
    refine RQ.r3 rfl rfl rfl ?_
    refine ⟨hB, (.slice none 0 0), none, ?_, osE (Osl.nil _ _) ?_, Lo.nl _⟩
    · skip
      first | (have hR : normF cs mo.toNat xs = none := (by first | exact hN.stop hsy (by omega) | exact hN.long hsy (by assumption)); exact tE3 rfl (iE (by rw [hR]; rfl)) (bE (by rw [hR]; rfl))) | (have hR : normF cs mo.toNat xs = some (now, (t : Int)) := hN.end (by omega); exact tE3 rfl (iE (by rw [hR]; rfl)) (bE (by rw [hR]; rfl)))
    · skip
      first | (have hR : normF cs mo.toNat xs = none := (by first | exact hN.stop hsy (by omega) | exact hN.long hsy (by assumption)); rw [hR]; rfl) | (have hR : normF cs mo.toNat xs = some (now, (t : Int)) := hN.end (by omega); rw [hR]; rfl)
theorem c_impl_LoosePairs {w : World} {va : Value} {cs : List C4} {L mo : Int} (ha : Rd ECh w va cs) : Calls Try.prog 30 #[va, .int .i64 L, .int .i64 mo] w (Ret1 (fun v w' => Ext w w' ∧ ∃ u og_u vs_u os_u, v = .tuple #[u, .bool (lsB cs L mo)] ∧ Osl VV w' og_u u vs_u ∧ Lo w og_u ∧ Inn w' os_u vs_u (onT (lsB cs L mo) (lsL cs mo.toNat)) ∧ LoI w os_u ∧ DI os_u og_u)) := by
  have hB : Ext w w := Ext.refl w
  have hla := ha.leI
  refine callsOf (vs := [_, _, _]) Try.func30 rfl Try.ntmps30 rfl rfl ?_
  refine CW.seq ?_
  refine CW.reg ?_
  refine WL.pure rfl rfl rfl (PV.assign rfl) ?_
  refine WL.pure rfl rfl rfl (PV.assign rfl) ?_
  refine WL.nilS ?_
  refine CW.seq ?_
  refine CW.seq ?_
  refine CW.reg ?_
  refine WL.pure rfl rfl rfl (PV.move rfl) ?_
  refine WL.pure rfl rfl rfl (PV.move rfl) ?_
  refine WL.op rfl (OpK.callR rfl T.cf93 rfl (c_impl_arePlain (by first | assumption | exact Rd.up (by assumption) hB | exact rdCh (by assumption) (by assumption))) (fun w1 hXw1 => ?_))
  have hB := hB.trans hXw1
  refine WL.pure rfl rfl rfl (PV.not rfl) ?_
  refine WL.pure rfl rfl rfl (PV.move rfl) ?_
  refine WL.split (t := 21) rfl (fun hc1 => ?_) (fun hc1 => ?_)
  · skip
    try simp only [decide_eq_true_eq, decide_eq_false_iff_not, Bool.not_eq_true', Bool.not_eq_false', Bool.not_eq_eq_eq_not, Bool.not_true, Bool.not_false, Int.not_lt, Int.not_le, Classical.not_not, beq_iff_eq, beq_eq_false_iff_ne] at hc1
    refine WL.skip rfl rfl rfl rfl rfl ?_
    refine WL.skip rfl rfl rfl rfl rfl ?_
    refine WL.skip rfl rfl rfl rfl rfl ?_
    refine WL.pure rfl rfl rfl (PV.pickT rfl rfl) ?_
    refine WL.nilS ?_
    refine CW.condT rfl ?_
    refine CW.seq ?_
    refine CW.reg ?_
    refine WL.pure rfl rfl rfl (PV.assign rfl) ?_
    refine WL.pure rfl rfl rfl (PV.assign rfl) ?_
    refine WL.nilS ?_
    refine CW.ret ?_
    refine RQ.then ?_
    refine RQ.r2 rfl rfl ?_
    first | (have hS : lsB cs L mo = false := (by first | exact ls_n1 (by assumption) | exact ls_n2 (by omega) | exact ls_n3 (k := k) (by omega) (lsO_n1 htk (by assumption)) | exact ls_n3 (k := k) (by omega) (lsO_n2 htk (by assumption))); exact ⟨hB, .slice none 0 0, none, [], [], tE2 rfl (bE hS.symm), Osl.nil _ _, Lo.nl _, innE (Inn.zero _) (onT_no (by rw [hS]; decide)).symm, LoI.nl _, DI.nl _⟩) | (obtain rfl : k = (ov1 cs cs.length).length := (by omega); have hS := ls_y (by assumption : plnB cs L = true) hmo2 he; exact ⟨hB, _, _, _, _, tE2 rfl (bE hS.symm), ho5, hl5, innE (Inn.sel hn3 _ (by rw [List.length_map]; exact Nat.le_refl _)) (onT_yes hS).symm, LoI.sel hl3 (by rw [hn3.lo, List.length_map]; exact Nat.le_refl _), DI.sel hd3_5 (by rw [hn3.lo, List.length_map]; exact Nat.le_refl _)⟩)
  try simp only [decide_eq_true_eq, decide_eq_false_iff_not, Bool.not_eq_true', Bool.not_eq_false', Bool.not_eq_eq_eq_not, Bool.not_true, Bool.not_false, Int.not_lt, Int.not_le, Classical.not_not, beq_iff_eq, beq_eq_false_iff_ne] at hc1
  refine WL.pureG rfl rfl rfl rfl rfl (PV.move rfl) ?_
  refine WL.opG rfl rfl rfl (OpK.callR rfl T.cf81 rfl (c_impl_within) (fun w2 hXw2 => ?_))
  have hB := hB.trans hXw2
  refine WL.pureG rfl rfl rfl rfl rfl (PV.not rfl) ?_
  refine WL.pure rfl rfl rfl (PV.pickF rfl rfl) ?_
  refine WL.nilS ?_
  refine CW.cond rfl (fun hc2 => ?_) (fun hc2 => ?_)
  · skip
    try simp only [decide_eq_true_eq, decide_eq_false_iff_not, Bool.not_eq_true', Bool.not_eq_false', Bool.not_eq_eq_eq_not, Bool.not_true, Bool.not_false, Int.not_lt, Int.not_le, Classical.not_not, beq_iff_eq, beq_eq_false_iff_ne] at hc2
    refine CW.seq ?_
    refine CW.reg ?_
    refine WL.pure rfl rfl rfl (PV.assign rfl) ?_
    refine WL.pure rfl rfl rfl (PV.assign rfl) ?_
    refine WL.nilS ?_
    refine CW.ret ?_
    refine RQ.then ?_
    refine RQ.r2 rfl rfl ?_
    first | (have hS : lsB cs L mo = false := (by first | exact ls_n1 (by assumption) | exact ls_n2 (by omega) | exact ls_n3 (k := k) (by omega) (lsO_n1 htk (by assumption)) | exact ls_n3 (k := k) (by omega) (lsO_n2 htk (by assumption))); exact ⟨hB, .slice none 0 0, none, [], [], tE2 rfl (bE hS.symm), Osl.nil _ _, Lo.nl _, innE (Inn.zero _) (onT_no (by rw [hS]; decide)).symm, LoI.nl _, DI.nl _⟩) | (obtain rfl : k = (ov1 cs cs.length).length := (by omega); have hS := ls_y (by assumption : plnB cs L = true) hmo2 he; exact ⟨hB, _, _, _, _, tE2 rfl (bE hS.symm), ho5, hl5, innE (Inn.sel hn3 _ (by rw [List.length_map]; exact Nat.le_refl _)) (onT_yes hS).symm, LoI.sel hl3 (by rw [hn3.lo, List.length_map]; exact Nat.le_refl _), DI.sel hd3_5 (by rw [hn3.lo, List.length_map]; exact Nat.le_refl _)⟩)
  try simp only [decide_eq_true_eq, decide_eq_false_iff_not, Bool.not_eq_true', Bool.not_eq_false', Bool.not_eq_eq_eq_not, Bool.not_true, Bool.not_false, Int.not_lt, Int.not_le, Classical.not_not, beq_iff_eq, beq_eq_false_iff_ne] at hc2
  refine CW.skipS ?_
  refine CW.seq ?_
  refine CW.reg ?_
  have hpb := pln_y (by assumption : plnB cs L = true); have hlb := listB_y hpb.1; have hoks := hlb.2.2.2; have h8 := hlb.1; have ho300 := ov1_300 h8 hoks; have hmo2 : 0 ≤ mo ∧ mo ≤ 200 := (by first | assumption | omega)
  refine WL.op rfl (OpK.buildS VV (os := []) [] rfl T.sl28 rfl rfl T.zv26 rfl (by intro z hz; cases hz) rfl (fun v1 g1 w3 hXw3 ho1 hge1 => ?_))
  have hl1 := Lo.new hB hge1
  have hB := hB.trans hXw3
  refine WL.pure rfl rfl rfl (PV.assign rfl) ?_
  refine WL.nilS ?_
  refine CW.seq ?_
  refine CW.seq ?_
  refine CW.reg ?_
  refine WL.pure rfl rfl rfl (PV.move rfl) ?_
  refine WL.op rfl (OpK.call rfl T.cf94 rfl (c_impl_overlaps (by first | assumption | exact Rd.up (by assumption) hB | exact rdCh (by assumption) (by assumption)) (by first | assumption | (intro k9 h9; simp only [List.length_cons, List.length_nil] at h9; rcases (show k9 = 0 ∨ k9 = 1 by omega) with rfl | rfl <;> first | assumption | (exfalso; omega))) (by first | assumption | omega | (simp only [marks_len, marksB_len, marksR_len, sumL_marksS, List.length_take]; omega))) (fun rv1 w4 hR => ?_))
  obtain ⟨hXw4, v2, og2, vs3, os3, rfl, hm4, ho2, hq2, hn3, hq3, hd2_3⟩ := hR
  have hl2 := Lo.up hq2 hB
  have hd1_2 := Dj.lo ho1.ltO hq2
  have hl3 := LoI.up hq3 hB
  have hlv3 := hn3.lv
  have hd1_3 := DI.lo ho1.ltO hq3
  have hch9 := fun (k : Nat) (h : k < (ov1 cs cs.length).length) => hm4.2 k h _ hB ha
  have hB := hB.trans hXw4
  have ho1 := ho1.up hXw4
  refine WL.pure rfl rfl rfl ((PV.lenOsn rfl ho2 T.sl105)) ?_
  refine WL.pure rfl rfl rfl (PV.move rfl) ?_
  refine WL.nilS ?_
  refine CW.block ?_
  have hlt1 := ho1.ltO
  have hlt2 := ho2.ltO
  have hlt3 := hn3.ltO
  refine CW.loop (σk := [(0, _), (2, _), (28, _), (29, _)]) (fun ρ wz m => ∃ (v5 : Value) (og5 : Option Nat) (k : Nat), ρ = [(8, v5), (30, .int .i64 (k : Nat))] ∧ m = (ov1 cs cs.length).length - k ∧ UpdL [(some g1)] w4 wz ∧ Osl VV wz og5 v5 (sel (lsP cs mo.toNat) (.slice none 0 0) (vs3.map fO) k) ∧ OgR w4 (some g1) og5 ∧ (k ≤ (ov1 cs cs.length).length) ∧ (∀ j : Nat, j < k → lsO cs mo.toNat j = true)) (ρ₀ := [(8, _), (30, _)]) (m₀ := _) ⟨rfl, rfl, rfl, rfl, rfl, rfl, trivial⟩ ⟨v1, (some g1), 0, rfl, rfl, (UpdL.refl _ _), osE ho1 (by exact sel_zero _ _ _), OgR.refl _ _, (by first | omega | rfl | (simp; done) | assumption | (simp_all; done)), (by intro j h; omega)⟩ ?_
  rintro _ wl1 _ ⟨v5, og5, k, rfl, rfl, hU0, ho5, ha5, hk, he⟩
  have ho2 := ho2.loop hU0 ⟨(Dj.symm hd1_2), trivial⟩
  have hn3 := hn3.loop hU0 ⟨hd1_3, trivial⟩
  have hl5 := Lo.ogr hl1 hB ha5
  have hg0_5 := ha5
  have hk0_5 : OkB [(some g1)] w4 og5 := OkB.ogr (OkB.mem (by simp)) (Nat.le_refl _) ha5
  have hd2_5 := Dj.ogr (Dj.symm hd1_2) hlt2 ha5
  have hd3_5 := DI.ogr hd1_3 hlt3 ha5
  have hB := hB.loop hU0 ⟨hl1, trivial⟩
  have hvl := hm4.1; have hsl := sel_len (lsP cs mo.toNat) (.slice none 0 0) (vs3.map fO) k; obtain ⟨t, htk⟩ : ∃ t, t = (ov1 cs cs.length).getD k (0, 0, 0) := ⟨_, rfl⟩
  refine CW.seq ?_
  refine CW.reg ?_
  refine WL.pure rfl rfl rfl (PV.lss rfl rfl) ?_
  refine WL.nilS ?_
  refine CW.seq ?_
  refine CW.cond rfl (fun hc3 => ?_) (fun hc3 => ?_)
  · skip
    try simp only [decide_eq_true_eq, decide_eq_false_iff_not, Bool.not_eq_true', Bool.not_eq_false', Bool.not_eq_eq_eq_not, Bool.not_true, Bool.not_false, Int.not_lt, Int.not_le, Classical.not_not, beq_iff_eq, beq_eq_false_iff_ne] at hc3
    refine CW.skipS ?_
    refine CW.seq ?_
    refine CW.block ?_
    refine CW.seq ?_
    refine CW.reg ?_
    have ht3 : okT3 cs t := (by rw [htk]; exact ov1_get (by omega)); have ht31 : t.1 < cs.length := ht3.1; have ht32 : t.2.1 < cs.length := ht3.2.1; have hta := hoks t.1 ht3.1; have htb := hoks t.2.1 ht3.2.1; have hta1 := hta.2.1; have htb1 := htb.2.1; have hta2 := hta.2.2.1; have htb2 := htb.2.2.1; have hwl := ovW_lenT ht3; have hpa : (patL cs t.1).length = (cs.getD t.1 d4).2.1.length := rfl; have hpb9 : (patL cs t.2.1).length = (cs.getD t.2.1 d4).2.1.length := rfl; have ht33 := ht3.2.2; have hwa := ovW_at hoks (k := k) (by omega); rw [← htk] at hwa; have hch := hch9 k (by omega); rw [← htk] at hch; obtain ⟨⟨hqa0, hqa1, hqa2, hqa3⟩, ⟨hqb0, hqb1, hqb2, hqb3⟩⟩ := hch; have hat : ((ovW cs t).length : Int) - ((cs.getD t.2.1 d4).2.1.length : Int) = ((patL cs t.1).length : Int) - (t.2.2 : Nat) := (by omega); have hp1 := put_len (c := cs.getD t.1 d4) (wd := ovW cs t) (a := 0) (by omega) (by omega); have hp2 := put_len (c := cs.getD t.2.1 d4) (wd := ovW cs t) (a := ((patL cs t.1).length : Int) - (t.2.2 : Nat)) (by omega) (by omega)
    have hwk := rdE (fO_rd (k := k) hn3 (by rw [List.length_map]; omega)) hwa.1
    have hrdp1 := ho2.rd
    first
      | refine WL.at (x := .tmp 28) (y := .tmp 30) (E := (EG 9 gO gO_ok)) (nO) rfl rfl hrdp1 (by first | omega | (simp only [List.length_set]; omega) | (simp only [List.length_append, List.length_take, List.length_replicate, List.length_drop]; omega)) (fun p1 csp1 hpp1 hcp1 hq => ?_)
      | refine WL.atZ (x := .tmp 28) (y := .tmp 30) (E := (EG 9 gO gO_ok)) (nO) rfl rfl hrdp1 (by first | omega | (simp only [List.length_set]; omega) | (simp only [List.length_append, List.length_take, List.length_replicate, List.length_drop]; omega)) (fun p1 csp1 hpp1 hzp1 hcp1 hq => ?_)
    cases hq
    refine WL.pure rfl rfl rfl ((by first | exact PV.indexAddr hpp1 rfl rfl T.sl105 | exact PV.indexAddr hpp1 rfl (by rw [← hzp1]; rfl) T.sl105)) ?_
    refine WL.pure rfl rfl rfl ((by first | exact PV.loadA T.ag108 rfl (by first | exact Cells.up (by assumption) hB | exact Bx.cells (by assumption) | assumption) (Ext.refl _) rfl | exact PV.loadP (ds := [_, _, _, _, _, _, _, _, _]) T.ag108 rfl (by first | exact Cells.up (by assumption) hB | exact Bx.cells (by assumption) | assumption) (Ext.refl _) rfl rfl)) ?_
    refine WL.op rfl (OpK.alloc rfl T.zv108 rfl (fun b6 w5 hXw5 hb6 hge6 => ?_))
    have hl6 := Lo.new hB hge6
    have hd2_6 := Dj.new ho2.ltO hge6
    have hd3_6 := DI.new hn3 hge6
    have hd5_6 := Dj.new ho5.ltO hge6
    have hk0_6 := OkN.new hU0 hge6
    have hg0_6 := OgR.new hU0.size hge6
    have hB := hB.trans hXw5
    have ho2 := ho2.up hXw5
    have hn3 := hn3.up hXw5
    have ho5 := ho5.up hXw5
    have hU0 := hU0.ext hXw5
    have hwk := rdE (fO_rd (k := k) hn3 (by rw [List.length_map]; omega)) hwa.1
    refine WL.op rfl (OpK.storeA T.sz108 rfl rfl rfl rfl (fun v hv => gO_ok.3 _ v hv) hb6 (fun w6 hXw6 hb6 => ?_))
    have hB := hB.updL hXw6 hl6
    have ho2 := ho2.updD hXw6 hd2_6
    have hn3 := hn3.updD hXw6 hd3_6
    have ho5 := ho5.updD hXw6 hd5_6
    have hU0 := hU0.step hXw6 hk0_6
    refine WL.nilS ?_
    refine CW.seq ?_
    refine CW.reg ?_
    have hwk := rdE (fO_rd (k := k) hn3 (by rw [List.length_map]; omega)) hwa.1
    refine WL.pure rfl rfl rfl (PV.move rfl) ?_
    refine WL.pure rfl rfl rfl ((by first | exact PV.fieldAddr T.fl108_1 rfl (by first | assumption | exact Bx.cells (by assumption)) | exact PV.fieldAddrP T.fl108_1 rfl rfl)) ?_
    refine WL.pure rfl rfl rfl ((by first | exact PV.loadA T.ag58 rfl (by first | exact Cells.up (by assumption) hB | exact Bx.cells (by assumption) | assumption) (Ext.refl _) rfl | exact PV.loadP (ds := [_, _, _, _]) T.ag58 rfl (by first | exact Cells.up (by assumption) hB | exact Bx.cells (by assumption) | assumption) (Ext.refl _) rfl rfl)) ?_
    refine WL.pure rfl rfl rfl ((by first | exact PV.fieldAddr T.fl108_0 rfl (by first | assumption | exact Bx.cells (by assumption)) | exact PV.fieldAddrP T.fl108_0 rfl rfl)) ?_
    refine WL.pure rfl rfl rfl ((by first | exact PV.load0 T.na26 rfl (by first | exact Cells.up (by assumption) hB | exact Bx.cells (by assumption) | assumption) (Ext.refl _) rfl | exact PV.load1 T.na26 rfl (by first | exact Cells.up (by assumption) hB | exact Bx.cells (by assumption) | assumption) (Ext.refl _) rfl)) ?_
    refine WL.op rfl (OpK.call rfl T.cf96 rfl (c_impl_Change_put (c := cs.getD t.1 d4) (xs := ovW cs t) (by first | assumption | exact Rd.up (by assumption) hB | exact Osl.rd (by assumption) | exact Osn.rdR (by assumption) | exact NL.rd (by assumption) | exact rdII (by assumption) (by assumption) | exact Inn.rd (by assumption) (by omega)) (by first | assumption | exact Rd.up (by assumption) hB | exact Osl.rd (by assumption) | exact Osn.rdR (by assumption) | exact NL.rd (by assumption) | exact rdII (by assumption) (by assumption) | exact Inn.rd (by assumption) (by omega)) (by first | assumption | exact Rd.up (by assumption) hB | exact Osl.rd (by assumption) | exact Osn.rdR (by assumption) | exact NL.rd (by assumption) | exact rdII (by assumption) (by assumption) | exact Inn.rd (by assumption) (by omega)) (by first | assumption | exact Rd.up (by assumption) hB | exact Osl.rd (by assumption) | exact Osn.rdR (by assumption) | exact NL.rd (by assumption) | exact rdII (by assumption) (by assumption) | exact Inn.rd (by assumption) (by omega)) (by first | assumption | exact Rd.up (by assumption) hB | exact Osl.rd (by assumption) | exact Osn.rdR (by assumption) | exact NL.rd (by assumption) | exact rdII (by assumption) (by assumption) | exact Inn.rd (by assumption) (by omega)) (by first | assumption | omega | (simp only [marks_len, marksB_len, marksR_len, sumL_marksS, List.length_take]; omega)) (by first | assumption | omega | (simp only [marks_len, marksB_len, marksR_len, sumL_marksS, List.length_take]; omega)) (by first | assumption | omega | (simp only [marks_len, marksB_len, marksR_len, sumL_marksS, List.length_take]; omega))) (fun rv2 w7 hR => ?_))
    obtain ⟨hXw7, v7, og7, rfl, ho7, hq7⟩ := hR
    have hl7 := Lo.up hq7 hB
    have hd2_7 := Dj.lo ho2.ltO hq7
    have hd3_7 := DI.fresh hn3 hq7
    have hd5_7 := Dj.lo ho5.ltO hq7
    have hd6_7 := Dj.lo hb6.ltO hq7
    have hk0_7 := OkN.lo hU0 hq7
    have hg0_7 := OgR.lo hU0.size hq7
    have hB := hB.trans hXw7
    have ho2 := ho2.up hXw7
    have hn3 := hn3.up hXw7
    have ho5 := ho5.up hXw7
    have hb6 := hb6.up hXw7
    have hU0 := hU0.ext hXw7
    have hwk := rdE (fO_rd (k := k) hn3 (by rw [List.length_map]; omega)) hwa.1
    refine WL.pure rfl rfl rfl (PV.move rfl) ?_
    refine WL.op rfl (OpK.call rfl T.cf95 rfl (c_impl_changeOften (by first | assumption | exact Rd.up (by assumption) hB | exact rdCh (by assumption) (by assumption)) (by first | assumption | exact Rd.up (by assumption) hB | exact Osl.rd (by assumption) | exact Osn.rdR (by assumption) | exact NL.rd (by assumption) | exact rdII (by assumption) (by assumption) | exact Inn.rd (by assumption) (by omega)) (by first | assumption | omega | (simp only [marks_len, marksB_len, marksR_len, sumL_marksS, List.length_take]; omega)) (by first | assumption | omega | (simp only [marks_len, marksB_len, marksR_len, sumL_marksS, List.length_take]; omega)) (by first | assumption | (intro k9 h9; simp only [List.length_cons, List.length_nil] at h9; (obtain rfl : k9 = 0 := (by omega)); assumption))) (fun rv3 w8 hR => ?_))
    obtain ⟨hXw8, v8, og8, rfl, ho8, hq8⟩ := hR
    have hl8 := Lo.up hq8 hB
    have hd2_8 := Dj.lo ho2.ltO hq8
    have hd3_8 := DI.fresh hn3 hq8
    have hd5_8 := Dj.lo ho5.ltO hq8
    have hd6_8 := Dj.lo hb6.ltO hq8
    have hd7_8 := Dj.lo ho7.ltO hq8
    have hk0_8 := OkN.lo hU0 hq8
    have hg0_8 := OgR.lo hU0.size hq8
    have hB := hB.trans hXw8
    have ho2 := ho2.up hXw8
    have hn3 := hn3.up hXw8
    have ho5 := ho5.up hXw8
    have hb6 := hb6.up hXw8
    have ho7 := ho7.up hXw8
    have hU0 := hU0.ext hXw8
    have hwk := rdE (fO_rd (k := k) hn3 (by rw [List.length_map]; omega)) hwa.1
    refine WL.pure rfl rfl rfl (PV.move rfl) ?_
    refine WL.pure rfl rfl rfl (PV.extract rfl rfl) ?_
    refine WL.pure rfl rfl rfl (PV.extract rfl rfl) ?_
    refine WL.pure rfl rfl rfl (PV.extract rfl rfl) ?_
    refine WL.pure rfl rfl rfl (PV.assign rfl) ?_
    refine WL.pure rfl rfl rfl (PV.assign rfl) ?_
    refine WL.pure rfl rfl rfl (PV.assign rfl) ?_
    refine WL.nilS ?_
    refine CW.seq ?_
    refine CW.reg ?_
    refine WL.pure rfl rfl rfl (PV.move rfl) ?_
    refine WL.pure rfl rfl rfl ((by first | exact PV.fieldAddr T.fl108_2 rfl (by first | assumption | exact Bx.cells (by assumption)) | exact PV.fieldAddrP T.fl108_2 rfl rfl)) ?_
    refine WL.pure rfl rfl rfl ((by first | exact PV.loadA T.ag58 rfl (by first | exact Cells.up (by assumption) hB | exact Bx.cells (by assumption) | assumption) (Ext.refl _) rfl | exact PV.loadP (ds := [_, _, _, _]) T.ag58 rfl (by first | exact Cells.up (by assumption) hB | exact Bx.cells (by assumption) | assumption) (Ext.refl _) rfl rfl)) ?_
    refine WL.pure rfl rfl rfl ((by first | exact PV.fieldAddr T.fl108_0 rfl (by first | assumption | exact Bx.cells (by assumption)) | exact PV.fieldAddrP T.fl108_0 rfl rfl)) ?_
    refine WL.pure rfl rfl rfl ((by first | exact PV.load0 T.na26 rfl (by first | exact Cells.up (by assumption) hB | exact Bx.cells (by assumption) | assumption) (Ext.refl _) rfl | exact PV.load1 T.na26 rfl (by first | exact Cells.up (by assumption) hB | exact Bx.cells (by assumption) | assumption) (Ext.refl _) rfl)) ?_
    refine WL.pure rfl rfl rfl ((by first | exact PV.fieldAddr T.fl108_0 rfl (by first | assumption | exact Bx.cells (by assumption)) | exact PV.fieldAddrP T.fl108_0 rfl rfl)) ?_
    refine WL.pure rfl rfl rfl ((by first | exact PV.load0 T.na26 rfl (by first | exact Cells.up (by assumption) hB | exact Bx.cells (by assumption) | assumption) (Ext.refl _) rfl | exact PV.load1 T.na26 rfl (by first | exact Cells.up (by assumption) hB | exact Bx.cells (by assumption) | assumption) (Ext.refl _) rfl)) ?_
    refine WL.pure rfl rfl rfl ((by first | exact PV.len rfl (by assumption) T.sl26 | exact PV.lenOs rfl (by assumption) T.sl26 | exact PV.len rfl (NL.rd (by assumption)) T.sl26 | exact PV.len rfl (Inn.rd (by assumption) (by omega)) T.sl26)) ?_
    refine WL.pure rfl rfl rfl ((by first | exact PV.fieldAddr T.fl108_2 rfl (by first | assumption | exact Bx.cells (by assumption)) | exact PV.fieldAddrP T.fl108_2 rfl rfl)) ?_
    refine WL.pure rfl rfl rfl ((by first | exact PV.fieldAddr T.fl58_1 rfl (by first | assumption | exact Bx.cells (by assumption)) | exact PV.fieldAddrP T.fl58_1 rfl rfl)) ?_
    refine WL.pure rfl rfl rfl ((by first | exact PV.load0 T.na26 rfl (by first | exact Cells.up (by assumption) hB | exact Bx.cells (by assumption) | assumption) (Ext.refl _) rfl | exact PV.load1 T.na26 rfl (by first | exact Cells.up (by assumption) hB | exact Bx.cells (by assumption) | assumption) (Ext.refl _) rfl)) ?_
    refine WL.pure rfl rfl rfl ((by first | exact PV.len rfl (by assumption) T.sl26 | exact PV.lenOs rfl (by assumption) T.sl26 | exact PV.len rfl (NL.rd (by assumption)) T.sl26 | exact PV.len rfl (Inn.rd (by assumption) (by omega)) T.sl26)) ?_
    refine WL.pure rfl rfl rfl (PV.sub rfl rfl (by constructor <;> omega)) ?_
    rw [hat]
    refine WL.op rfl (OpK.call rfl T.cf96 rfl (c_impl_Change_put (c := cs.getD t.2.1 d4) (xs := ovW cs t) (by first | assumption | exact Rd.up (by assumption) hB | exact Osl.rd (by assumption) | exact Osn.rdR (by assumption) | exact NL.rd (by assumption) | exact rdII (by assumption) (by assumption) | exact Inn.rd (by assumption) (by omega)) (by first | assumption | exact Rd.up (by assumption) hB | exact Osl.rd (by assumption) | exact Osn.rdR (by assumption) | exact NL.rd (by assumption) | exact rdII (by assumption) (by assumption) | exact Inn.rd (by assumption) (by omega)) (by first | assumption | exact Rd.up (by assumption) hB | exact Osl.rd (by assumption) | exact Osn.rdR (by assumption) | exact NL.rd (by assumption) | exact rdII (by assumption) (by assumption) | exact Inn.rd (by assumption) (by omega)) (by first | assumption | exact Rd.up (by assumption) hB | exact Osl.rd (by assumption) | exact Osn.rdR (by assumption) | exact NL.rd (by assumption) | exact rdII (by assumption) (by assumption) | exact Inn.rd (by assumption) (by omega)) (by first | assumption | exact Rd.up (by assumption) hB | exact Osl.rd (by assumption) | exact Osn.rdR (by assumption) | exact NL.rd (by assumption) | exact rdII (by assumption) (by assumption) | exact Inn.rd (by assumption) (by omega)) (by first | assumption | omega | (simp only [marks_len, marksB_len, marksR_len, sumL_marksS, List.length_take]; omega)) (by first | assumption | omega | (simp only [marks_len, marksB_len, marksR_len, sumL_marksS, List.length_take]; omega)) (by first | assumption | omega | (simp only [marks_len, marksB_len, marksR_len, sumL_marksS, List.length_take]; omega))) (fun rv4 w9 hR => ?_))
    obtain ⟨hXw9, v9, og9, rfl, ho9, hq9⟩ := hR
    have hl9 := Lo.up hq9 hB
    have hd2_9 := Dj.lo ho2.ltO hq9
    have hd3_9 := DI.fresh hn3 hq9
    have hd5_9 := Dj.lo ho5.ltO hq9
    have hd6_9 := Dj.lo hb6.ltO hq9
    have hd7_9 := Dj.lo ho7.ltO hq9
    have hd8_9 := Dj.lo ho8.ltO hq9
    have hk0_9 := OkN.lo hU0 hq9
    have hg0_9 := OgR.lo hU0.size hq9
    have hB := hB.trans hXw9
    have ho2 := ho2.up hXw9
    have hn3 := hn3.up hXw9
    have ho5 := ho5.up hXw9
    have hb6 := hb6.up hXw9
    have ho7 := ho7.up hXw9
    have ho8 := ho8.up hXw9
    have hU0 := hU0.ext hXw9
    have hwk := rdE (fO_rd (k := k) hn3 (by rw [List.length_map]; omega)) hwa.1
    refine WL.pure rfl rfl rfl (PV.move rfl) ?_
    refine WL.op rfl (OpK.call rfl T.cf95 rfl (c_impl_changeOften (by first | assumption | exact Rd.up (by assumption) hB | exact rdCh (by assumption) (by assumption)) (by first | assumption | exact Rd.up (by assumption) hB | exact Osl.rd (by assumption) | exact Osn.rdR (by assumption) | exact NL.rd (by assumption) | exact rdII (by assumption) (by assumption) | exact Inn.rd (by assumption) (by omega)) (by first | assumption | omega | (simp only [marks_len, marksB_len, marksR_len, sumL_marksS, List.length_take]; omega)) (by first | assumption | omega | (simp only [marks_len, marksB_len, marksR_len, sumL_marksS, List.length_take]; omega)) (by first | assumption | (intro k9 h9; simp only [List.length_cons, List.length_nil] at h9; (obtain rfl : k9 = 0 := (by omega)); assumption))) (fun rv5 w10 hR => ?_))
    obtain ⟨hXw10, v10, og10, rfl, ho10, hq10⟩ := hR
    have hl10 := Lo.up hq10 hB
    have hd2_10 := Dj.lo ho2.ltO hq10
    have hd3_10 := DI.fresh hn3 hq10
    have hd5_10 := Dj.lo ho5.ltO hq10
    have hd6_10 := Dj.lo hb6.ltO hq10
    have hd7_10 := Dj.lo ho7.ltO hq10
    have hd8_10 := Dj.lo ho8.ltO hq10
    have hd9_10 := Dj.lo ho9.ltO hq10
    have hk0_10 := OkN.lo hU0 hq10
    have hg0_10 := OgR.lo hU0.size hq10
    have hB := hB.trans hXw10
    have ho2 := ho2.up hXw10
    have hn3 := hn3.up hXw10
    have ho5 := ho5.up hXw10
    have hb6 := hb6.up hXw10
    have ho7 := ho7.up hXw10
    have ho8 := ho8.up hXw10
    have ho9 := ho9.up hXw10
    have hU0 := hU0.ext hXw10
    have hwk := rdE (fO_rd (k := k) hn3 (by rw [List.length_map]; omega)) hwa.1
    refine WL.pure rfl rfl rfl (PV.move rfl) ?_
    refine WL.pure rfl rfl rfl (PV.extract rfl rfl) ?_
    refine WL.pure rfl rfl rfl (PV.extract rfl rfl) ?_
    refine WL.pure rfl rfl rfl (PV.extract rfl rfl) ?_
    refine WL.pure rfl rfl rfl (PV.assign rfl) ?_
    refine WL.pure rfl rfl rfl (PV.assign rfl) ?_
    refine WL.pure rfl rfl rfl (PV.assign rfl) ?_
    refine WL.nilS ?_
    refine CW.seq ?_
    refine CW.seq ?_
    refine CW.reg ?_
    refine WL.pure rfl rfl rfl (PV.move rfl) ?_
    refine WL.pure rfl rfl rfl (PV.not rfl) ?_
    refine WL.pure rfl rfl rfl (PV.move rfl) ?_
    refine WL.split (t := 68) rfl (fun hc4 => ?_) (fun hc4 => ?_)
    · skip
      try simp only [decide_eq_true_eq, decide_eq_false_iff_not, Bool.not_eq_true', Bool.not_eq_false', Bool.not_eq_eq_eq_not, Bool.not_true, Bool.not_false, Int.not_lt, Int.not_le, Classical.not_not, beq_iff_eq, beq_eq_false_iff_ne] at hc4
      refine WL.skip rfl rfl rfl rfl rfl ?_
      refine WL.skip rfl rfl rfl rfl rfl ?_
      refine WL.pure rfl rfl rfl (PV.pickT rfl rfl) ?_
      refine WL.nilS ?_
      refine CW.condT rfl ?_
      refine CW.seq ?_
      refine CW.reg ?_
      refine WL.pure rfl rfl rfl (PV.assign rfl) ?_
      refine WL.pure rfl rfl rfl (PV.assign rfl) ?_
      refine WL.nilS ?_
      refine CW.ret ?_
      refine RQ.then ?_
      refine RQ.block ?_
      refine RQ.then ?_
      refine RQ.then ?_
      refine RQ.block ?_
      refine RQ.then ?_
      refine RQ.r2 rfl rfl ?_
      first | (have hS : lsB cs L mo = false := (by first | exact ls_n1 (by assumption) | exact ls_n2 (by omega) | exact ls_n3 (k := k) (by omega) (lsO_n1 htk (by assumption)) | exact ls_n3 (k := k) (by omega) (lsO_n2 htk (by assumption))); exact ⟨hB, .slice none 0 0, none, [], [], tE2 rfl (bE hS.symm), Osl.nil _ _, Lo.nl _, innE (Inn.zero _) (onT_no (by rw [hS]; decide)).symm, LoI.nl _, DI.nl _⟩) | (obtain rfl : k = (ov1 cs cs.length).length := (by omega); have hS := ls_y (by assumption : plnB cs L = true) hmo2 he; exact ⟨hB, _, _, _, _, tE2 rfl (bE hS.symm), ho5, hl5, innE (Inn.sel hn3 _ (by rw [List.length_map]; exact Nat.le_refl _)) (onT_yes hS).symm, LoI.sel hl3 (by rw [hn3.lo, List.length_map]; exact Nat.le_refl _), DI.sel hd3_5 (by rw [hn3.lo, List.length_map]; exact Nat.le_refl _)⟩)
    try simp only [decide_eq_true_eq, decide_eq_false_iff_not, Bool.not_eq_true', Bool.not_eq_false', Bool.not_eq_eq_eq_not, Bool.not_true, Bool.not_false, Int.not_lt, Int.not_le, Classical.not_not, beq_iff_eq, beq_eq_false_iff_ne] at hc4
    refine WL.pureG rfl rfl rfl rfl rfl (PV.move rfl) ?_
    refine WL.pureG rfl rfl rfl rfl rfl (PV.not rfl) ?_
    refine WL.pure rfl rfl rfl (PV.pickF rfl rfl) ?_
    refine WL.nilS ?_
    refine CW.cond rfl (fun hc5 => ?_) (fun hc5 => ?_)
    · skip
      try simp only [decide_eq_true_eq, decide_eq_false_iff_not, Bool.not_eq_true', Bool.not_eq_false', Bool.not_eq_eq_eq_not, Bool.not_true, Bool.not_false, Int.not_lt, Int.not_le, Classical.not_not, beq_iff_eq, beq_eq_false_iff_ne] at hc5
      refine CW.seq ?_
      refine CW.reg ?_
      refine WL.pure rfl rfl rfl (PV.assign rfl) ?_
      refine WL.pure rfl rfl rfl (PV.assign rfl) ?_
      refine WL.nilS ?_
      refine CW.ret ?_
      refine RQ.then ?_
      refine RQ.block ?_
      refine RQ.then ?_
      refine RQ.then ?_
      refine RQ.block ?_
      refine RQ.then ?_
      refine RQ.r2 rfl rfl ?_
      first | (have hS : lsB cs L mo = false := (by first | exact ls_n1 (by assumption) | exact ls_n2 (by omega) | exact ls_n3 (k := k) (by omega) (lsO_n1 htk (by assumption)) | exact ls_n3 (k := k) (by omega) (lsO_n2 htk (by assumption))); exact ⟨hB, .slice none 0 0, none, [], [], tE2 rfl (bE hS.symm), Osl.nil _ _, Lo.nl _, innE (Inn.zero _) (onT_no (by rw [hS]; decide)).symm, LoI.nl _, DI.nl _⟩) | (obtain rfl : k = (ov1 cs cs.length).length := (by omega); have hS := ls_y (by assumption : plnB cs L = true) hmo2 he; exact ⟨hB, _, _, _, _, tE2 rfl (bE hS.symm), ho5, hl5, innE (Inn.sel hn3 _ (by rw [List.length_map]; exact Nat.le_refl _)) (onT_yes hS).symm, LoI.sel hl3 (by rw [hn3.lo, List.length_map]; exact Nat.le_refl _), DI.sel hd3_5 (by rw [hn3.lo, List.length_map]; exact Nat.le_refl _)⟩)
    try simp only [decide_eq_true_eq, decide_eq_false_iff_not, Bool.not_eq_true', Bool.not_eq_false', Bool.not_eq_eq_eq_not, Bool.not_true, Bool.not_false, Int.not_lt, Int.not_le, Classical.not_not, beq_iff_eq, beq_eq_false_iff_ne] at hc5
    refine CW.skipS ?_
    refine CW.seq ?_
    refine CW.reg ?_
    refine WL.pure rfl rfl rfl (PV.move rfl) ?_
    refine WL.pure rfl rfl rfl (PV.move rfl) ?_
    refine WL.op rfl (OpK.callR rfl T.cf97 rfl (c_slices_Equal_int64_int64 (by first | assumption | exact Rd.up (by assumption) hB | exact Osl.rd (by assumption) | exact Osn.rdR (by assumption) | exact NL.rd (by assumption) | exact rdII (by assumption) (by assumption) | exact Inn.rd (by assumption) (by omega)) (by first | assumption | exact Rd.up (by assumption) hB | exact Osl.rd (by assumption) | exact Osn.rdR (by assumption) | exact NL.rd (by assumption) | exact rdII (by assumption) (by assumption) | exact Inn.rd (by assumption) (by omega))) (fun w11 hXw11 => ?_))
    have hB := hB.trans hXw11
    have ho2 := ho2.up hXw11
    have hn3 := hn3.up hXw11
    have ho5 := ho5.up hXw11
    have hb6 := hb6.up hXw11
    have ho7 := ho7.up hXw11
    have ho8 := ho8.up hXw11
    have ho9 := ho9.up hXw11
    have ho10 := ho10.up hXw11
    have hU0 := hU0.ext hXw11
    have hwk := rdE (fO_rd (k := k) hn3 (by rw [List.length_map]; omega)) hwa.1
    refine WL.pure rfl rfl rfl (PV.not rfl) ?_
    refine WL.nilS ?_
    refine CW.cond rfl (fun hc6 => ?_) (fun hc6 => ?_)
    · skip
      try simp only [decide_eq_true_eq, decide_eq_false_iff_not, Bool.not_eq_true', Bool.not_eq_false', Bool.not_eq_eq_eq_not, Bool.not_true, Bool.not_false, Int.not_lt, Int.not_le, Classical.not_not, beq_iff_eq, beq_eq_false_iff_ne] at hc6
      refine CW.reg ?_
      refine WL.pure rfl rfl rfl (PV.move rfl) ?_
      refine WL.pure rfl rfl rfl ((by first | exact PV.fieldAddr T.fl108_0 rfl (by first | assumption | exact Bx.cells (by assumption)) | exact PV.fieldAddrP T.fl108_0 rfl rfl)) ?_
      refine WL.pure rfl rfl rfl ((by first | exact PV.load0 T.na26 rfl (by first | exact Cells.up (by assumption) hB | exact Bx.cells (by assumption) | assumption) (Ext.refl _) rfl | exact PV.load1 T.na26 rfl (by first | exact Cells.up (by assumption) hB | exact Bx.cells (by assumption) | assumption) (Ext.refl _) rfl)) ?_
      refine WL.op rfl (OpK.buildS VV (os := [.tmp 78]) [_] rfl T.sl28 rfl rfl T.zv26 rfl (by intro z hz; first | rfl | (simp only [List.mem_cons, List.not_mem_nil, or_false] at hz; subst hz; exact (by first | exact Rd.cells1 (by assumption) | exact Osl.cells1 (by assumption) | exact Osn.cells1 (by assumption) | exact Rd.cells1 (NL.rd (by assumption)) | exact Inn.cell1 (by assumption) (by omega) | rfl))) rfl (fun v11 g11 w12 hXw12 ho11 hge11 => ?_))
      have hl11 := Lo.new hB hge11
      have hd2_11 := Dj.new ho2.ltO hge11
      have hd3_11 := DI.new hn3 hge11
      have hd5_11 := Dj.new ho5.ltO hge11
      have hd6_11 := Dj.new hb6.ltO hge11
      have hd7_11 := Dj.new ho7.ltO hge11
      have hd8_11 := Dj.new ho8.ltO hge11
      have hd9_11 := Dj.new ho9.ltO hge11
      have hd10_11 := Dj.new ho10.ltO hge11
      have hk0_11 := OkN.new hU0 hge11
      have hg0_11 := OgR.new hU0.size hge11
      have hB := hB.trans hXw12
      have ho2 := ho2.up hXw12
      have hn3 := hn3.up hXw12
      have ho5 := ho5.up hXw12
      have hb6 := hb6.up hXw12
      have ho7 := ho7.up hXw12
      have ho8 := ho8.up hXw12
      have ho9 := ho9.up hXw12
      have ho10 := ho10.up hXw12
      have hU0 := hU0.ext hXw12
      have hwk := rdE (fO_rd (k := k) hn3 (by rw [List.length_map]; omega)) hwa.1
      refine WL.op rfl (OpK.appendS (f := VV) rfl T.sl28 T.zv26 rfl rfl ho5 rfl (Osl.srcM ho11 (one_mem (rfl))) (by first | (simp only [List.length_cons, List.length_nil]; omega) | (simp_all; omega)) (fun v12 og12 w13 hXw13 ho12 hap12 => ?_))
      have hl12 := Lo.app hl5 hB hap12
      have hd2_12 := Dj.app hd2_5 ho2.ltO hap12
      have hd3_12 := DI.app hd3_5 hn3 hap12
      have hd6_12 := Dj.app (Dj.symm hd5_6) hb6.ltO hap12
      have hd7_12 := Dj.app (Dj.symm hd5_7) ho7.ltO hap12
      have hd8_12 := Dj.app (Dj.symm hd5_8) ho8.ltO hap12
      have hd9_12 := Dj.app (Dj.symm hd5_9) ho9.ltO hap12
      have hd10_12 := Dj.app (Dj.symm hd5_10) ho10.ltO hap12
      have hd11_12 := Dj.app (Dj.symm hd5_11) ho11.ltO hap12
      have hk0_12 := OkN.app hU0 hk0_5 hap12
      have hg0_12 := OgR.app hg0_5 hU0.size hap12
      have hB := hB.updL hXw13 hl5
      have ho2 := ho2.updD hXw13 hd2_5
      have hn3 := hn3.updD hXw13 hd3_5
      have hb6 := hb6.updD hXw13 (Dj.symm hd5_6)
      have ho7 := ho7.updD hXw13 (Dj.symm hd5_7)
      have ho8 := ho8.updD hXw13 (Dj.symm hd5_8)
      have ho9 := ho9.updD hXw13 (Dj.symm hd5_9)
      have ho10 := ho10.updD hXw13 (Dj.symm hd5_10)
      have ho11 := ho11.updD hXw13 (Dj.symm hd5_11)
      have hU0 := hU0.step hXw13 hk0_5
      have hwk := rdE (fO_rd (k := k) hn3 (by rw [List.length_map]; omega)) hwa.1
      refine WL.pure rfl rfl rfl (PV.assign rfl) ?_
      refine WL.nil ?_
      refine NQ.block ?_
      refine NQ.then ?_
      refine CW.reg ?_
      refine WL.pure rfl rfl rfl (PV.add rfl rfl (by constructor <;> omega)) ?_
      refine WL.pure rfl rfl rfl (PV.move rfl) ?_
      refine WL.nil ?_
      refine NQ.next (ρ := [(8, _), (30, _)]) ⟨rfl, rfl, rfl, rfl, rfl, rfl, trivial⟩ ?_
      exact ⟨_, ⟨v12, og12, k + 1, rfl, rfl, hU0, osE ho12 (by first | exact (sel_no (lsP_n htk (by assumption))) | (rw [fO_get (by omega)]; exact sel_put (lsP_y htk (by assumption)))), (by first | exact hg0_12 | exact OgR.weak hg0_12), (by first | omega | assumption | (simp_all; done) | (simp_all; omega)), (by intro j h; rcases Nat.lt_succ_iff_lt_or_eq.1 h with h | rfl; exact he j h; exact lsO_y htk (by assumption) (by assumption))⟩, by omega⟩
    try simp only [decide_eq_true_eq, decide_eq_false_iff_not, Bool.not_eq_true', Bool.not_eq_false', Bool.not_eq_eq_eq_not, Bool.not_true, Bool.not_false, Int.not_lt, Int.not_le, Classical.not_not, beq_iff_eq, beq_eq_false_iff_ne] at hc6
    refine CW.skip ?_
    refine NQ.block ?_
    refine NQ.then ?_
    refine CW.reg ?_
    refine WL.pure rfl rfl rfl (PV.add rfl rfl (by constructor <;> omega)) ?_
    refine WL.pure rfl rfl rfl (PV.move rfl) ?_
    refine WL.nil ?_
    refine NQ.next (ρ := [(8, _), (30, _)]) ⟨rfl, rfl, rfl, rfl, rfl, rfl, trivial⟩ ?_
    exact ⟨_, ⟨v5, og5, k + 1, rfl, rfl, hU0, osE ho5 (by first | exact (sel_no (lsP_n htk (by assumption))) | (rw [fO_get (by omega)]; exact sel_put (lsP_y htk (by assumption)))), (by first | exact hg0_5 | exact OgR.weak hg0_5), (by first | omega | assumption | (simp_all; done) | (simp_all; omega)), (by intro j h; rcases Nat.lt_succ_iff_lt_or_eq.1 h with h | rfl; exact he j h; exact lsO_y htk (by assumption) (by assumption))⟩, by omega⟩
  try simp only [decide_eq_true_eq, decide_eq_false_iff_not, Bool.not_eq_true', Bool.not_eq_false', Bool.not_eq_eq_eq_not, Bool.not_true, Bool.not_false, Int.not_lt, Int.not_le, Classical.not_not, beq_iff_eq, beq_eq_false_iff_ne] at hc3
  refine CW.exit ?_
  refine XQ.then ?_
  refine XQ.then ?_
  refine XQ.here ?_
  refine NQ.then ?_
  refine CW.seq ?_
  refine CW.reg ?_
  refine WL.pure rfl rfl rfl (PV.move rfl) ?_
  refine WL.pure rfl rfl rfl (PV.assign rfl) ?_
  refine WL.pure rfl rfl rfl (PV.assign rfl) ?_
  refine WL.nilS ?_
  refine CW.ret ?_
  refine RQ.r2 rfl rfl ?_
  first | (have hS : lsB cs L mo = false := (by first | exact ls_n1 (by assumption) | exact ls_n2 (by omega) | exact ls_n3 (k := k) (by omega) (lsO_n1 htk (by assumption)) | exact ls_n3 (k := k) (by omega) (lsO_n2 htk (by assumption))); exact ⟨hB, .slice none 0 0, none, [], [], tE2 rfl (bE hS.symm), Osl.nil _ _, Lo.nl _, innE (Inn.zero _) (onT_no (by rw [hS]; decide)).symm, LoI.nl _, DI.nl _⟩) | (obtain rfl : k = (ov1 cs cs.length).length := (by omega); have hS := ls_y (by assumption : plnB cs L = true) hmo2 he; exact ⟨hB, _, _, _, _, tE2 rfl (bE hS.symm), ho5, hl5, innE (Inn.sel hn3 _ (by rw [List.length_map]; exact Nat.le_refl _)) (onT_yes hS).symm, LoI.sel hl3 (by rw [hn3.lo, List.length_map]; exact Nat.le_refl _), DI.sel hd3_5 (by rw [hn3.lo, List.length_map]; exact Nat.le_refl _)⟩)
theorem c_laws_eqInt64S {w : World} {va vb : Value} {xs ys : List Int} (ha : Rd EI w va xs) (hb : Rd EI w vb ys) : Calls Try.prog 22 #[va, vb] w (Ret1 (RQt (.bool (decide (xs = ys))) w)) := by
  have hB : Ext w w := Ext.refl w
  have hla := ha.leI; have hlb := hb.leI
  refine callsOf (vs := [_, _]) Try.func22 rfl Try.ntmps22 rfl rfl ?_
  refine CW.seq ?_
  refine CW.reg ?_
  refine WL.pure rfl rfl rfl (PV.assign rfl) ?_
  refine WL.nilS ?_
  refine CW.seq ?_
  refine CW.seq ?_
  refine CW.reg ?_
  refine WL.pure rfl rfl rfl (PV.move rfl) ?_
  refine WL.pure rfl rfl rfl ((by first | exact PV.len rfl (by assumption) T.sl26 | exact PV.lenOs rfl (by assumption) T.sl26 | exact PV.len rfl (NL.rd (by assumption)) T.sl26 | exact PV.len rfl (Inn.rd (by assumption) (by omega)) T.sl26)) ?_
  refine WL.pure rfl rfl rfl (PV.move rfl) ?_
  refine WL.pure rfl rfl rfl ((by first | exact PV.len rfl (by assumption) T.sl26 | exact PV.lenOs rfl (by assumption) T.sl26 | exact PV.len rfl (NL.rd (by assumption)) T.sl26 | exact PV.len rfl (Inn.rd (by assumption) (by omega)) T.sl26)) ?_
  refine WL.pure rfl rfl rfl (PV.neq rfl rfl) ?_
  refine WL.nilS ?_
  refine CW.cond rfl (fun hc1 => ?_) (fun hc1 => ?_)
  · skip
    try simp only [decide_eq_true_eq, decide_eq_false_iff_not, Bool.not_eq_true', Bool.not_eq_false', Bool.not_eq_eq_eq_not, Bool.not_true, Bool.not_false, Int.not_lt, Int.not_le, Classical.not_not, beq_iff_eq, beq_eq_false_iff_ne] at hc1
    refine CW.seq ?_
    refine CW.reg ?_
    refine WL.pure rfl rfl rfl (PV.assign rfl) ?_
    refine WL.nilS ?_
    refine CW.ret ?_
    refine RQ.then ?_
    refine RQ.r1 rfl ?_
    refine ⟨?_, hB⟩
    first | exact bT (eq_of_takes (by omega) (by omega) he) | exact bF (by rintro rfl; simp_all)
  try simp only [decide_eq_true_eq, decide_eq_false_iff_not, Bool.not_eq_true', Bool.not_eq_false', Bool.not_eq_eq_eq_not, Bool.not_true, Bool.not_false, Int.not_lt, Int.not_le, Classical.not_not, beq_iff_eq, beq_eq_false_iff_ne] at hc1
  refine CW.skipS ?_
  refine CW.seq ?_
  refine CW.seq ?_
  refine CW.reg ?_
  refine WL.pure rfl rfl rfl (PV.assign rfl) ?_
  refine WL.nilS ?_
  refine CW.block ?_
  refine CW.loop (σk := [(0, _), (1, _)]) (fun ρ wz m => ∃ (k : Nat), ρ = [(5, .int .i64 (k : Nat))] ∧ m = xs.length - k ∧ UpdL [] w wz ∧ (k ≤ xs.length) ∧ (xs.take k = ys.take k)) (ρ₀ := [(5, _)]) (m₀ := _) ⟨rfl, rfl, rfl, trivial⟩ ⟨0, rfl, rfl, (UpdL.refl _ _), (by first | omega | rfl | (simp; done) | assumption | (simp_all; done)), (by first | omega | rfl | (simp; done) | assumption | (simp_all; done))⟩ ?_
  rintro _ wl1 _ ⟨k, rfl, rfl, hU0, hk, he⟩
  have hB := hB.loop hU0 trivial
  refine CW.seq ?_
  refine CW.seq ?_
  refine CW.reg ?_
  refine WL.pure rfl rfl rfl (PV.move rfl) ?_
  refine WL.pure rfl rfl rfl (PV.move rfl) ?_
  refine WL.pure rfl rfl rfl ((by first | exact PV.len rfl (by assumption) T.sl26 | exact PV.lenOs rfl (by assumption) T.sl26 | exact PV.len rfl (NL.rd (by assumption)) T.sl26 | exact PV.len rfl (Inn.rd (by assumption) (by omega)) T.sl26)) ?_
  refine WL.pure rfl rfl rfl (PV.lss rfl rfl) ?_
  refine WL.nilS ?_
  refine CW.cond rfl (fun hc2 => ?_) (fun hc2 => ?_)
  · skip
    try simp only [decide_eq_true_eq, decide_eq_false_iff_not, Bool.not_eq_true', Bool.not_eq_false', Bool.not_eq_eq_eq_not, Bool.not_true, Bool.not_false, Int.not_lt, Int.not_le, Classical.not_not, beq_iff_eq, beq_eq_false_iff_ne] at hc2
    refine CW.skipS ?_
    refine CW.seq ?_
    refine CW.block ?_
    refine CW.seq ?_
    refine CW.draw T.mixed (by kernel_rfl) (fun _ _ _ _ _ h => h) (fun w8 w9 => Upd none w8 w9) 9 (.take 0 (.take 1 (.take 2 (.take 3 (.take 4 (.take 5 (.take 6 (.take 7 (.take 8 .done))))))))) (by kernel_rfl) (fun w1 hXd => ?_)
    have hB := hB.trans hXd
    have hU0 := hU0.ext hXd
    have hBr := hB
    have hS : Upd none w1 w1 := Ext.toUpd (Ext.refl _)
    refine HP.take rfl rfl rfl rfl hS (fun wS hS1 => PV.move rfl) ?_
    refine HP.take rfl rfl rfl rfl hS (fun wS hS1 => PV.move rfl) ?_
    first
      | refine HP.at (x := .tmp 17) (y := .tmp 18) (E := EI) (0) rfl rfl (by first | assumption | exact Inn.rd (by assumption) (by omega)) (by first | omega | (simp only [List.length_set]; omega) | (simp only [List.length_append, List.length_take, List.length_replicate, List.length_drop]; omega)) (fun p1 csp1 hpp1 hcp1 hq => ?_)
      | refine HP.atZ (x := .tmp 17) (y := .tmp 18) (E := EI) (0) rfl rfl (by first | assumption | exact Inn.rd (by assumption) (by omega)) (by first | omega | (simp only [List.length_set]; omega) | (simp only [List.length_append, List.length_take, List.length_replicate, List.length_drop]; omega)) (fun p1 csp1 hpp1 hzp1 hcp1 hq => ?_)
    cases hq
    refine HP.take rfl rfl rfl rfl hS (fun wS hS1 => (by first | exact PV.indexAddr hpp1 rfl rfl T.sl26 | exact PV.indexAddr hpp1 rfl (by rw [← hzp1]; rfl) T.sl26)) ?_
    refine HP.take rfl rfl rfl rfl hS (fun wS hS1 => (by first | exact PV.load0 T.na2 rfl (by first | exact Cells.up (by assumption) (hBr.trans hS1) | exact Bx.cells (Bx.updD (by assumption) hS1 (Dj.nlR _)) | exact Cells.upd (by assumption) hS1 (by simp)) (Ext.refl _) rfl | exact PV.load1 T.na2 rfl (by first | exact Cells.up (by assumption) (hBr.trans hS1) | exact Bx.cells (Bx.updD (by assumption) hS1 (Dj.nlR _)) | exact Cells.upd (by assumption) hS1 (by simp)) (Ext.refl _) rfl)) ?_
    refine HP.take rfl rfl rfl rfl hS (fun wS hS1 => PV.move rfl) ?_
    refine HP.take rfl rfl rfl rfl hS (fun wS hS1 => PV.move rfl) ?_
    first
      | refine HP.at (x := .tmp 21) (y := .tmp 22) (E := EI) (0) rfl rfl (by first | assumption | exact Inn.rd (by assumption) (by omega)) (by first | omega | (simp only [List.length_set]; omega) | (simp only [List.length_append, List.length_take, List.length_replicate, List.length_drop]; omega)) (fun p2 csp2 hpp2 hcp2 hq => ?_)
      | refine HP.atZ (x := .tmp 21) (y := .tmp 22) (E := EI) (0) rfl rfl (by first | assumption | exact Inn.rd (by assumption) (by omega)) (by first | omega | (simp only [List.length_set]; omega) | (simp only [List.length_append, List.length_take, List.length_replicate, List.length_drop]; omega)) (fun p2 csp2 hpp2 hzp2 hcp2 hq => ?_)
    cases hq
    refine HP.take rfl rfl rfl rfl hS (fun wS hS1 => (by first | exact PV.indexAddr hpp2 rfl rfl T.sl26 | exact PV.indexAddr hpp2 rfl (by rw [← hzp2]; rfl) T.sl26)) ?_
    refine HP.take rfl rfl rfl rfl hS (fun wS hS1 => (by first | exact PV.load0 T.na2 rfl (by first | exact Cells.up (by assumption) (hBr.trans hS1) | exact Bx.cells (Bx.updD (by assumption) hS1 (Dj.nlR _)) | exact Cells.upd (by assumption) hS1 (by simp)) (Ext.refl _) rfl | exact PV.load1 T.na2 rfl (by first | exact Cells.up (by assumption) (hBr.trans hS1) | exact Bx.cells (Bx.updD (by assumption) hS1 (Dj.nlR _)) | exact Cells.upd (by assumption) hS1 (by simp)) (Ext.refl _) rfl)) ?_
    refine HP.take rfl rfl rfl rfl hS (fun wS hS1 => PV.neq rfl rfl) ?_
    refine HP.doneS ?_
    refine CW.cond rfl (fun hc3 => ?_) (fun hc3 => ?_)
    · skip
      try simp only [decide_eq_true_eq, decide_eq_false_iff_not, Bool.not_eq_true', Bool.not_eq_false', Bool.not_eq_eq_eq_not, Bool.not_true, Bool.not_false, Int.not_lt, Int.not_le, Classical.not_not, beq_iff_eq, beq_eq_false_iff_ne] at hc3
      refine CW.seq ?_
      refine CW.reg ?_
      refine WL.pure rfl rfl rfl (PV.assign rfl) ?_
      refine WL.nilS ?_
      refine CW.ret ?_
      refine RQ.block ?_
      refine RQ.then ?_
      refine RQ.then ?_
      refine RQ.block ?_
      refine RQ.then ?_
      refine RQ.r1 rfl ?_
      refine ⟨?_, hB⟩
      first | exact bT (eq_of_takes (by omega) (by omega) he) | exact bF (by rintro rfl; simp_all)
    try simp only [decide_eq_true_eq, decide_eq_false_iff_not, Bool.not_eq_true', Bool.not_eq_false', Bool.not_eq_eq_eq_not, Bool.not_true, Bool.not_false, Int.not_lt, Int.not_le, Classical.not_not, beq_iff_eq, beq_eq_false_iff_ne] at hc3
    refine CW.skip ?_
    refine NQ.block ?_
    refine NQ.then ?_
    refine CW.reg ?_
    refine WL.pure rfl rfl rfl (PV.move rfl) ?_
    refine WL.pure rfl rfl rfl (PV.add rfl rfl (by constructor <;> omega)) ?_
    refine WL.pure rfl rfl rfl (PV.assign rfl) ?_
    refine WL.nil ?_
    refine NQ.next (ρ := [(5, _)]) ⟨rfl, rfl, rfl, trivial⟩ ?_
    exact ⟨_, ⟨k + 1, rfl, rfl, hU0, (by first | omega | assumption | (simp_all; done) | (simp_all; omega)), (by exact take_eq_succ (by omega) (by omega) he (by assumption))⟩, by omega⟩
  try simp only [decide_eq_true_eq, decide_eq_false_iff_not, Bool.not_eq_true', Bool.not_eq_false', Bool.not_eq_eq_eq_not, Bool.not_true, Bool.not_false, Int.not_lt, Int.not_le, Classical.not_not, beq_iff_eq, beq_eq_false_iff_ne] at hc2
  refine CW.exit ?_
  refine XQ.then ?_
  refine XQ.then ?_
  refine XQ.here ?_
  refine NQ.then ?_
  refine CW.seq ?_
  refine CW.reg ?_
  refine WL.pure rfl rfl rfl (PV.assign rfl) ?_
  refine WL.nilS ?_
  refine CW.ret ?_
  refine RQ.r1 rfl ?_
  refine ⟨?_, hB⟩
  first | exact bT (eq_of_takes (by omega) (by omega) he) | exact bF (by rintro rfl; simp_all)
theorem c_laws_eqInt64SS {w : World} {va vb : Value} {xs ys : List (List Int)} (ha : Rd (ESl EI) w va xs) (hb : Rd (ESl EI) w vb ys) : Calls Try.prog 20 #[va, vb] w (Ret1 (RQt (.bool (decide (xs = ys))) w)) := by
  have hB : Ext w w := Ext.refl w
  have hla := ha.leI; have hlb := hb.leI
  refine callsOf (vs := [_, _]) Try.func20 rfl Try.ntmps20 rfl rfl ?_
  refine CW.seq ?_
  refine CW.reg ?_
  refine WL.pure rfl rfl rfl (PV.assign rfl) ?_
  refine WL.nilS ?_
  refine CW.seq ?_
  refine CW.seq ?_
  refine CW.reg ?_
  refine WL.pure rfl rfl rfl (PV.move rfl) ?_
  refine WL.pure rfl rfl rfl ((by first | exact PV.len rfl (by assumption) T.sl28 | exact PV.lenOs rfl (by assumption) T.sl28 | exact PV.len rfl (NL.rd (by assumption)) T.sl28 | exact PV.len rfl (Inn.rd (by assumption) (by omega)) T.sl28)) ?_
  refine WL.pure rfl rfl rfl (PV.move rfl) ?_
  refine WL.pure rfl rfl rfl ((by first | exact PV.len rfl (by assumption) T.sl28 | exact PV.lenOs rfl (by assumption) T.sl28 | exact PV.len rfl (NL.rd (by assumption)) T.sl28 | exact PV.len rfl (Inn.rd (by assumption) (by omega)) T.sl28)) ?_
  refine WL.pure rfl rfl rfl (PV.neq rfl rfl) ?_
  refine WL.nilS ?_
  refine CW.cond rfl (fun hc1 => ?_) (fun hc1 => ?_)
  · skip
    try simp only [decide_eq_true_eq, decide_eq_false_iff_not, Bool.not_eq_true', Bool.not_eq_false', Bool.not_eq_eq_eq_not, Bool.not_true, Bool.not_false, Int.not_lt, Int.not_le, Classical.not_not, beq_iff_eq, beq_eq_false_iff_ne] at hc1
    refine CW.seq ?_
    refine CW.reg ?_
    refine WL.pure rfl rfl rfl (PV.assign rfl) ?_
    refine WL.nilS ?_
    refine CW.ret ?_
    refine RQ.then ?_
    refine RQ.r1 rfl ?_
    refine ⟨?_, hB⟩
    first | exact bT (eq_of_takes (by omega) (by omega) he) | exact bF (by rintro rfl; first | omega | (rename_i h9; exact h9 rfl) | simp_all)
  try simp only [decide_eq_true_eq, decide_eq_false_iff_not, Bool.not_eq_true', Bool.not_eq_false', Bool.not_eq_eq_eq_not, Bool.not_true, Bool.not_false, Int.not_lt, Int.not_le, Classical.not_not, beq_iff_eq, beq_eq_false_iff_ne] at hc1
  refine CW.skipS ?_
  refine CW.seq ?_
  refine CW.seq ?_
  refine CW.reg ?_
  refine WL.pure rfl rfl rfl (PV.assign rfl) ?_
  refine WL.nilS ?_
  refine CW.block ?_
  refine CW.loop (σk := [(0, _), (1, _)]) (fun ρ wz m => ∃ (k : Nat), ρ = [(5, .int .i64 (k : Nat))] ∧ m = xs.length - k ∧ UpdL [] w wz ∧ (k ≤ xs.length) ∧ (xs.take k = ys.take k)) (ρ₀ := [(5, _)]) (m₀ := _) ⟨rfl, rfl, rfl, trivial⟩ ⟨0, rfl, rfl, (UpdL.refl _ _), (by first | omega | rfl | (simp; done) | assumption | (simp_all; done)), (by first | omega | rfl | (simp; done) | assumption | (simp_all; done))⟩ ?_
  rintro _ wl1 _ ⟨k, rfl, rfl, hU0, hk, he⟩
  have hB := hB.loop hU0 trivial
  refine CW.seq ?_
  refine CW.seq ?_
  refine CW.reg ?_
  refine WL.pure rfl rfl rfl (PV.move rfl) ?_
  refine WL.pure rfl rfl rfl (PV.move rfl) ?_
  refine WL.pure rfl rfl rfl ((by first | exact PV.len rfl (by assumption) T.sl28 | exact PV.lenOs rfl (by assumption) T.sl28 | exact PV.len rfl (NL.rd (by assumption)) T.sl28 | exact PV.len rfl (Inn.rd (by assumption) (by omega)) T.sl28)) ?_
  refine WL.pure rfl rfl rfl (PV.lss rfl rfl) ?_
  refine WL.nilS ?_
  refine CW.cond rfl (fun hc2 => ?_) (fun hc2 => ?_)
  · skip
    try simp only [decide_eq_true_eq, decide_eq_false_iff_not, Bool.not_eq_true', Bool.not_eq_false', Bool.not_eq_eq_eq_not, Bool.not_true, Bool.not_false, Int.not_lt, Int.not_le, Classical.not_not, beq_iff_eq, beq_eq_false_iff_ne] at hc2
    refine CW.skipS ?_
    refine CW.seq ?_
    refine CW.block ?_
    refine CW.seq ?_
    refine CW.draw T.mixed (by kernel_rfl) (fun _ _ _ _ _ h => h) (fun w8 w9 => Upd none w8 w9) 10 (.take 0 (.take 1 (.take 2 (.take 3 (.take 4 (.take 5 (.take 6 (.take 7 (.must 8 (.take 9 .done)))))))))) (by kernel_rfl) (fun w1 hXd => ?_)
    have hB := hB.trans hXd
    have hU0 := hU0.ext hXd
    have hBr := hB
    have hS : Upd none w1 w1 := Ext.toUpd (Ext.refl _)
    refine HP.take rfl rfl rfl rfl hS (fun wS hS1 => PV.move rfl) ?_
    refine HP.take rfl rfl rfl rfl hS (fun wS hS1 => PV.move rfl) ?_
    first
      | refine HP.at (x := .tmp 17) (y := .tmp 18) (E := ESl EI) ([]) rfl rfl (by first | assumption | exact Inn.rd (by assumption) (by omega)) (by first | omega | (simp only [List.length_set]; omega) | (simp only [List.length_append, List.length_take, List.length_replicate, List.length_drop]; omega)) (fun p1 csp1 hpp1 hcp1 hq => ?_)
      | refine HP.atZ (x := .tmp 17) (y := .tmp 18) (E := ESl EI) ([]) rfl rfl (by first | assumption | exact Inn.rd (by assumption) (by omega)) (by first | omega | (simp only [List.length_set]; omega) | (simp only [List.length_append, List.length_take, List.length_replicate, List.length_drop]; omega)) (fun p1 csp1 hpp1 hzp1 hcp1 hq => ?_)
    obtain ⟨vq, rfl, hrq⟩ := hq; have hrql := hrq.leI
    refine HP.take rfl rfl rfl rfl hS (fun wS hS1 => (by first | exact PV.indexAddr hpp1 rfl rfl T.sl28 | exact PV.indexAddr hpp1 rfl (by rw [← hzp1]; rfl) T.sl28)) ?_
    refine HP.take rfl rfl rfl rfl hS (fun wS hS1 => (by first | exact PV.load0 T.na26 rfl (by first | exact Cells.up (by assumption) (hBr.trans hS1) | exact Bx.cells (Bx.updD (by assumption) hS1 (Dj.nlR _)) | exact Cells.upd (by assumption) hS1 (by simp)) (Ext.refl _) rfl | exact PV.load1 T.na26 rfl (by first | exact Cells.up (by assumption) (hBr.trans hS1) | exact Bx.cells (Bx.updD (by assumption) hS1 (Dj.nlR _)) | exact Cells.upd (by assumption) hS1 (by simp)) (Ext.refl _) rfl)) ?_
    refine HP.take rfl rfl rfl rfl hS (fun wS hS1 => PV.move rfl) ?_
    refine HP.take rfl rfl rfl rfl hS (fun wS hS1 => PV.move rfl) ?_
    first
      | refine HP.at (x := .tmp 21) (y := .tmp 22) (E := ESl EI) ([]) rfl rfl (by first | assumption | exact Inn.rd (by assumption) (by omega)) (by first | omega | (simp only [List.length_set]; omega) | (simp only [List.length_append, List.length_take, List.length_replicate, List.length_drop]; omega)) (fun p2 csp2 hpp2 hcp2 hq => ?_)
      | refine HP.atZ (x := .tmp 21) (y := .tmp 22) (E := ESl EI) ([]) rfl rfl (by first | assumption | exact Inn.rd (by assumption) (by omega)) (by first | omega | (simp only [List.length_set]; omega) | (simp only [List.length_append, List.length_take, List.length_replicate, List.length_drop]; omega)) (fun p2 csp2 hpp2 hzp2 hcp2 hq => ?_)
    obtain ⟨vq, rfl, hrq⟩ := hq; have hrql := hrq.leI
    refine HP.take rfl rfl rfl rfl hS (fun wS hS1 => (by first | exact PV.indexAddr hpp2 rfl rfl T.sl28 | exact PV.indexAddr hpp2 rfl (by rw [← hzp2]; rfl) T.sl28)) ?_
    refine HP.take rfl rfl rfl rfl hS (fun wS hS1 => (by first | exact PV.load0 T.na26 rfl (by first | exact Cells.up (by assumption) (hBr.trans hS1) | exact Bx.cells (Bx.updD (by assumption) hS1 (Dj.nlR _)) | exact Cells.upd (by assumption) hS1 (by simp)) (Ext.refl _) rfl | exact PV.load1 T.na26 rfl (by first | exact Cells.up (by assumption) (hBr.trans hS1) | exact Bx.cells (Bx.updD (by assumption) hS1 (Dj.nlR _)) | exact Cells.upd (by assumption) hS1 (by simp)) (Ext.refl _) rfl)) ?_
    refine HP.must rfl rfl (OpK.callR rfl T.cf22 rfl (c_laws_eqInt64S (by first | assumption | exact Rd.up (by assumption) hB | exact Osl.rd (by assumption) | exact Osn.rdR (by assumption) | exact NL.rd (by assumption) | exact rdII (by assumption) (by assumption) | exact Inn.rd (by assumption) (by omega)) (by first | assumption | exact Rd.up (by assumption) hB | exact Osl.rd (by assumption) | exact Osn.rdR (by assumption) | exact NL.rd (by assumption) | exact rdII (by assumption) (by assumption) | exact Inn.rd (by assumption) (by omega))) (fun w2 hXw2 => ?_))
    refine ⟨Upd.trans hS hXw2, ?_⟩
    have hS := Upd.trans hS hXw2
    have hB := hB.trans hXw2
    have hU0 := hU0.ext hXw2
    refine HP.take rfl rfl rfl rfl hS (fun wS hS1 => PV.not rfl) ?_
    refine HP.doneS ?_
    refine CW.cond rfl (fun hc3 => ?_) (fun hc3 => ?_)
    · skip
      try simp only [decide_eq_true_eq, decide_eq_false_iff_not, Bool.not_eq_true', Bool.not_eq_false', Bool.not_eq_eq_eq_not, Bool.not_true, Bool.not_false, Int.not_lt, Int.not_le, Classical.not_not, beq_iff_eq, beq_eq_false_iff_ne] at hc3
      refine CW.seq ?_
      refine CW.reg ?_
      refine WL.pure rfl rfl rfl (PV.assign rfl) ?_
      refine WL.nilS ?_
      refine CW.ret ?_
      refine RQ.block ?_
      refine RQ.then ?_
      refine RQ.then ?_
      refine RQ.block ?_
      refine RQ.then ?_
      refine RQ.r1 rfl ?_
      refine ⟨?_, hB⟩
      first | exact bT (eq_of_takes (by omega) (by omega) he) | exact bF (by rintro rfl; first | omega | (rename_i h9; exact h9 rfl) | simp_all)
    try simp only [decide_eq_true_eq, decide_eq_false_iff_not, Bool.not_eq_true', Bool.not_eq_false', Bool.not_eq_eq_eq_not, Bool.not_true, Bool.not_false, Int.not_lt, Int.not_le, Classical.not_not, beq_iff_eq, beq_eq_false_iff_ne] at hc3
    refine CW.skip ?_
    refine NQ.block ?_
    refine NQ.then ?_
    refine CW.reg ?_
    refine WL.pure rfl rfl rfl (PV.move rfl) ?_
    refine WL.pure rfl rfl rfl (PV.add rfl rfl (by constructor <;> omega)) ?_
    refine WL.pure rfl rfl rfl (PV.assign rfl) ?_
    refine WL.nil ?_
    refine NQ.next (ρ := [(5, _)]) ⟨rfl, rfl, rfl, trivial⟩ ?_
    exact ⟨_, ⟨k + 1, rfl, rfl, hU0, (by first | omega | assumption | (simp_all; done) | (simp_all; omega)), (by exact take_eq_succ (d := []) (by omega) (by omega) he (by assumption))⟩, by omega⟩
  try simp only [decide_eq_true_eq, decide_eq_false_iff_not, Bool.not_eq_true', Bool.not_eq_false', Bool.not_eq_eq_eq_not, Bool.not_true, Bool.not_false, Int.not_lt, Int.not_le, Classical.not_not, beq_iff_eq, beq_eq_false_iff_ne] at hc2
  refine CW.exit ?_
  refine XQ.then ?_
  refine XQ.then ?_
  refine XQ.here ?_
  refine NQ.then ?_
  refine CW.seq ?_
  refine CW.reg ?_
  refine WL.pure rfl rfl rfl (PV.assign rfl) ?_
  refine WL.nilS ?_
  refine CW.ret ?_
  refine RQ.r1 rfl ?_
  refine ⟨?_, hB⟩
  first | exact bT (eq_of_takes (by omega) (by omega) he) | exact bF (by rintro rfl; first | omega | (rename_i h9; exact h9 rfl) | simp_all)
theorem c_laws_eqChange {w : World} {va0 : Value} {xa0 : List Int} {va1 : Value} {xa1 : List Int} {va2 : Value} {xa2 : List Int} {va3 : Value} {xa3 : List Int} {vb0 : Value} {xb0 : List Int} {vb1 : Value} {xb1 : List Int} {vb2 : Value} {xb2 : List Int} {vb3 : Value} {xb3 : List Int}  (ha0 : Rd EI w va0 xa0) (ha1 : Rd EI w va1 xa1) (ha2 : Rd EI w va2 xa2) (ha3 : Rd EI w va3 xa3) (hb0 : Rd EI w vb0 xb0) (hb1 : Rd EI w vb1 xb1) (hb2 : Rd EI w vb2 xb2) (hb3 : Rd EI w vb3 xb3) : Calls Try.prog 39 #[.agg #[va0, va1, va2, va3], .agg #[vb0, vb1, vb2, vb3]] w (Ret1 (RQt (.bool (decide (xa0 = xb0 ∧ xa1 = xb1 ∧ xa2 = xb2 ∧ xa3 = xb3))) w)) := by
  have hB : Ext w w := Ext.refl w
  have hla0 := ha0.leI; have hla1 := ha1.leI; have hla2 := ha2.leI; have hla3 := ha3.leI; have hlb0 := hb0.leI; have hlb1 := hb1.leI; have hlb2 := hb2.leI; have hlb3 := hb3.leI
  refine callsOf (vs := [_, _]) Try.func39 rfl Try.ntmps39 rfl rfl ?_
  refine CW.seq ?_
  refine CW.reg ?_
  refine WL.op rfl (OpK.box rfl rfl (by first | exact Rd.cells1 (by assumption) | exact Osl.cells1 (by assumption) | exact Osn.cells1 (by assumption) | exact Rd.cells1 (NL.rd (by assumption)) | exact Inn.cell1 (by assumption) (by omega) | rfl) (fun b1 w1 hXw1 hb1 hge1 => ?_))
  have hl1 := Lo.new hB hge1
  have hB := hB.trans hXw1
  refine WL.op rfl (OpK.box rfl rfl (by first | exact Rd.cells1 (by assumption) | exact Osl.cells1 (by assumption) | exact Osn.cells1 (by assumption) | exact Rd.cells1 (NL.rd (by assumption)) | exact Inn.cell1 (by assumption) (by omega) | rfl) (fun b2 w2 hXw2 hb2 hge2 => ?_))
  have hl2 := Lo.new hB hge2
  have hd1_2 := Dj.new hb1.ltO hge2
  have hB := hB.trans hXw2
  have hb1 := hb1.up hXw2
  refine WL.pure rfl rfl rfl (PV.assign rfl) ?_
  refine WL.nilS ?_
  refine CW.seq ?_
  refine CW.seq ?_
  refine CW.reg ?_
  refine WL.pure rfl rfl rfl ((by first | exact PV.fieldAddr T.fl58_0 rfl (by first | assumption | exact Bx.cells (by assumption)) | exact PV.fieldAddrP T.fl58_0 rfl rfl)) ?_
  refine WL.pure rfl rfl rfl ((by first | exact PV.load0 T.na26 rfl (by first | exact Cells.up (by assumption) hB | exact Bx.cells (by assumption) | assumption) (Ext.refl _) rfl | exact PV.load1 T.na26 rfl (by first | exact Cells.up (by assumption) hB | exact Bx.cells (by assumption) | assumption) (Ext.refl _) rfl)) ?_
  refine WL.pure rfl rfl rfl ((by first | exact PV.fieldAddr T.fl58_0 rfl (by first | assumption | exact Bx.cells (by assumption)) | exact PV.fieldAddrP T.fl58_0 rfl rfl)) ?_
  refine WL.pure rfl rfl rfl ((by first | exact PV.load0 T.na26 rfl (by first | exact Cells.up (by assumption) hB | exact Bx.cells (by assumption) | assumption) (Ext.refl _) rfl | exact PV.load1 T.na26 rfl (by first | exact Cells.up (by assumption) hB | exact Bx.cells (by assumption) | assumption) (Ext.refl _) rfl)) ?_
  refine WL.op rfl (OpK.callR rfl T.cf22 rfl (c_laws_eqInt64S (by first | assumption | exact Rd.up (by assumption) hB | exact Osl.rd (by assumption) | exact Osn.rdR (by assumption) | exact NL.rd (by assumption) | exact rdII (by assumption) (by assumption) | exact Inn.rd (by assumption) (by omega)) (by first | assumption | exact Rd.up (by assumption) hB | exact Osl.rd (by assumption) | exact Osn.rdR (by assumption) | exact NL.rd (by assumption) | exact rdII (by assumption) (by assumption) | exact Inn.rd (by assumption) (by omega))) (fun w3 hXw3 => ?_))
  have hB := hB.trans hXw3
  have hb1 := hb1.up hXw3
  have hb2 := hb2.up hXw3
  refine WL.pure rfl rfl rfl (PV.not rfl) ?_
  refine WL.nilS ?_
  refine CW.cond rfl (fun hc1 => ?_) (fun hc1 => ?_)
  · skip
    try simp only [decide_eq_true_eq, decide_eq_false_iff_not, Bool.not_eq_true', Bool.not_eq_false', Bool.not_eq_eq_eq_not, Bool.not_true, Bool.not_false, Int.not_lt, Int.not_le, Classical.not_not, beq_iff_eq, beq_eq_false_iff_ne] at hc1
    refine CW.seq ?_
    refine CW.reg ?_
    refine WL.pure rfl rfl rfl (PV.assign rfl) ?_
    refine WL.nilS ?_
    refine CW.ret ?_
    refine RQ.then ?_
    refine RQ.r1 rfl ?_
    refine ⟨?_, hB⟩
    first | rfl | exact bT (by omega) | exact bF (by omega) | exact bD (by omega) | exact iE (by omega) | (simp_all; done) | (simp_all; omega) | (simp_all; intros; omega)
  try simp only [decide_eq_true_eq, decide_eq_false_iff_not, Bool.not_eq_true', Bool.not_eq_false', Bool.not_eq_eq_eq_not, Bool.not_true, Bool.not_false, Int.not_lt, Int.not_le, Classical.not_not, beq_iff_eq, beq_eq_false_iff_ne] at hc1
  refine CW.skipS ?_
  refine CW.seq ?_
  refine CW.seq ?_
  refine CW.reg ?_
  refine WL.pure rfl rfl rfl ((by first | exact PV.fieldAddr T.fl58_1 rfl (by first | assumption | exact Bx.cells (by assumption)) | exact PV.fieldAddrP T.fl58_1 rfl rfl)) ?_
  refine WL.pure rfl rfl rfl ((by first | exact PV.load0 T.na26 rfl (by first | exact Cells.up (by assumption) hB | exact Bx.cells (by assumption) | assumption) (Ext.refl _) rfl | exact PV.load1 T.na26 rfl (by first | exact Cells.up (by assumption) hB | exact Bx.cells (by assumption) | assumption) (Ext.refl _) rfl)) ?_
  refine WL.pure rfl rfl rfl ((by first | exact PV.fieldAddr T.fl58_1 rfl (by first | assumption | exact Bx.cells (by assumption)) | exact PV.fieldAddrP T.fl58_1 rfl rfl)) ?_
  refine WL.pure rfl rfl rfl ((by first | exact PV.load0 T.na26 rfl (by first | exact Cells.up (by assumption) hB | exact Bx.cells (by assumption) | assumption) (Ext.refl _) rfl | exact PV.load1 T.na26 rfl (by first | exact Cells.up (by assumption) hB | exact Bx.cells (by assumption) | assumption) (Ext.refl _) rfl)) ?_
  refine WL.op rfl (OpK.callR rfl T.cf22 rfl (c_laws_eqInt64S (by first | assumption | exact Rd.up (by assumption) hB | exact Osl.rd (by assumption) | exact Osn.rdR (by assumption) | exact NL.rd (by assumption) | exact rdII (by assumption) (by assumption) | exact Inn.rd (by assumption) (by omega)) (by first | assumption | exact Rd.up (by assumption) hB | exact Osl.rd (by assumption) | exact Osn.rdR (by assumption) | exact NL.rd (by assumption) | exact rdII (by assumption) (by assumption) | exact Inn.rd (by assumption) (by omega))) (fun w4 hXw4 => ?_))
  have hB := hB.trans hXw4
  have hb1 := hb1.up hXw4
  have hb2 := hb2.up hXw4
  refine WL.pure rfl rfl rfl (PV.not rfl) ?_
  refine WL.nilS ?_
  refine CW.cond rfl (fun hc2 => ?_) (fun hc2 => ?_)
  · skip
    try simp only [decide_eq_true_eq, decide_eq_false_iff_not, Bool.not_eq_true', Bool.not_eq_false', Bool.not_eq_eq_eq_not, Bool.not_true, Bool.not_false, Int.not_lt, Int.not_le, Classical.not_not, beq_iff_eq, beq_eq_false_iff_ne] at hc2
    refine CW.seq ?_
    refine CW.reg ?_
    refine WL.pure rfl rfl rfl (PV.assign rfl) ?_
    refine WL.nilS ?_
    refine CW.ret ?_
    refine RQ.then ?_
    refine RQ.r1 rfl ?_
    refine ⟨?_, hB⟩
    first | rfl | exact bT (by omega) | exact bF (by omega) | exact bD (by omega) | exact iE (by omega) | (simp_all; done) | (simp_all; omega) | (simp_all; intros; omega)
  try simp only [decide_eq_true_eq, decide_eq_false_iff_not, Bool.not_eq_true', Bool.not_eq_false', Bool.not_eq_eq_eq_not, Bool.not_true, Bool.not_false, Int.not_lt, Int.not_le, Classical.not_not, beq_iff_eq, beq_eq_false_iff_ne] at hc2
  refine CW.skipS ?_
  refine CW.seq ?_
  refine CW.seq ?_
  refine CW.reg ?_
  refine WL.pure rfl rfl rfl ((by first | exact PV.fieldAddr T.fl58_2 rfl (by first | assumption | exact Bx.cells (by assumption)) | exact PV.fieldAddrP T.fl58_2 rfl rfl)) ?_
  refine WL.pure rfl rfl rfl ((by first | exact PV.load0 T.na26 rfl (by first | exact Cells.up (by assumption) hB | exact Bx.cells (by assumption) | assumption) (Ext.refl _) rfl | exact PV.load1 T.na26 rfl (by first | exact Cells.up (by assumption) hB | exact Bx.cells (by assumption) | assumption) (Ext.refl _) rfl)) ?_
  refine WL.pure rfl rfl rfl ((by first | exact PV.fieldAddr T.fl58_2 rfl (by first | assumption | exact Bx.cells (by assumption)) | exact PV.fieldAddrP T.fl58_2 rfl rfl)) ?_
  refine WL.pure rfl rfl rfl ((by first | exact PV.load0 T.na26 rfl (by first | exact Cells.up (by assumption) hB | exact Bx.cells (by assumption) | assumption) (Ext.refl _) rfl | exact PV.load1 T.na26 rfl (by first | exact Cells.up (by assumption) hB | exact Bx.cells (by assumption) | assumption) (Ext.refl _) rfl)) ?_
  refine WL.op rfl (OpK.callR rfl T.cf22 rfl (c_laws_eqInt64S (by first | assumption | exact Rd.up (by assumption) hB | exact Osl.rd (by assumption) | exact Osn.rdR (by assumption) | exact NL.rd (by assumption) | exact rdII (by assumption) (by assumption) | exact Inn.rd (by assumption) (by omega)) (by first | assumption | exact Rd.up (by assumption) hB | exact Osl.rd (by assumption) | exact Osn.rdR (by assumption) | exact NL.rd (by assumption) | exact rdII (by assumption) (by assumption) | exact Inn.rd (by assumption) (by omega))) (fun w5 hXw5 => ?_))
  have hB := hB.trans hXw5
  have hb1 := hb1.up hXw5
  have hb2 := hb2.up hXw5
  refine WL.pure rfl rfl rfl (PV.not rfl) ?_
  refine WL.nilS ?_
  refine CW.cond rfl (fun hc3 => ?_) (fun hc3 => ?_)
  · skip
    try simp only [decide_eq_true_eq, decide_eq_false_iff_not, Bool.not_eq_true', Bool.not_eq_false', Bool.not_eq_eq_eq_not, Bool.not_true, Bool.not_false, Int.not_lt, Int.not_le, Classical.not_not, beq_iff_eq, beq_eq_false_iff_ne] at hc3
    refine CW.seq ?_
    refine CW.reg ?_
    refine WL.pure rfl rfl rfl (PV.assign rfl) ?_
    refine WL.nilS ?_
    refine CW.ret ?_
    refine RQ.then ?_
    refine RQ.r1 rfl ?_
    refine ⟨?_, hB⟩
    first | rfl | exact bT (by omega) | exact bF (by omega) | exact bD (by omega) | exact iE (by omega) | (simp_all; done) | (simp_all; omega) | (simp_all; intros; omega)
  try simp only [decide_eq_true_eq, decide_eq_false_iff_not, Bool.not_eq_true', Bool.not_eq_false', Bool.not_eq_eq_eq_not, Bool.not_true, Bool.not_false, Int.not_lt, Int.not_le, Classical.not_not, beq_iff_eq, beq_eq_false_iff_ne] at hc3
  refine CW.skipS ?_
  refine CW.seq ?_
  refine CW.seq ?_
  refine CW.reg ?_
  refine WL.pure rfl rfl rfl ((by first | exact PV.fieldAddr T.fl58_3 rfl (by first | assumption | exact Bx.cells (by assumption)) | exact PV.fieldAddrP T.fl58_3 rfl rfl)) ?_
  refine WL.pure rfl rfl rfl ((by first | exact PV.load0 T.na26 rfl (by first | exact Cells.up (by assumption) hB | exact Bx.cells (by assumption) | assumption) (Ext.refl _) rfl | exact PV.load1 T.na26 rfl (by first | exact Cells.up (by assumption) hB | exact Bx.cells (by assumption) | assumption) (Ext.refl _) rfl)) ?_
  refine WL.pure rfl rfl rfl ((by first | exact PV.fieldAddr T.fl58_3 rfl (by first | assumption | exact Bx.cells (by assumption)) | exact PV.fieldAddrP T.fl58_3 rfl rfl)) ?_
  refine WL.pure rfl rfl rfl ((by first | exact PV.load0 T.na26 rfl (by first | exact Cells.up (by assumption) hB | exact Bx.cells (by assumption) | assumption) (Ext.refl _) rfl | exact PV.load1 T.na26 rfl (by first | exact Cells.up (by assumption) hB | exact Bx.cells (by assumption) | assumption) (Ext.refl _) rfl)) ?_
  refine WL.op rfl (OpK.callR rfl T.cf22 rfl (c_laws_eqInt64S (by first | assumption | exact Rd.up (by assumption) hB | exact Osl.rd (by assumption) | exact Osn.rdR (by assumption) | exact NL.rd (by assumption) | exact rdII (by assumption) (by assumption) | exact Inn.rd (by assumption) (by omega)) (by first | assumption | exact Rd.up (by assumption) hB | exact Osl.rd (by assumption) | exact Osn.rdR (by assumption) | exact NL.rd (by assumption) | exact rdII (by assumption) (by assumption) | exact Inn.rd (by assumption) (by omega))) (fun w6 hXw6 => ?_))
  have hB := hB.trans hXw6
  have hb1 := hb1.up hXw6
  have hb2 := hb2.up hXw6
  refine WL.pure rfl rfl rfl (PV.not rfl) ?_
  refine WL.nilS ?_
  refine CW.cond rfl (fun hc4 => ?_) (fun hc4 => ?_)
  · skip
    try simp only [decide_eq_true_eq, decide_eq_false_iff_not, Bool.not_eq_true', Bool.not_eq_false', Bool.not_eq_eq_eq_not, Bool.not_true, Bool.not_false, Int.not_lt, Int.not_le, Classical.not_not, beq_iff_eq, beq_eq_false_iff_ne] at hc4
    refine CW.seq ?_
    refine CW.reg ?_
    refine WL.pure rfl rfl rfl (PV.assign rfl) ?_
    refine WL.nilS ?_
    refine CW.ret ?_
    refine RQ.then ?_
    refine RQ.r1 rfl ?_
    refine ⟨?_, hB⟩
    first | rfl | exact bT (by omega) | exact bF (by omega) | exact bD (by omega) | exact iE (by omega) | (simp_all; done) | (simp_all; omega) | (simp_all; intros; omega)
  try simp only [decide_eq_true_eq, decide_eq_false_iff_not, Bool.not_eq_true', Bool.not_eq_false', Bool.not_eq_eq_eq_not, Bool.not_true, Bool.not_false, Int.not_lt, Int.not_le, Classical.not_not, beq_iff_eq, beq_eq_false_iff_ne] at hc4
  refine CW.skipS ?_
  refine CW.seq ?_
  refine CW.reg ?_
  refine WL.pure rfl rfl rfl (PV.assign rfl) ?_
  refine WL.nilS ?_
  refine CW.ret ?_
  refine RQ.r1 rfl ?_
  refine ⟨?_, hB⟩
  first | rfl | exact bT (by omega) | exact bF (by omega) | exact bD (by omega) | exact iE (by omega) | (simp_all; done) | (simp_all; omega) | (simp_all; intros; omega)
theorem c_laws_eqChangeS {w : World} {va vb : Value} {xs ys : List C4} (ha : Rd ECh w va xs) (hb : Rd ECh w vb ys) : Calls Try.prog 31 #[va, vb] w (Ret1 (RQt (.bool (decide (xs = ys))) w)) := by
  have hB : Ext w w := Ext.refl w
  have hla := ha.leI; have hlb := hb.leI
  refine callsOf (vs := [_, _]) Try.func31 rfl Try.ntmps31 rfl rfl ?_
  refine CW.seq ?_
  refine CW.reg ?_
  refine WL.pure rfl rfl rfl (PV.assign rfl) ?_
  refine WL.nilS ?_
  refine CW.seq ?_
  refine CW.seq ?_
  refine CW.reg ?_
  refine WL.pure rfl rfl rfl (PV.move rfl) ?_
  refine WL.pure rfl rfl rfl ((by first | exact PV.len rfl (by assumption) T.sl46 | exact PV.lenOs rfl (by assumption) T.sl46 | exact PV.len rfl (NL.rd (by assumption)) T.sl46 | exact PV.len rfl (Inn.rd (by assumption) (by omega)) T.sl46)) ?_
  refine WL.pure rfl rfl rfl (PV.move rfl) ?_
  refine WL.pure rfl rfl rfl ((by first | exact PV.len rfl (by assumption) T.sl46 | exact PV.lenOs rfl (by assumption) T.sl46 | exact PV.len rfl (NL.rd (by assumption)) T.sl46 | exact PV.len rfl (Inn.rd (by assumption) (by omega)) T.sl46)) ?_
  refine WL.pure rfl rfl rfl (PV.neq rfl rfl) ?_
  refine WL.nilS ?_
  refine CW.cond rfl (fun hc1 => ?_) (fun hc1 => ?_)
  · skip
    try simp only [decide_eq_true_eq, decide_eq_false_iff_not, Bool.not_eq_true', Bool.not_eq_false', Bool.not_eq_eq_eq_not, Bool.not_true, Bool.not_false, Int.not_lt, Int.not_le, Classical.not_not, beq_iff_eq, beq_eq_false_iff_ne] at hc1
    refine CW.seq ?_
    refine CW.reg ?_
    refine WL.pure rfl rfl rfl (PV.assign rfl) ?_
    refine WL.nilS ?_
    refine CW.ret ?_
    refine RQ.then ?_
    refine RQ.r1 rfl ?_
    refine ⟨?_, hB⟩
    first | exact bT (eq_of_takes (by omega) (by omega) he) | exact bF (by rintro rfl; first | omega | exact (c4_no (by assumption)).elim)
  try simp only [decide_eq_true_eq, decide_eq_false_iff_not, Bool.not_eq_true', Bool.not_eq_false', Bool.not_eq_eq_eq_not, Bool.not_true, Bool.not_false, Int.not_lt, Int.not_le, Classical.not_not, beq_iff_eq, beq_eq_false_iff_ne] at hc1
  refine CW.skipS ?_
  refine CW.seq ?_
  refine CW.seq ?_
  refine CW.reg ?_
  refine WL.pure rfl rfl rfl (PV.assign rfl) ?_
  refine WL.nilS ?_
  refine CW.block ?_
  refine CW.loop (σk := [(0, _), (1, _)]) (fun ρ wz m => ∃ (k : Nat), ρ = [(5, .int .i64 (k : Nat))] ∧ m = xs.length - k ∧ UpdL [] w wz ∧ (k ≤ xs.length) ∧ (xs.take k = ys.take k)) (ρ₀ := [(5, _)]) (m₀ := _) ⟨rfl, rfl, rfl, trivial⟩ ⟨0, rfl, rfl, (UpdL.refl _ _), (by first | omega | rfl | (simp; done) | assumption | (simp_all; done)), (by first | omega | rfl | (simp; done) | assumption | (simp_all; done))⟩ ?_
  rintro _ wl1 _ ⟨k, rfl, rfl, hU0, hk, he⟩
  have hB := hB.loop hU0 trivial
  refine CW.seq ?_
  refine CW.seq ?_
  refine CW.reg ?_
  refine WL.pure rfl rfl rfl (PV.move rfl) ?_
  refine WL.pure rfl rfl rfl (PV.move rfl) ?_
  refine WL.pure rfl rfl rfl ((by first | exact PV.len rfl (by assumption) T.sl46 | exact PV.lenOs rfl (by assumption) T.sl46 | exact PV.len rfl (NL.rd (by assumption)) T.sl46 | exact PV.len rfl (Inn.rd (by assumption) (by omega)) T.sl46)) ?_
  refine WL.pure rfl rfl rfl (PV.lss rfl rfl) ?_
  refine WL.nilS ?_
  refine CW.cond rfl (fun hc2 => ?_) (fun hc2 => ?_)
  · skip
    try simp only [decide_eq_true_eq, decide_eq_false_iff_not, Bool.not_eq_true', Bool.not_eq_false', Bool.not_eq_eq_eq_not, Bool.not_true, Bool.not_false, Int.not_lt, Int.not_le, Classical.not_not, beq_iff_eq, beq_eq_false_iff_ne] at hc2
    refine CW.skipS ?_
    refine CW.seq ?_
    refine CW.block ?_
    refine CW.seq ?_
    refine CW.draw T.mixed (by kernel_rfl) (fun _ _ _ _ _ h => h) (fun w8 w9 => Upd none w8 w9) 10 (.take 0 (.take 1 (.take 2 (.take 3 (.take 4 (.take 5 (.take 6 (.take 7 (.must 8 (.take 9 .done)))))))))) (by kernel_rfl) (fun w1 hXd => ?_)
    have hB := hB.trans hXd
    have hU0 := hU0.ext hXd
    have hBr := hB
    have hS : Upd none w1 w1 := Ext.toUpd (Ext.refl _)
    refine HP.take rfl rfl rfl rfl hS (fun wS hS1 => PV.move rfl) ?_
    refine HP.take rfl rfl rfl rfl hS (fun wS hS1 => PV.move rfl) ?_
    first
      | refine HP.at (x := .tmp 17) (y := .tmp 18) (E := ECh) (d4) rfl rfl (by first | assumption | exact Inn.rd (by assumption) (by omega)) (by first | omega | (simp only [List.length_set]; omega) | (simp only [List.length_append, List.length_take, List.length_replicate, List.length_drop]; omega)) (fun p1 csp1 hpp1 hcp1 hq => ?_)
      | refine HP.atZ (x := .tmp 17) (y := .tmp 18) (E := ECh) (d4) rfl rfl (by first | assumption | exact Inn.rd (by assumption) (by omega)) (by first | omega | (simp only [List.length_set]; omega) | (simp only [List.length_append, List.length_take, List.length_replicate, List.length_drop]; omega)) (fun p1 csp1 hpp1 hzp1 hcp1 hq => ?_)
    obtain ⟨vq0, vq1, vq2, vq3, rfl, hq0, hq1, hq2, hq3⟩ := ECh.parts hq
    refine HP.take rfl rfl rfl rfl hS (fun wS hS1 => (by first | exact PV.indexAddr hpp1 rfl rfl T.sl46 | exact PV.indexAddr hpp1 rfl (by rw [← hzp1]; rfl) T.sl46)) ?_
    refine HP.take rfl rfl rfl rfl hS (fun wS hS1 => (by first | exact PV.loadA T.ag58 rfl (by first | exact Cells.up (by assumption) (hBr.trans hS1) | exact Bx.cells (Bx.updD (by assumption) hS1 (Dj.nlR _)) | exact Cells.upd (by assumption) hS1 (by simp)) (Ext.refl _) rfl | exact PV.loadP (ds := [_, _, _, _]) T.ag58 rfl (by first | exact Cells.up (by assumption) (hBr.trans hS1) | exact Bx.cells (Bx.updD (by assumption) hS1 (Dj.nlR _)) | exact Cells.upd (by assumption) hS1 (by simp)) (Ext.refl _) rfl rfl)) ?_
    refine HP.take rfl rfl rfl rfl hS (fun wS hS1 => PV.move rfl) ?_
    refine HP.take rfl rfl rfl rfl hS (fun wS hS1 => PV.move rfl) ?_
    first
      | refine HP.at (x := .tmp 21) (y := .tmp 22) (E := ECh) (d4) rfl rfl (by first | assumption | exact Inn.rd (by assumption) (by omega)) (by first | omega | (simp only [List.length_set]; omega) | (simp only [List.length_append, List.length_take, List.length_replicate, List.length_drop]; omega)) (fun p2 csp2 hpp2 hcp2 hq => ?_)
      | refine HP.atZ (x := .tmp 21) (y := .tmp 22) (E := ECh) (d4) rfl rfl (by first | assumption | exact Inn.rd (by assumption) (by omega)) (by first | omega | (simp only [List.length_set]; omega) | (simp only [List.length_append, List.length_take, List.length_replicate, List.length_drop]; omega)) (fun p2 csp2 hpp2 hzp2 hcp2 hq => ?_)
    obtain ⟨vq0, vq1, vq2, vq3, rfl, hq0, hq1, hq2, hq3⟩ := ECh.parts hq
    refine HP.take rfl rfl rfl rfl hS (fun wS hS1 => (by first | exact PV.indexAddr hpp2 rfl rfl T.sl46 | exact PV.indexAddr hpp2 rfl (by rw [← hzp2]; rfl) T.sl46)) ?_
    refine HP.take rfl rfl rfl rfl hS (fun wS hS1 => (by first | exact PV.loadA T.ag58 rfl (by first | exact Cells.up (by assumption) (hBr.trans hS1) | exact Bx.cells (Bx.updD (by assumption) hS1 (Dj.nlR _)) | exact Cells.upd (by assumption) hS1 (by simp)) (Ext.refl _) rfl | exact PV.loadP (ds := [_, _, _, _]) T.ag58 rfl (by first | exact Cells.up (by assumption) (hBr.trans hS1) | exact Bx.cells (Bx.updD (by assumption) hS1 (Dj.nlR _)) | exact Cells.upd (by assumption) hS1 (by simp)) (Ext.refl _) rfl rfl)) ?_
    refine HP.must rfl rfl (OpK.callR rfl T.cf39 rfl (c_laws_eqChange (by first | assumption | exact Rd.up (by assumption) hB | exact Osl.rd (by assumption) | exact Osn.rdR (by assumption) | exact NL.rd (by assumption) | exact rdII (by assumption) (by assumption) | exact Inn.rd (by assumption) (by omega)) (by first | assumption | exact Rd.up (by assumption) hB | exact Osl.rd (by assumption) | exact Osn.rdR (by assumption) | exact NL.rd (by assumption) | exact rdII (by assumption) (by assumption) | exact Inn.rd (by assumption) (by omega)) (by first | assumption | exact Rd.up (by assumption) hB | exact Osl.rd (by assumption) | exact Osn.rdR (by assumption) | exact NL.rd (by assumption) | exact rdII (by assumption) (by assumption) | exact Inn.rd (by assumption) (by omega)) (by first | assumption | exact Rd.up (by assumption) hB | exact Osl.rd (by assumption) | exact Osn.rdR (by assumption) | exact NL.rd (by assumption) | exact rdII (by assumption) (by assumption) | exact Inn.rd (by assumption) (by omega)) (by first | assumption | exact Rd.up (by assumption) hB | exact Osl.rd (by assumption) | exact Osn.rdR (by assumption) | exact NL.rd (by assumption) | exact rdII (by assumption) (by assumption) | exact Inn.rd (by assumption) (by omega)) (by first | assumption | exact Rd.up (by assumption) hB | exact Osl.rd (by assumption) | exact Osn.rdR (by assumption) | exact NL.rd (by assumption) | exact rdII (by assumption) (by assumption) | exact Inn.rd (by assumption) (by omega)) (by first | assumption | exact Rd.up (by assumption) hB | exact Osl.rd (by assumption) | exact Osn.rdR (by assumption) | exact NL.rd (by assumption) | exact rdII (by assumption) (by assumption) | exact Inn.rd (by assumption) (by omega)) (by first | assumption | exact Rd.up (by assumption) hB | exact Osl.rd (by assumption) | exact Osn.rdR (by assumption) | exact NL.rd (by assumption) | exact rdII (by assumption) (by assumption) | exact Inn.rd (by assumption) (by omega))) (fun w2 hXw2 => ?_))
    refine ⟨Upd.trans hS hXw2, ?_⟩
    have hS := Upd.trans hS hXw2
    have hB := hB.trans hXw2
    have hU0 := hU0.ext hXw2
    refine HP.take rfl rfl rfl rfl hS (fun wS hS1 => PV.not rfl) ?_
    refine HP.doneS ?_
    refine CW.cond rfl (fun hc3 => ?_) (fun hc3 => ?_)
    · skip
      try simp only [decide_eq_true_eq, decide_eq_false_iff_not, Bool.not_eq_true', Bool.not_eq_false', Bool.not_eq_eq_eq_not, Bool.not_true, Bool.not_false, Int.not_lt, Int.not_le, Classical.not_not, beq_iff_eq, beq_eq_false_iff_ne] at hc3
      refine CW.seq ?_
      refine CW.reg ?_
      refine WL.pure rfl rfl rfl (PV.assign rfl) ?_
      refine WL.nilS ?_
      refine CW.ret ?_
      refine RQ.block ?_
      refine RQ.then ?_
      refine RQ.then ?_
      refine RQ.block ?_
      refine RQ.then ?_
      refine RQ.r1 rfl ?_
      refine ⟨?_, hB⟩
      first | exact bT (eq_of_takes (by omega) (by omega) he) | exact bF (by rintro rfl; first | omega | exact (c4_no (by assumption)).elim)
    try simp only [decide_eq_true_eq, decide_eq_false_iff_not, Bool.not_eq_true', Bool.not_eq_false', Bool.not_eq_eq_eq_not, Bool.not_true, Bool.not_false, Int.not_lt, Int.not_le, Classical.not_not, beq_iff_eq, beq_eq_false_iff_ne] at hc3
    refine CW.skip ?_
    refine NQ.block ?_
    refine NQ.then ?_
    refine CW.reg ?_
    refine WL.pure rfl rfl rfl (PV.move rfl) ?_
    refine WL.pure rfl rfl rfl (PV.add rfl rfl (by constructor <;> omega)) ?_
    refine WL.pure rfl rfl rfl (PV.assign rfl) ?_
    refine WL.nil ?_
    refine NQ.next (ρ := [(5, _)]) ⟨rfl, rfl, rfl, trivial⟩ ?_
    exact ⟨_, ⟨k + 1, rfl, rfl, hU0, (by first | omega | assumption | (simp_all; done) | (simp_all; omega)), (by exact take_eq_succ (d := d4) (by omega) (by omega) he (c4_ext (by assumption)))⟩, by omega⟩
  try simp only [decide_eq_true_eq, decide_eq_false_iff_not, Bool.not_eq_true', Bool.not_eq_false', Bool.not_eq_eq_eq_not, Bool.not_true, Bool.not_false, Int.not_lt, Int.not_le, Classical.not_not, beq_iff_eq, beq_eq_false_iff_ne] at hc2
  refine CW.exit ?_
  refine XQ.then ?_
  refine XQ.then ?_
  refine XQ.here ?_
  refine NQ.then ?_
  refine CW.seq ?_
  refine CW.reg ?_
  refine WL.pure rfl rfl rfl (PV.assign rfl) ?_
  refine WL.nilS ?_
  refine CW.ret ?_
  refine RQ.r1 rfl ?_
  refine ⟨?_, hB⟩
  first | exact bT (eq_of_takes (by omega) (by omega) he) | exact bF (by rintro rfl; first | omega | exact (c4_no (by assumption)).elim)
theorem c_laws_markInt64S {w : World} {va : Value} {og : Option Nat} {xs : List Int} {k : Int} (ho : Osl VI w og va xs) (hk : 0 ≤ k ∧ k + xs.length ≤ 9223372036854775807) : Calls Try.prog 24 #[va, .int .i64 k] w (Ret1 (fun v w' => v = .int .i64 (k + xs.length) ∧ UpdL [og] w w' ∧ Osl VI w' og va (marks k xs.length))) := by
  refine callsOf (vs := [_, _]) Try.func24 rfl Try.ntmps24 rfl rfl ?_
  have hUB : UpdL [og] w w := UpdL.refl _ _
  have ho1 : Osl VI w og va (xs) := by assumption
  have hkB_1 : OkB [og] w og := OkB.mem (by simp)
  have hgB_1 := OgR.refl w og
  refine CW.seq ?_
  refine CW.reg ?_
  refine WL.pure rfl rfl rfl (PV.assign rfl) ?_
  refine WL.nilS ?_
  refine CW.seq ?_
  refine CW.seq ?_
  refine CW.reg ?_
  refine WL.pure rfl rfl rfl (PV.assign rfl) ?_
  refine WL.nilS ?_
  refine CW.block ?_
  have hlt1 := ho1.ltO
  refine CW.loop (σk := [(0, _)]) (fun ρ wz m => ∃ (i : Nat), ρ = [(1, .int .i64 (k + (i : Nat))), (5, .int .i64 (i : Nat))] ∧ m = xs.length - i ∧ UpdL [og] w wz ∧ Osl VI wz og va (marks k i ++ xs.drop i) ∧ (i ≤ xs.length)) (ρ₀ := [(1, _), (5, _)]) (m₀ := _) ⟨rfl, rfl, rfl, trivial⟩ ⟨0, (by simp), rfl, (UpdL.refl _ _), osE ho1 (by exact marks_zero _ _), (by first | omega | rfl | (simp; done) | assumption | (simp_all; done))⟩ ?_
  rintro _ wl1 _ ⟨i, rfl, rfl, hU0, ho1, hi⟩
  have hUB := hUB.trans hU0 ⟨hkB_1, trivial⟩
  have hk0_1 : OkB [og] w og := OkB.mem (by simp)
  have hll : (marks k i ++ xs.drop i).length = xs.length := by rw [List.length_append, marks_len, List.length_drop]; omega
  refine CW.seq ?_
  refine CW.seq ?_
  refine CW.reg ?_
  refine WL.pure rfl rfl rfl (PV.move rfl) ?_
  refine WL.pure rfl rfl rfl (PV.move rfl) ?_
  refine WL.pure rfl rfl rfl ((PV.lenOs rfl ho1 T.sl26)) ?_
  refine WL.pure rfl rfl rfl (PV.lss rfl rfl) ?_
  refine WL.nilS ?_
  refine CW.cond rfl (fun hc1 => ?_) (fun hc1 => ?_)
  · skip
    try simp only [decide_eq_true_eq, decide_eq_false_iff_not, Bool.not_eq_true', Bool.not_eq_false', Bool.not_eq_eq_eq_not, Bool.not_true, Bool.not_false, Int.not_lt, Int.not_le, Classical.not_not, beq_iff_eq, beq_eq_false_iff_ne] at hc1
    refine CW.skipS ?_
    refine CW.seq ?_
    refine CW.block ?_
    refine CW.seq ?_
    refine CW.reg ?_
    refine WL.pure rfl rfl rfl (PV.move rfl) ?_
    refine WL.pure rfl rfl rfl (PV.move rfl) ?_
    refine WL.pure rfl rfl rfl (PV.move rfl) ?_
    first
      | refine WL.atO (x := .tmp 12) (y := .tmp 13) (f := VI) (0) rfl rfl ho1 (by first | omega | (simp only [List.length_set]; omega) | (simp only [List.length_append, List.length_take, List.length_replicate, List.length_drop]; omega)) (fun p1 hpp1 hcp1 => ?_)
      | refine WL.atOZ (x := .tmp 12) (y := .tmp 13) (f := VI) (0) rfl rfl ho1 (by first | omega | (simp only [List.length_set]; omega) | (simp only [List.length_append, List.length_take, List.length_replicate, List.length_drop]; omega)) (fun p1 hpp1 hzp1 hcp1 => ?_)
    refine WL.pure rfl rfl rfl ((by first | exact PV.indexAddr hpp1 rfl rfl T.sl26 | exact PV.indexAddr hpp1 rfl (by rw [← hzp1]; rfl) T.sl26)) ?_
    refine WL.op rfl (OpK.storeS VI T.sz2 rfl rfl rfl hpp1 ho1 (fun w1 hXw1 ho1 => ?_))
    have hUB := hUB.step hXw1 hkB_1
    have hU0 := hU0.step hXw1 hk0_1
    refine WL.nilS ?_
    refine CW.reg ?_
    refine WL.pure rfl rfl rfl (PV.move rfl) ?_
    refine WL.pure rfl rfl rfl (PV.add rfl rfl (by constructor <;> omega)) ?_
    refine WL.pure rfl rfl rfl (PV.assign rfl) ?_
    refine WL.nil ?_
    refine NQ.block ?_
    refine NQ.then ?_
    refine CW.reg ?_
    refine WL.pure rfl rfl rfl (PV.move rfl) ?_
    refine WL.pure rfl rfl rfl (PV.add rfl rfl (by constructor <;> omega)) ?_
    refine WL.pure rfl rfl rfl (PV.assign rfl) ?_
    refine WL.nil ?_
    refine NQ.next (ρ := [(1, _), (5, _)]) ⟨rfl, rfl, rfl, trivial⟩ ?_
    exact ⟨_, ⟨i + 1, (by simp; omega), rfl, hU0, osE ho1 (by exact marks_set (by omega)), (by first | omega | assumption | (simp_all; done) | (simp_all; omega))⟩, by omega⟩
  try simp only [decide_eq_true_eq, decide_eq_false_iff_not, Bool.not_eq_true', Bool.not_eq_false', Bool.not_eq_eq_eq_not, Bool.not_true, Bool.not_false, Int.not_lt, Int.not_le, Classical.not_not, beq_iff_eq, beq_eq_false_iff_ne] at hc1
  refine CW.exit ?_
  refine XQ.then ?_
  refine XQ.then ?_
  refine XQ.here ?_
  refine NQ.then ?_
  refine CW.seq ?_
  refine CW.reg ?_
  refine WL.pure rfl rfl rfl (PV.move rfl) ?_
  refine WL.pure rfl rfl rfl (PV.assign rfl) ?_
  refine WL.nilS ?_
  refine CW.ret ?_
  refine RQ.r1 rfl ?_
  refine ⟨?_, hUB, osE ho1 ?_⟩
  · skip
    exact iE (by omega)
  · skip
    exact marks_done (by omega) hi
theorem c_laws_markChangeS {w : World} {va : Value} {og : Option Nat} {qs : List H4} {os : List (Option Nat)} {cs : List C4} {k : Int} (hmo : Osn 4 gH4 w og va qs) (hmn : Inn w os (qs.flatMap gH4) (cs.flatMap gC4)) (hmd : DI os og) (hk : 0 ≤ k ∧ k + sumC cs ≤ 9223372036854775807) : Calls Try.prog 32 #[va, .int .i64 k] w (Ret1 (fun v w' => v = .int .i64 (k + sumC cs) ∧ UpdL os w w' ∧ Inn w' os (qs.flatMap gH4) (marksS k (cs.flatMap gC4)))) := by
  have hql : qs.length = cs.length := (by have h1 := hmn.lv; rw [flatH_len, flatC_len] at h1; omega); have hsc : sumC cs = sumL (cs.flatMap gC4) := rfl; have hll := (Osn.rd hmo).leI
  refine callsOf (vs := [_, _]) Try.func32 rfl Try.ntmps32 rfl rfl ?_
  have hUB : UpdL os w w := UpdL.refl _ _
  have ho1 := hmo
  have hn2 := hmn
  have hd1_2 := hmd
  have hlv2 := hn2.lv
  refine CW.seq ?_
  refine CW.reg ?_
  refine WL.pure rfl rfl rfl (PV.assign rfl) ?_
  refine WL.nilS ?_
  refine CW.seq ?_
  refine CW.seq ?_
  refine CW.reg ?_
  refine WL.pure rfl rfl rfl (PV.assign rfl) ?_
  refine WL.nilS ?_
  refine CW.block ?_
  refine CW.loop (σk := [(0, _)]) (fun ρ wz m => ∃ (i : Nat), ρ = [(1, .int .i64 (k + sumL ((cs.flatMap gC4).take (i * 4)))), (5, .int .i64 (i : Nat))] ∧ m = cs.length - i ∧ UpdL os w wz ∧ (i ≤ cs.length) ∧ (Inn wz os (qs.flatMap gH4) (mixS k (cs.flatMap gC4) (i * 4)))) (ρ₀ := [(1, _), (5, _)]) (m₀ := _) ⟨rfl, rfl, rfl, trivial⟩ ⟨0, (by simp [sumL]), rfl, (UpdL.refl _ _), (by first | omega | rfl | (simp; done) | assumption | (simp_all; done)), (by rw [Nat.zero_mul, ← mixS_zero]; assumption)⟩ ?_
  rintro _ wl1 _ ⟨i, rfl, rfl, hU0, hi, hinn⟩
  have hUB := hUB.trans hU0 (AllO.mk fun o ho => OkB.mem ho)
  have ho1 := ho1.loop hU0 (DI.all hd1_2)
  have hn2 := hinn; have hlv2 := hn2.lv
  refine CW.seq ?_
  refine CW.seq ?_
  refine CW.reg ?_
  refine WL.pure rfl rfl rfl (PV.move rfl) ?_
  refine WL.pure rfl rfl rfl (PV.move rfl) ?_
  refine WL.pure rfl rfl rfl ((PV.lenOsn rfl ho1 T.sl46)) ?_
  refine WL.pure rfl rfl rfl (PV.lss rfl rfl) ?_
  refine WL.nilS ?_
  refine CW.cond rfl (fun hc1 => ?_) (fun hc1 => ?_)
  · skip
    try simp only [decide_eq_true_eq, decide_eq_false_iff_not, Bool.not_eq_true', Bool.not_eq_false', Bool.not_eq_eq_eq_not, Bool.not_true, Bool.not_false, Int.not_lt, Int.not_le, Classical.not_not, beq_iff_eq, beq_eq_false_iff_ne] at hc1
    refine CW.skipS ?_
    refine CW.seq ?_
    refine CW.block ?_
    refine CW.seq ?_
    refine CW.reg ?_
    refine WL.pure rfl rfl rfl (PV.move rfl) ?_
    refine WL.pure rfl rfl rfl (PV.move rfl) ?_
    have hrdp1 := ho1.rd
    first
      | refine WL.at (x := .tmp 12) (y := .tmp 13) (E := (EG 4 gH4 gH4_ok)) (nH4) rfl rfl hrdp1 (by first | omega | (simp only [List.length_set]; omega) | (simp only [List.length_append, List.length_take, List.length_replicate, List.length_drop]; omega)) (fun p1 csp1 hpp1 hcp1 hq => ?_)
      | refine WL.atZ (x := .tmp 12) (y := .tmp 13) (E := (EG 4 gH4 gH4_ok)) (nH4) rfl rfl hrdp1 (by first | omega | (simp only [List.length_set]; omega) | (simp only [List.length_append, List.length_take, List.length_replicate, List.length_drop]; omega)) (fun p1 csp1 hpp1 hzp1 hcp1 hq => ?_)
    cases hq
    refine WL.pure rfl rfl rfl ((by first | exact PV.indexAddr hpp1 rfl rfl T.sl46 | exact PV.indexAddr hpp1 rfl (by rw [← hzp1]; rfl) T.sl46)) ?_
    refine WL.pure rfl rfl rfl ((by first | exact PV.fieldAddr T.fl58_0 rfl (by first | assumption | exact Bx.cells (by assumption)) | exact PV.fieldAddrP T.fl58_0 rfl rfl)) ?_
    refine WL.pure rfl rfl rfl ((by first | exact PV.load0 T.na26 rfl (by first | exact Cells.up (by assumption) hB | exact Bx.cells (by assumption) | assumption) (Ext.refl _) rfl | exact PV.load1 T.na26 rfl (by first | exact Cells.up (by assumption) hB | exact Bx.cells (by assumption) | assumption) (Ext.refl _) rfl)) ?_
    refine WL.pure rfl rfl rfl (PV.move rfl) ?_
    refine WL.op rfl (OpK.call rfl T.cf24 rfl (by have hz0 := flatH_get (qs := qs) (i := i) (j := 0) (by omega) (by decide); rw [Nat.add_zero] at hz0; have h8 := sumL_get (xss := cs.flatMap gC4) (k := i * 4) (by rw [flatC_len]; omega); have h7 := sumL_succ (xss := cs.flatMap gC4) (k := i * 4) (by rw [flatC_len]; omega); have h6 := sumL_nn ((cs.flatMap gC4).take (i * 4)); have h5 := sumL_take (cs.flatMap gC4) (i * 4 + 1); have h9 := markIn (fun h0 h1 => c_laws_markInt64S h0 h1) hn2 (j := i * 4) (by rw [mixS_len _ _ _ (by rw [flatC_len]; omega)]; rw [flatC_len]; omega) (k := k + sumL ((cs.flatMap gC4).take (i * 4))) (by rw [mixS_get (by rw [flatC_len]; omega)]; omega); rw [mixS_get (by rw [flatC_len]; omega), mixS_set (by rw [flatC_len]; omega), show k + sumL ((cs.flatMap gC4).take (i * 4)) + (((cs.flatMap gC4).getD (i * 4) []).length : Int) = k + sumL ((cs.flatMap gC4).take (i * 4 + 1)) from (by omega)] at h9; rw [hz0] at h9; exact h9) (fun rv1 w1 hR => ?_))
    obtain ⟨rfl, hUC3, hinC3⟩ := hR
    have hUB := hUB.trans hUC3 (AllO.mk fun o ho => OkB.mem ho)
    have hU0 := hU0.trans hUC3 (AllO.mk fun o ho => OkB.mem ho)
    have ho1 := ho1.loop hUC3 (DI.all hd1_2)
    have hn2 := hinC3; have hlv2 := hn2.lv
    have hn2 : Inn _ os (qs.flatMap gH4) (mixS k (cs.flatMap gC4) (i * 4 + 1)) := hn2
    refine WL.pure rfl rfl rfl (PV.assign rfl) ?_
    refine WL.nilS ?_
    refine CW.seq ?_
    refine CW.reg ?_
    refine WL.pure rfl rfl rfl (PV.move rfl) ?_
    refine WL.pure rfl rfl rfl (PV.move rfl) ?_
    have hrdp2 := ho1.rd
    first
      | refine WL.at (x := .tmp 19) (y := .tmp 20) (E := (EG 4 gH4 gH4_ok)) (nH4) rfl rfl hrdp2 (by first | omega | (simp only [List.length_set]; omega) | (simp only [List.length_append, List.length_take, List.length_replicate, List.length_drop]; omega)) (fun p2 csp2 hpp2 hcp2 hq => ?_)
      | refine WL.atZ (x := .tmp 19) (y := .tmp 20) (E := (EG 4 gH4 gH4_ok)) (nH4) rfl rfl hrdp2 (by first | omega | (simp only [List.length_set]; omega) | (simp only [List.length_append, List.length_take, List.length_replicate, List.length_drop]; omega)) (fun p2 csp2 hpp2 hzp2 hcp2 hq => ?_)
    cases hq
    refine WL.pure rfl rfl rfl ((by first | exact PV.indexAddr hpp2 rfl rfl T.sl46 | exact PV.indexAddr hpp2 rfl (by rw [← hzp2]; rfl) T.sl46)) ?_
    refine WL.pure rfl rfl rfl ((by first | exact PV.fieldAddr T.fl58_1 rfl (by first | assumption | exact Bx.cells (by assumption)) | exact PV.fieldAddrP T.fl58_1 rfl rfl)) ?_
    refine WL.pure rfl rfl rfl ((by first | exact PV.load0 T.na26 rfl (by first | exact Cells.up (by assumption) hB | exact Bx.cells (by assumption) | assumption) (Ext.refl _) rfl | exact PV.load1 T.na26 rfl (by first | exact Cells.up (by assumption) hB | exact Bx.cells (by assumption) | assumption) (Ext.refl _) rfl)) ?_
    refine WL.pure rfl rfl rfl (PV.move rfl) ?_
    refine WL.op rfl (OpK.call rfl T.cf24 rfl (by have h8 := sumL_get (xss := cs.flatMap gC4) (k := i * 4 + 1) (by rw [flatC_len]; omega); have h7 := sumL_succ (xss := cs.flatMap gC4) (k := i * 4 + 1) (by rw [flatC_len]; omega); have h6 := sumL_nn ((cs.flatMap gC4).take (i * 4 + 1)); have h5 := sumL_take (cs.flatMap gC4) (i * 4 + 1 + 1); have h9 := markIn (fun h0 h1 => c_laws_markInt64S h0 h1) hn2 (j := i * 4 + 1) (by rw [mixS_len _ _ _ (by rw [flatC_len]; omega)]; rw [flatC_len]; omega) (k := k + sumL ((cs.flatMap gC4).take (i * 4 + 1))) (by rw [mixS_get (by rw [flatC_len]; omega)]; omega); rw [mixS_get (by rw [flatC_len]; omega), mixS_set (by rw [flatC_len]; omega), show k + sumL ((cs.flatMap gC4).take (i * 4 + 1)) + (((cs.flatMap gC4).getD (i * 4 + 1) []).length : Int) = k + sumL ((cs.flatMap gC4).take (i * 4 + 1 + 1)) from (by omega)] at h9; rw [flatH_get (by omega) (by decide)] at h9; exact h9) (fun rv2 w2 hR => ?_))
    obtain ⟨rfl, hUC4, hinC4⟩ := hR
    have hUB := hUB.trans hUC4 (AllO.mk fun o ho => OkB.mem ho)
    have hU0 := hU0.trans hUC4 (AllO.mk fun o ho => OkB.mem ho)
    have ho1 := ho1.loop hUC4 (DI.all hd1_2)
    have hn2 := hinC4; have hlv2 := hn2.lv
    have hn2 : Inn _ os (qs.flatMap gH4) (mixS k (cs.flatMap gC4) (i * 4 + 2)) := hn2
    refine WL.pure rfl rfl rfl (PV.assign rfl) ?_
    refine WL.nilS ?_
    refine CW.seq ?_
    refine CW.reg ?_
    refine WL.pure rfl rfl rfl (PV.move rfl) ?_
    refine WL.pure rfl rfl rfl (PV.move rfl) ?_
    have hrdp3 := ho1.rd
    first
      | refine WL.at (x := .tmp 26) (y := .tmp 27) (E := (EG 4 gH4 gH4_ok)) (nH4) rfl rfl hrdp3 (by first | omega | (simp only [List.length_set]; omega) | (simp only [List.length_append, List.length_take, List.length_replicate, List.length_drop]; omega)) (fun p3 csp3 hpp3 hcp3 hq => ?_)
      | refine WL.atZ (x := .tmp 26) (y := .tmp 27) (E := (EG 4 gH4 gH4_ok)) (nH4) rfl rfl hrdp3 (by first | omega | (simp only [List.length_set]; omega) | (simp only [List.length_append, List.length_take, List.length_replicate, List.length_drop]; omega)) (fun p3 csp3 hpp3 hzp3 hcp3 hq => ?_)
    cases hq
    refine WL.pure rfl rfl rfl ((by first | exact PV.indexAddr hpp3 rfl rfl T.sl46 | exact PV.indexAddr hpp3 rfl (by rw [← hzp3]; rfl) T.sl46)) ?_
    refine WL.pure rfl rfl rfl ((by first | exact PV.fieldAddr T.fl58_2 rfl (by first | assumption | exact Bx.cells (by assumption)) | exact PV.fieldAddrP T.fl58_2 rfl rfl)) ?_
    refine WL.pure rfl rfl rfl ((by first | exact PV.load0 T.na26 rfl (by first | exact Cells.up (by assumption) hB | exact Bx.cells (by assumption) | assumption) (Ext.refl _) rfl | exact PV.load1 T.na26 rfl (by first | exact Cells.up (by assumption) hB | exact Bx.cells (by assumption) | assumption) (Ext.refl _) rfl)) ?_
    refine WL.pure rfl rfl rfl (PV.move rfl) ?_
    refine WL.op rfl (OpK.call rfl T.cf24 rfl (by have h8 := sumL_get (xss := cs.flatMap gC4) (k := i * 4 + 2) (by rw [flatC_len]; omega); have h7 := sumL_succ (xss := cs.flatMap gC4) (k := i * 4 + 2) (by rw [flatC_len]; omega); have h6 := sumL_nn ((cs.flatMap gC4).take (i * 4 + 2)); have h5 := sumL_take (cs.flatMap gC4) (i * 4 + 2 + 1); have h9 := markIn (fun h0 h1 => c_laws_markInt64S h0 h1) hn2 (j := i * 4 + 2) (by rw [mixS_len _ _ _ (by rw [flatC_len]; omega)]; rw [flatC_len]; omega) (k := k + sumL ((cs.flatMap gC4).take (i * 4 + 2))) (by rw [mixS_get (by rw [flatC_len]; omega)]; omega); rw [mixS_get (by rw [flatC_len]; omega), mixS_set (by rw [flatC_len]; omega), show k + sumL ((cs.flatMap gC4).take (i * 4 + 2)) + (((cs.flatMap gC4).getD (i * 4 + 2) []).length : Int) = k + sumL ((cs.flatMap gC4).take (i * 4 + 2 + 1)) from (by omega)] at h9; rw [flatH_get (by omega) (by decide)] at h9; exact h9) (fun rv3 w3 hR => ?_))
    obtain ⟨rfl, hUC5, hinC5⟩ := hR
    have hUB := hUB.trans hUC5 (AllO.mk fun o ho => OkB.mem ho)
    have hU0 := hU0.trans hUC5 (AllO.mk fun o ho => OkB.mem ho)
    have ho1 := ho1.loop hUC5 (DI.all hd1_2)
    have hn2 := hinC5; have hlv2 := hn2.lv
    have hn2 : Inn _ os (qs.flatMap gH4) (mixS k (cs.flatMap gC4) (i * 4 + 3)) := hn2
    refine WL.pure rfl rfl rfl (PV.assign rfl) ?_
    refine WL.nilS ?_
    refine CW.reg ?_
    refine WL.pure rfl rfl rfl (PV.move rfl) ?_
    refine WL.pure rfl rfl rfl (PV.move rfl) ?_
    have hrdp4 := ho1.rd
    first
      | refine WL.at (x := .tmp 33) (y := .tmp 34) (E := (EG 4 gH4 gH4_ok)) (nH4) rfl rfl hrdp4 (by first | omega | (simp only [List.length_set]; omega) | (simp only [List.length_append, List.length_take, List.length_replicate, List.length_drop]; omega)) (fun p4 csp4 hpp4 hcp4 hq => ?_)
      | refine WL.atZ (x := .tmp 33) (y := .tmp 34) (E := (EG 4 gH4 gH4_ok)) (nH4) rfl rfl hrdp4 (by first | omega | (simp only [List.length_set]; omega) | (simp only [List.length_append, List.length_take, List.length_replicate, List.length_drop]; omega)) (fun p4 csp4 hpp4 hzp4 hcp4 hq => ?_)
    cases hq
    refine WL.pure rfl rfl rfl ((by first | exact PV.indexAddr hpp4 rfl rfl T.sl46 | exact PV.indexAddr hpp4 rfl (by rw [← hzp4]; rfl) T.sl46)) ?_
    refine WL.pure rfl rfl rfl ((by first | exact PV.fieldAddr T.fl58_3 rfl (by first | assumption | exact Bx.cells (by assumption)) | exact PV.fieldAddrP T.fl58_3 rfl rfl)) ?_
    refine WL.pure rfl rfl rfl ((by first | exact PV.load0 T.na26 rfl (by first | exact Cells.up (by assumption) hB | exact Bx.cells (by assumption) | assumption) (Ext.refl _) rfl | exact PV.load1 T.na26 rfl (by first | exact Cells.up (by assumption) hB | exact Bx.cells (by assumption) | assumption) (Ext.refl _) rfl)) ?_
    refine WL.pure rfl rfl rfl (PV.move rfl) ?_
    refine WL.op rfl (OpK.call rfl T.cf24 rfl (by have h8 := sumL_get (xss := cs.flatMap gC4) (k := i * 4 + 3) (by rw [flatC_len]; omega); have h7 := sumL_succ (xss := cs.flatMap gC4) (k := i * 4 + 3) (by rw [flatC_len]; omega); have h6 := sumL_nn ((cs.flatMap gC4).take (i * 4 + 3)); have h5 := sumL_take (cs.flatMap gC4) (i * 4 + 3 + 1); have h9 := markIn (fun h0 h1 => c_laws_markInt64S h0 h1) hn2 (j := i * 4 + 3) (by rw [mixS_len _ _ _ (by rw [flatC_len]; omega)]; rw [flatC_len]; omega) (k := k + sumL ((cs.flatMap gC4).take (i * 4 + 3))) (by rw [mixS_get (by rw [flatC_len]; omega)]; omega); rw [mixS_get (by rw [flatC_len]; omega), mixS_set (by rw [flatC_len]; omega), show k + sumL ((cs.flatMap gC4).take (i * 4 + 3)) + (((cs.flatMap gC4).getD (i * 4 + 3) []).length : Int) = k + sumL ((cs.flatMap gC4).take (i * 4 + 3 + 1)) from (by omega)] at h9; rw [flatH_get (by omega) (by decide)] at h9; exact h9) (fun rv4 w4 hR => ?_))
    obtain ⟨rfl, hUC6, hinC6⟩ := hR
    have hUB := hUB.trans hUC6 (AllO.mk fun o ho => OkB.mem ho)
    have hU0 := hU0.trans hUC6 (AllO.mk fun o ho => OkB.mem ho)
    have ho1 := ho1.loop hUC6 (DI.all hd1_2)
    have hn2 := hinC6; have hlv2 := hn2.lv
    have hn2 : Inn _ os (qs.flatMap gH4) (mixS k (cs.flatMap gC4) (i * 4 + 4)) := hn2
    refine WL.pure rfl rfl rfl (PV.assign rfl) ?_
    refine WL.nil ?_
    refine NQ.block ?_
    refine NQ.then ?_
    refine CW.reg ?_
    refine WL.pure rfl rfl rfl (PV.move rfl) ?_
    refine WL.pure rfl rfl rfl (PV.add rfl rfl (by constructor <;> omega)) ?_
    refine WL.pure rfl rfl rfl (PV.assign rfl) ?_
    refine WL.nil ?_
    refine NQ.next (ρ := [(1, _), (5, _)]) ⟨rfl, rfl, rfl, trivial⟩ ?_
    exact ⟨_, ⟨i + 1, (by rw [Nat.add_mul]; rfl), rfl, hU0, (by first | omega | assumption | (simp_all; done) | (simp_all; omega)), (by rw [Nat.add_mul]; assumption)⟩, by omega⟩
  try simp only [decide_eq_true_eq, decide_eq_false_iff_not, Bool.not_eq_true', Bool.not_eq_false', Bool.not_eq_eq_eq_not, Bool.not_true, Bool.not_false, Int.not_lt, Int.not_le, Classical.not_not, beq_iff_eq, beq_eq_false_iff_ne] at hc1
  refine CW.exit ?_
  refine XQ.then ?_
  refine XQ.then ?_
  refine XQ.here ?_
  refine NQ.then ?_
  refine CW.seq ?_
  refine CW.reg ?_
  refine WL.pure rfl rfl rfl (PV.move rfl) ?_
  refine WL.pure rfl rfl rfl (PV.assign rfl) ?_
  refine WL.nilS ?_
  refine CW.ret ?_
  refine RQ.r1 rfl ?_
  refine ⟨?_, hUB, innE hn2 ?_⟩
  · skip
    exact iE (by rw [hsc, List.take_of_length_le (by rw [flatC_len]; omega)])
  · skip
    exact mixS_done (by rw [flatC_len]; omega)
theorem c_laws_markInt64SS {w : World} {va : Value} {og : Option Nat} {vs : List Value} {os : List (Option Nat)} {xss : List (List Int)} {k : Int} (hmo : Osl VV w og va vs) (hmn : Inn w os vs xss) (hmd : DI os og) (hk : 0 ≤ k ∧ k + sumL xss ≤ 9223372036854775807) : Calls Try.prog 25 #[va, .int .i64 k] w (Ret1 (fun v w' => v = .int .i64 (k + sumL xss) ∧ UpdL os w w' ∧ Inn w' os (vs) (marksS k xss))) := by
  have hvl := hmn.lv; have hll := hmo.leI
  refine callsOf (vs := [_, _]) Try.func25 rfl Try.ntmps25 rfl rfl ?_
  have hUB : UpdL os w w := UpdL.refl _ _
  have ho1 := hmo
  have hn2 := hmn
  have hd1_2 := hmd
  have hlv2 := hn2.lv
  refine CW.seq ?_
  refine CW.reg ?_
  refine WL.pure rfl rfl rfl (PV.assign rfl) ?_
  refine WL.nilS ?_
  refine CW.seq ?_
  refine CW.seq ?_
  refine CW.reg ?_
  refine WL.pure rfl rfl rfl (PV.assign rfl) ?_
  refine WL.nilS ?_
  refine CW.block ?_
  refine CW.loop (σk := [(0, _)]) (fun ρ wz m => ∃ (i : Nat), ρ = [(1, .int .i64 (k + sumL (xss.take i))), (5, .int .i64 (i : Nat))] ∧ m = xss.length - i ∧ UpdL os w wz ∧ (i ≤ xss.length) ∧ (Inn wz os vs (mixS k xss i))) (ρ₀ := [(1, _), (5, _)]) (m₀ := _) ⟨rfl, rfl, rfl, trivial⟩ ⟨0, (by simp [sumL]), rfl, (UpdL.refl _ _), (by first | omega | rfl | (simp; done) | assumption | (simp_all; done)), (by rw [← mixS_zero]; assumption)⟩ ?_
  rintro _ wl1 _ ⟨i, rfl, rfl, hU0, hi, hinn⟩
  have hUB := hUB.trans hU0 (AllO.mk fun o ho => OkB.mem ho)
  have ho1 := ho1.loop hU0 (DI.all hd1_2)
  have hn2 := hinn; have hlv2 := hn2.lv
  refine CW.seq ?_
  refine CW.seq ?_
  refine CW.reg ?_
  refine WL.pure rfl rfl rfl (PV.move rfl) ?_
  refine WL.pure rfl rfl rfl (PV.move rfl) ?_
  refine WL.pure rfl rfl rfl ((PV.lenOs rfl ho1 T.sl28)) ?_
  refine WL.pure rfl rfl rfl (PV.lss rfl rfl) ?_
  refine WL.nilS ?_
  refine CW.cond rfl (fun hc1 => ?_) (fun hc1 => ?_)
  · skip
    try simp only [decide_eq_true_eq, decide_eq_false_iff_not, Bool.not_eq_true', Bool.not_eq_false', Bool.not_eq_eq_eq_not, Bool.not_true, Bool.not_false, Int.not_lt, Int.not_le, Classical.not_not, beq_iff_eq, beq_eq_false_iff_ne] at hc1
    refine CW.skipS ?_
    refine CW.seq ?_
    refine CW.block ?_
    refine CW.reg ?_
    refine WL.pure rfl rfl rfl (PV.move rfl) ?_
    refine WL.pure rfl rfl rfl (PV.move rfl) ?_
    first
      | refine WL.atO (x := .tmp 12) (y := .tmp 13) (f := VV) (.slice none 0 0) rfl rfl ho1 (by first | omega | (simp only [List.length_set]; omega) | (simp only [List.length_append, List.length_take, List.length_replicate, List.length_drop]; omega)) (fun p1 hpp1 hcp1 => ?_)
      | refine WL.atOZ (x := .tmp 12) (y := .tmp 13) (f := VV) (.slice none 0 0) rfl rfl ho1 (by first | omega | (simp only [List.length_set]; omega) | (simp only [List.length_append, List.length_take, List.length_replicate, List.length_drop]; omega)) (fun p1 hpp1 hzp1 hcp1 => ?_)
    refine WL.pure rfl rfl rfl ((by first | exact PV.indexAddr hpp1 rfl rfl T.sl28 | exact PV.indexAddr hpp1 rfl (by rw [← hzp1]; rfl) T.sl28)) ?_
    refine WL.pure rfl rfl rfl ((by first | exact PV.load0 T.na26 rfl (by first | exact Cells.up (by assumption) hB | exact Bx.cells (by assumption) | assumption) (Ext.refl _) rfl | exact PV.load1 T.na26 rfl (by first | exact Cells.up (by assumption) hB | exact Bx.cells (by assumption) | assumption) (Ext.refl _) rfl)) ?_
    refine WL.pure rfl rfl rfl (PV.move rfl) ?_
    refine WL.op rfl (OpK.call rfl T.cf24 rfl (by have h8 := sumL_get (xss := xss) (k := i) (by omega); have h7 := sumL_succ (xss := xss) (k := i) (by omega); have h6 := sumL_nn ((xss).take (i)); have h5 := sumL_take (xss) (i + 1); have h9 := markIn (fun h0 h1 => c_laws_markInt64S h0 h1) hn2 (j := i) (by rw [mixS_len _ _ _ (by omega)]; omega) (k := k + sumL ((xss).take (i))) (by rw [mixS_get (by omega)]; omega); rw [mixS_get (by omega), mixS_set (by omega), show k + sumL ((xss).take (i)) + (((xss).getD (i) []).length : Int) = k + sumL ((xss).take (i + 1)) from (by omega)] at h9; exact h9) (fun rv1 w1 hR => ?_))
    obtain ⟨rfl, hUC3, hinC3⟩ := hR
    have hUB := hUB.trans hUC3 (AllO.mk fun o ho => OkB.mem ho)
    have hU0 := hU0.trans hUC3 (AllO.mk fun o ho => OkB.mem ho)
    have ho1 := ho1.loop hUC3 (DI.all hd1_2)
    have hn2 := hinC3; have hlv2 := hn2.lv
    refine WL.pure rfl rfl rfl (PV.assign rfl) ?_
    refine WL.nil ?_
    refine NQ.block ?_
    refine NQ.then ?_
    refine CW.reg ?_
    refine WL.pure rfl rfl rfl (PV.move rfl) ?_
    refine WL.pure rfl rfl rfl (PV.add rfl rfl (by constructor <;> omega)) ?_
    refine WL.pure rfl rfl rfl (PV.assign rfl) ?_
    refine WL.nil ?_
    refine NQ.next (ρ := [(1, _), (5, _)]) ⟨rfl, rfl, rfl, trivial⟩ ?_
    exact ⟨_, ⟨i + 1, (by rfl), rfl, hU0, (by first | omega | assumption | (simp_all; done) | (simp_all; omega)), (by assumption)⟩, by omega⟩
  try simp only [decide_eq_true_eq, decide_eq_false_iff_not, Bool.not_eq_true', Bool.not_eq_false', Bool.not_eq_eq_eq_not, Bool.not_true, Bool.not_false, Int.not_lt, Int.not_le, Classical.not_not, beq_iff_eq, beq_eq_false_iff_ne] at hc1
  refine CW.exit ?_
  refine XQ.then ?_
  refine XQ.then ?_
  refine XQ.here ?_
  refine NQ.then ?_
  refine CW.seq ?_
  refine CW.reg ?_
  refine WL.pure rfl rfl rfl (PV.move rfl) ?_
  refine WL.pure rfl rfl rfl (PV.assign rfl) ?_
  refine WL.nilS ?_
  refine CW.ret ?_
  refine RQ.r1 rfl ?_
  refine ⟨?_, hUB, innE hn2 ?_⟩
  · skip
    exact iE (by rw [List.take_of_length_le (by omega)])
  · skip
    exact mixS_done (by omega)
theorem c_laws_heldInt64S {w : World} {va : Value} {xs : List Int} {k : Int} (ha : Rd EI w va xs) (hk : 0 ≤ k ∧ k + xs.length ≤ 9223372036854775807) : Calls Try.prog 41 #[va, .int .i64 k] w (Ret1 (RQt (.int .i64 (if xs = marks k xs.length then k + xs.length else -1)) w)) := by
  have hB : Ext w w := Ext.refl w
  have hla := ha.leI
  refine callsOf (vs := [_, _]) Try.func41 rfl Try.ntmps41 rfl rfl ?_
  refine CW.seq ?_
  refine CW.reg ?_
  refine WL.pure rfl rfl rfl (PV.assign rfl) ?_
  refine WL.nilS ?_
  refine CW.seq ?_
  refine CW.seq ?_
  refine CW.reg ?_
  refine WL.pure rfl rfl rfl (PV.assign rfl) ?_
  refine WL.nilS ?_
  refine CW.block ?_
  refine CW.loop (σk := [(0, _)]) (fun ρ wz m => ∃ (i : Nat), ρ = [(1, .int .i64 (k + (i : Nat))), (5, .int .i64 (i : Nat))] ∧ m = xs.length - i ∧ UpdL [] w wz ∧ (i ≤ xs.length) ∧ (xs.take i = marks k i)) (ρ₀ := [(1, _), (5, _)]) (m₀ := _) ⟨rfl, rfl, rfl, trivial⟩ ⟨0, (by simp), rfl, (UpdL.refl _ _), (by first | omega | rfl | (simp; done) | assumption | (simp_all; done)), (by simp [marks])⟩ ?_
  rintro _ wl1 _ ⟨i, rfl, rfl, hU0, hi, he⟩
  have hB := hB.loop hU0 trivial
  refine CW.seq ?_
  refine CW.seq ?_
  refine CW.reg ?_
  refine WL.pure rfl rfl rfl (PV.move rfl) ?_
  refine WL.pure rfl rfl rfl (PV.move rfl) ?_
  refine WL.pure rfl rfl rfl ((by first | exact PV.len rfl (by assumption) T.sl26 | exact PV.lenOs rfl (by assumption) T.sl26 | exact PV.len rfl (NL.rd (by assumption)) T.sl26 | exact PV.len rfl (Inn.rd (by assumption) (by omega)) T.sl26)) ?_
  refine WL.pure rfl rfl rfl (PV.lss rfl rfl) ?_
  refine WL.nilS ?_
  refine CW.cond rfl (fun hc1 => ?_) (fun hc1 => ?_)
  · skip
    try simp only [decide_eq_true_eq, decide_eq_false_iff_not, Bool.not_eq_true', Bool.not_eq_false', Bool.not_eq_eq_eq_not, Bool.not_true, Bool.not_false, Int.not_lt, Int.not_le, Classical.not_not, beq_iff_eq, beq_eq_false_iff_ne] at hc1
    refine CW.skipS ?_
    refine CW.seq ?_
    refine CW.block ?_
    refine CW.seq ?_
    refine CW.seq ?_
    refine CW.reg ?_
    refine WL.pure rfl rfl rfl (PV.move rfl) ?_
    refine WL.pure rfl rfl rfl (PV.move rfl) ?_
    first
      | refine WL.at (x := .tmp 12) (y := .tmp 13) (E := EI) (0) rfl rfl (by first | assumption | exact Inn.rd (by assumption) (by omega)) (by first | omega | (simp only [List.length_set]; omega) | (simp only [List.length_append, List.length_take, List.length_replicate, List.length_drop]; omega)) (fun p1 csp1 hpp1 hcp1 hq => ?_)
      | refine WL.atZ (x := .tmp 12) (y := .tmp 13) (E := EI) (0) rfl rfl (by first | assumption | exact Inn.rd (by assumption) (by omega)) (by first | omega | (simp only [List.length_set]; omega) | (simp only [List.length_append, List.length_take, List.length_replicate, List.length_drop]; omega)) (fun p1 csp1 hpp1 hzp1 hcp1 hq => ?_)
    cases hq
    refine WL.pure rfl rfl rfl ((by first | exact PV.indexAddr hpp1 rfl rfl T.sl26 | exact PV.indexAddr hpp1 rfl (by rw [← hzp1]; rfl) T.sl26)) ?_
    refine WL.pure rfl rfl rfl ((by first | exact PV.load0 T.na2 rfl (by first | exact Cells.up (by assumption) hB | exact Bx.cells (by assumption) | assumption) (Ext.refl _) rfl | exact PV.load1 T.na2 rfl (by first | exact Cells.up (by assumption) hB | exact Bx.cells (by assumption) | assumption) (Ext.refl _) rfl)) ?_
    refine WL.pure rfl rfl rfl (PV.move rfl) ?_
    refine WL.pure rfl rfl rfl (PV.neq rfl rfl) ?_
    refine WL.nilS ?_
    refine CW.cond rfl (fun hc2 => ?_) (fun hc2 => ?_)
    · skip
      try simp only [decide_eq_true_eq, decide_eq_false_iff_not, Bool.not_eq_true', Bool.not_eq_false', Bool.not_eq_eq_eq_not, Bool.not_true, Bool.not_false, Int.not_lt, Int.not_le, Classical.not_not, beq_iff_eq, beq_eq_false_iff_ne] at hc2
      refine CW.seq ?_
      refine CW.reg ?_
      refine WL.pure rfl rfl rfl (PV.assign rfl) ?_
      refine WL.nilS ?_
      refine CW.ret ?_
      refine RQ.then ?_
      refine RQ.block ?_
      refine RQ.then ?_
      refine RQ.then ?_
      refine RQ.block ?_
      refine RQ.then ?_
      refine RQ.r1 rfl ?_
      refine ⟨?_, hB⟩
      first | (rw [if_neg (marks_bad (i := i) (by omega) (by assumption))]) | (rw [if_pos (marks_eq (i := i) (by omega) (by omega) he)]; exact iE (by omega))
    try simp only [decide_eq_true_eq, decide_eq_false_iff_not, Bool.not_eq_true', Bool.not_eq_false', Bool.not_eq_eq_eq_not, Bool.not_true, Bool.not_false, Int.not_lt, Int.not_le, Classical.not_not, beq_iff_eq, beq_eq_false_iff_ne] at hc2
    refine CW.skipS ?_
    refine CW.reg ?_
    refine WL.pure rfl rfl rfl (PV.move rfl) ?_
    refine WL.pure rfl rfl rfl (PV.add rfl rfl (by constructor <;> omega)) ?_
    refine WL.pure rfl rfl rfl (PV.assign rfl) ?_
    refine WL.nil ?_
    refine NQ.block ?_
    refine NQ.then ?_
    refine CW.reg ?_
    refine WL.pure rfl rfl rfl (PV.move rfl) ?_
    refine WL.pure rfl rfl rfl (PV.add rfl rfl (by constructor <;> omega)) ?_
    refine WL.pure rfl rfl rfl (PV.assign rfl) ?_
    refine WL.nil ?_
    refine NQ.next (ρ := [(1, _), (5, _)]) ⟨rfl, rfl, rfl, trivial⟩ ?_
    exact ⟨_, ⟨i + 1, (by simp; omega), rfl, hU0, (by first | omega | assumption | (simp_all; done) | (simp_all; omega)), (by exact marks_step (by omega) he (by assumption))⟩, by omega⟩
  try simp only [decide_eq_true_eq, decide_eq_false_iff_not, Bool.not_eq_true', Bool.not_eq_false', Bool.not_eq_eq_eq_not, Bool.not_true, Bool.not_false, Int.not_lt, Int.not_le, Classical.not_not, beq_iff_eq, beq_eq_false_iff_ne] at hc1
  refine CW.exit ?_
  refine XQ.then ?_
  refine XQ.then ?_
  refine XQ.here ?_
  refine NQ.then ?_
  refine CW.seq ?_
  refine CW.reg ?_
  refine WL.pure rfl rfl rfl (PV.move rfl) ?_
  refine WL.pure rfl rfl rfl (PV.assign rfl) ?_
  refine WL.nilS ?_
  refine CW.ret ?_
  refine RQ.r1 rfl ?_
  refine ⟨?_, hB⟩
  first | (rw [if_neg (marks_bad (i := i) (by omega) (by assumption))]) | (rw [if_pos (marks_eq (i := i) (by omega) (by omega) he)]; exact iE (by omega))
theorem c_laws_heldInt64SS {w : World} {va : Value} {xss : List (List Int)} {k : Int} (ha : Rd (ESl EI) w va xss) (hk : 0 ≤ k ∧ k + sumL xss ≤ 9223372036854775807) : Calls Try.prog 26 #[va, .int .i64 k] w (Ret1 (RQt (.int .i64 (if xss = marksS k xss then k + sumL xss else -1)) w)) := by
  have hB : Ext w w := Ext.refl w
  have hla := ha.leI
  refine callsOf (vs := [_, _]) Try.func26 rfl Try.ntmps26 rfl rfl ?_
  refine CW.seq ?_
  refine CW.reg ?_
  refine WL.pure rfl rfl rfl (PV.assign rfl) ?_
  refine WL.nilS ?_
  refine CW.seq ?_
  refine CW.seq ?_
  refine CW.reg ?_
  refine WL.pure rfl rfl rfl (PV.assign rfl) ?_
  refine WL.nilS ?_
  refine CW.block ?_
  refine CW.loop (σk := [(0, _)]) (fun ρ wz m => ∃ (i : Nat), ρ = [(1, .int .i64 (k + sumL (xss.take i))), (5, .int .i64 (i : Nat))] ∧ m = xss.length - i ∧ UpdL [] w wz ∧ (i ≤ xss.length) ∧ (xss.take i = marksS k (xss.take i))) (ρ₀ := [(1, _), (5, _)]) (m₀ := _) ⟨rfl, rfl, rfl, trivial⟩ ⟨0, (by simp [sumL]), rfl, (UpdL.refl _ _), (by first | omega | rfl | (simp; done) | assumption | (simp_all; done)), (by rfl)⟩ ?_
  rintro _ wl1 _ ⟨i, rfl, rfl, hU0, hi, he⟩
  have hB := hB.loop hU0 trivial
  have hsk := sumL_nn (xss.take i); have hst := sumL_take xss (i + 1)
  refine CW.seq ?_
  refine CW.seq ?_
  refine CW.reg ?_
  refine WL.pure rfl rfl rfl (PV.move rfl) ?_
  refine WL.pure rfl rfl rfl (PV.move rfl) ?_
  refine WL.pure rfl rfl rfl ((by first | exact PV.len rfl (by assumption) T.sl28 | exact PV.lenOs rfl (by assumption) T.sl28 | exact PV.len rfl (NL.rd (by assumption)) T.sl28 | exact PV.len rfl (Inn.rd (by assumption) (by omega)) T.sl28)) ?_
  refine WL.pure rfl rfl rfl (PV.lss rfl rfl) ?_
  refine WL.nilS ?_
  refine CW.cond rfl (fun hc1 => ?_) (fun hc1 => ?_)
  · skip
    try simp only [decide_eq_true_eq, decide_eq_false_iff_not, Bool.not_eq_true', Bool.not_eq_false', Bool.not_eq_eq_eq_not, Bool.not_true, Bool.not_false, Int.not_lt, Int.not_le, Classical.not_not, beq_iff_eq, beq_eq_false_iff_ne] at hc1
    refine CW.skipS ?_
    refine CW.seq ?_
    refine CW.block ?_
    refine CW.seq ?_
    refine CW.reg ?_
    have hss := sumL_succ (xss := xss) (k := i) (by omega)
    refine WL.pure rfl rfl rfl (PV.move rfl) ?_
    refine WL.pure rfl rfl rfl (PV.move rfl) ?_
    first
      | refine WL.at (x := .tmp 12) (y := .tmp 13) (E := ESl EI) ([]) rfl rfl (by first | assumption | exact Inn.rd (by assumption) (by omega)) (by first | omega | (simp only [List.length_set]; omega) | (simp only [List.length_append, List.length_take, List.length_replicate, List.length_drop]; omega)) (fun p1 csp1 hpp1 hcp1 hq => ?_)
      | refine WL.atZ (x := .tmp 12) (y := .tmp 13) (E := ESl EI) ([]) rfl rfl (by first | assumption | exact Inn.rd (by assumption) (by omega)) (by first | omega | (simp only [List.length_set]; omega) | (simp only [List.length_append, List.length_take, List.length_replicate, List.length_drop]; omega)) (fun p1 csp1 hpp1 hzp1 hcp1 hq => ?_)
    obtain ⟨vq, rfl, hrq⟩ := hq; have hrql := hrq.leI
    refine WL.pure rfl rfl rfl ((by first | exact PV.indexAddr hpp1 rfl rfl T.sl28 | exact PV.indexAddr hpp1 rfl (by rw [← hzp1]; rfl) T.sl28)) ?_
    refine WL.pure rfl rfl rfl ((by first | exact PV.load0 T.na26 rfl (by first | exact Cells.up (by assumption) hB | exact Bx.cells (by assumption) | assumption) (Ext.refl _) rfl | exact PV.load1 T.na26 rfl (by first | exact Cells.up (by assumption) hB | exact Bx.cells (by assumption) | assumption) (Ext.refl _) rfl)) ?_
    refine WL.pure rfl rfl rfl (PV.move rfl) ?_
    refine WL.op rfl (OpK.callR rfl T.cf41 rfl (c_laws_heldInt64S (by first | assumption | exact Rd.up (by assumption) hB | exact Osl.rd (by assumption) | exact Osn.rdR (by assumption) | exact NL.rd (by assumption) | exact rdII (by assumption) (by assumption) | exact Inn.rd (by assumption) (by omega)) (by first | assumption | omega | (simp only [marks_len, marksB_len, marksR_len, sumL_marksS, List.length_take]; omega))) (fun w1 hXw1 => ?_))
    have hB := hB.trans hXw1
    have hU0 := hU0.ext hXw1
    refine WL.pure rfl rfl rfl (PV.assign rfl) ?_
    refine WL.nilS ?_
    refine CW.seq ?_
    refine CW.reg ?_
    refine WL.pure rfl rfl rfl (PV.move rfl) ?_
    refine WL.pure rfl rfl rfl (PV.lss rfl rfl) ?_
    refine WL.nilS ?_
    refine CW.cond rfl (fun hc2 => ?_) (fun hc2 => ?_)
    · skip
      try simp only [decide_eq_true_eq, decide_eq_false_iff_not, Bool.not_eq_true', Bool.not_eq_false', Bool.not_eq_eq_eq_not, Bool.not_true, Bool.not_false, Int.not_lt, Int.not_le, Classical.not_not, beq_iff_eq, beq_eq_false_iff_ne] at hc2
      have hne9 := held_no (by assumption) (by omega)
      refine CW.seq ?_
      refine CW.reg ?_
      refine WL.pure rfl rfl rfl (PV.assign rfl) ?_
      refine WL.nilS ?_
      refine CW.ret ?_
      refine RQ.block ?_
      refine RQ.then ?_
      refine RQ.then ?_
      refine RQ.block ?_
      refine RQ.then ?_
      refine RQ.r1 rfl ?_
      refine ⟨?_, hB⟩
      first | exact iE (by rw [if_neg (marksS_bad (j := i) (by omega) hne9)]) | (have e1 : xss.take i = xss := List.take_of_length_le (by omega); rw [e1] at he ⊢; exact iE (by rw [if_pos he]))
    try simp only [decide_eq_true_eq, decide_eq_false_iff_not, Bool.not_eq_true', Bool.not_eq_false', Bool.not_eq_eq_eq_not, Bool.not_true, Bool.not_false, Int.not_lt, Int.not_le, Classical.not_not, beq_iff_eq, beq_eq_false_iff_ne] at hc2
    obtain ⟨heq9, he1⟩ := held_ok (by assumption); rw [he1]; clear he1
    refine CW.skip ?_
    refine NQ.block ?_
    refine NQ.then ?_
    refine CW.reg ?_
    refine WL.pure rfl rfl rfl (PV.move rfl) ?_
    refine WL.pure rfl rfl rfl (PV.add rfl rfl (by constructor <;> omega)) ?_
    refine WL.pure rfl rfl rfl (PV.assign rfl) ?_
    refine WL.nil ?_
    refine NQ.next (ρ := [(1, _), (5, _)]) ⟨rfl, rfl, rfl, trivial⟩ ?_
    exact ⟨_, ⟨i + 1, (by rw [show k + sumL (xss.take (i + 1)) = k + sumL (xss.take i) + ((xss.getD i []).length : Int) from (by omega)]; rfl), rfl, hU0, (by first | omega | assumption | (simp_all; done) | (simp_all; omega)), (by exact marksS_step (by omega) he heq9)⟩, by omega⟩
  try simp only [decide_eq_true_eq, decide_eq_false_iff_not, Bool.not_eq_true', Bool.not_eq_false', Bool.not_eq_eq_eq_not, Bool.not_true, Bool.not_false, Int.not_lt, Int.not_le, Classical.not_not, beq_iff_eq, beq_eq_false_iff_ne] at hc1
  refine CW.exit ?_
  refine XQ.then ?_
  refine XQ.then ?_
  refine XQ.here ?_
  refine NQ.then ?_
  refine CW.seq ?_
  refine CW.reg ?_
  refine WL.pure rfl rfl rfl (PV.move rfl) ?_
  refine WL.pure rfl rfl rfl (PV.assign rfl) ?_
  refine WL.nilS ?_
  refine CW.ret ?_
  refine RQ.r1 rfl ?_
  refine ⟨?_, hB⟩
  first | exact iE (by rw [if_neg (marksS_bad (j := i) (by omega) hne9)]) | (have e1 : xss.take i = xss := List.take_of_length_le (by omega); rw [e1] at he ⊢; exact iE (by rw [if_pos he]))

end Go.Proofs.Ythjeebjgdeldkaa
