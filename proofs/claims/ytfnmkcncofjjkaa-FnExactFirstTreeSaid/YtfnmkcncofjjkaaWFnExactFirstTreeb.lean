/- Walks of the functions that the law FnExactFirstTree reaches: each says what its function computes. No condition. -/
import Derived.Test.YtfnmkcncofjjkaaProg
import Derived.Test.YtfnmkcncofjjkaaLibM
import Derived.Test.YtfnmkcncofjjkaaPlA
import Derived.Test.YtfnmkcncofjjkaaPlM
import Derived.Test.YtfnmkcncofjjkaaLibN
import Derived.Test.YtfnmkcncofjjkaaLibO
import Derived.Test.YtfnmkcncofjjkaaLibG2
import Derived.Test.YtfnmkcncofjjkaaPlG
import Derived.Test.YtfnmkcncofjjkaaLibR
import Derived.Test.YtfnmkcncofjjkaaPlFt
import Derived.Test.YtfnmkcncofjjkaaLibKp
import Derived.Test.YtfnmkcncofjjkaaWFnExactFirstTreea
namespace Go.Proofs.Ytfnmkcncofjjkaa
open Go Go.WX Go.Proofs
set_option linter.unusedSimpArgs false
set_option linter.unusedVariables false

theorem c_impl_TreeMachine_find {w : World} {a0 : Int} {a1 : Int} {va2 : Value} {xa2 : List Int} {va3 : Value} {xa3 : List Int} {va4 : Value} {xa4 : List Bool}  (ha2 : Rd EI w va2 xa2) (ha3 : Rd EI w va3 xa3) (ha4 : Rd EB w va4 xa4) (hv : (1 ≤ a0 ∧ a0 ≤ 16) ∧ (1 ≤ a1 ∧ a1 ≤ 4) ∧ (xa2.length : Int) = a1 ∧ (xa3.length : Int) = a0 * a0 ∧ (xa4.length : Int) = a0 ∧ allIn xa2 0 (a0 - 1) = true ∧ allIn xa3 0 (a0 - 1) = true) : Calls Try.prog 75 #[.agg #[.int .i64 a0, .int .i64 a1, va2, va3, va4]] w (Ret1 (fun v w' => Ext w w' ∧ ∃ u og_u, v = u ∧ Osn 4 gR w' og_u u (foundL a0 xa3 xa2) ∧ Lo w og_u)) := by
  have hB : Ext w w := Ext.refl w
  have hla2 := ha2.leI; have hla3 := ha3.leI; have hla4 := ha4.leI; have tv : TV a0 a1 xa2 xa3 := ⟨hv.1, hv.2.1, hv.2.2.1, hv.2.2.2.1, hv.2.2.2.2.2.1, hv.2.2.2.2.2.2⟩; have tvs := tv.s; have tvl := tv.ll; have tvn := tv.nl
  refine callsOf (vs := [_]) Try.func75 rfl Try.ntmps75 rfl rfl ?_
  refine CW.seq ?_
  refine CW.reg ?_
  refine WL.op rfl (OpK.box rfl rfl (by first | exact Rd.cells1 (by assumption) | exact Osl.cells1 (by assumption) | exact Osn.cells1 (by assumption) | exact Rd.cells1 (NL.rd (by assumption)) | exact Inn.cell1 (by assumption) (by omega) | assumption | rfl) (fun b1 w1 hXw1 hb1 hge1 => ?_))
  have hl1 := Lo.new hB hge1
  have hB := hB.trans hXw1
  refine WL.asg rfl rfl ?_
  refine WL.nilS ?_
  refine CW.seq ?_
  refine CW.reg ?_
  refine WL.op rfl (OpK.buildN (g := gR) (os := []) [] gR_ok rfl T.sl88 rfl rfl T.zv91 rfl rfl (fun v2 g2 w2 hXw2 ho2 hge2 => ?_))
  have hl2 := Lo.new hB hge2
  have hd1_2 := Dj.new hb1.ltO hge2
  have hB := hB.trans hXw2
  have hb1 := hb1.up hXw2
  refine WL.op rfl (OpK.alloc rfl T.zv88 rfl (fun b3 w3 hXw3 hb3 hge3 => ?_))
  have hl3 := Lo.new hB hge3
  have hd1_3 := Dj.new hb1.ltO hge3
  have hd2_3 := Dj.new ho2.ltO hge3
  have hB := hB.trans hXw3
  have hb1 := hb1.up hXw3
  have ho2 := ho2.up hXw3
  refine WL.op rfl (OpK.storeB0 T.sz88 rfl rfl (by first | rfl | exact Inn.one1 (by assumption) (by omega) | exact Osl.oneCell (by assumption) | exact Osn.oneCell (by assumption) | exact Rd.oneCell (by assumption) | exact Rd.oneCell (NL.rd (by assumption)) | assumption) hb3 (fun w4 hXw4 hb3 => ?_))
  have hB := hB.updL hXw4 hl3
  have hb1 := hb1.updD hXw4 hd1_3
  have ho2 := ho2.updD hXw4 hd2_3
  refine WL.nilS ?_
  refine CW.seq ?_
  refine CW.reg ?_
  refine WL.pure rfl rfl rfl (PV.makeFunc (fs := []) (cs := [.tmp 3]) rfl rfl) ?_
  refine WL.asg rfl rfl ?_
  refine WL.nilS ?_
  refine CW.seq ?_
  refine CW.seq ?_
  refine CW.reg ?_
  refine WL.pure rfl rfl rfl (PV.fieldAddr T.fl36_2 rfl hb1.cells) ?_
  refine WL.pure rfl rfl rfl (PV.load1 T.na22 rfl hb1.cells (Ext.refl _) rfl) ?_
  refine WL.pure rfl rfl rfl ((by first | exact PV.len rfl (by assumption) T.sl22 | exact PV.lenOs rfl (by assumption) T.sl22 | exact PV.len rfl (NL.rd (by assumption)) T.sl22 | exact PV.len rfl (Inn.rd (by assumption) (by omega)) T.sl22)) ?_
  refine WL.mv rfl rfl ?_
  refine WL.nilS ?_
  refine CW.block ?_
  have hlt1 := hb1.ltO
  have hlt2 := ho2.ltO
  have hlt3 := hb3.ltO
  refine CW.loop (σk := [(1, _), (3, _), (4, _), (13, _), (14, _)]) (fun ρ wz m => ∃ (v4 : Value) (og4 : Option Nat) (k : Nat), ρ = [(15, .int .i64 (k : Nat))] ∧ m = xa2.length - k ∧ UpdL [(some g2), (some b3.block)] w4 wz ∧ Osn 4 gR wz og4 v4 (lfF xa2 k) ∧ OgR w4 (some g2) og4 ∧ Bx wz b3 [v4] ∧ (k ≤ xa2.length)) (ρ₀ := [(15, _)]) (m₀ := _) ⟨rfl, rfl, rfl, rfl, rfl, rfl, trivial⟩ ⟨v2, (some g2), 0, rfl, rfl, (UpdL.refl _ _), osnE ho2 (by rfl), OgR.refl _ _, bxE hb3 (by rfl), (by first | omega | rfl | (simp; done) | assumption | (simp_all; done))⟩ ?_
  rintro _ wl1 _ ⟨v4, og4, k, rfl, rfl, hU0, ho4, ha4, hb3, hk⟩
  have hb1 := hb1.loop hU0 ⟨hd1_2, hd1_3, trivial⟩
  have hl4 := Lo.ogr hl2 hB ha4
  have hg0_4 := ha4
  have hk0_4 : OkB [(some g2), (some b3.block)] w4 og4 := OkB.ogr (OkB.mem (by simp)) (Nat.le_refl _) ha4
  have hd1_4 := Dj.ogr hd1_2 hlt1 ha4
  have hd3_4 := Dj.ogr (Dj.symm hd2_3) hlt3 ha4
  have hk0_3 : OkB [(some g2), (some b3.block)] w4 (some b3.block) := OkB.mem (by simp)
  have hB := hB.loop hU0 ⟨hl2, hl3, trivial⟩
  refine CW.seq ?_
  refine CW.reg ?_
  refine WL.pure rfl rfl rfl (PV.lss rfl rfl) ?_
  refine WL.nilS ?_
  refine CW.seq ?_
  refine CW.cond rfl (fun hc1 => ?_) (fun hc1 => ?_)
  · skip
    try simp only [nq] at hc1
    refine CW.skipS ?_
    refine CW.seq ?_
    refine CW.block ?_
    refine CW.seq ?_
    refine CW.reg ?_
    refine WL.mv rfl rfl ?_
    first
      | refine WL.at (x := .tmp 13) (y := .tmp 15) (E := EI) (0) rfl rfl (by first | assumption | exact Inn.rd (by assumption) (by omega)) (by first | omega | (simp only [List.length_set]; omega) | (simp only [List.length_append, List.length_take, List.length_replicate, List.length_drop]; omega)) (fun p1 csp1 hpp1 hcp1 hq => ?_)
      | refine WL.atZ (x := .tmp 13) (y := .tmp 15) (E := EI) (0) rfl rfl (by first | assumption | exact Inn.rd (by assumption) (by omega)) (by first | omega | (simp only [List.length_set]; omega) | (simp only [List.length_append, List.length_take, List.length_replicate, List.length_drop]; omega)) (fun p1 csp1 hpp1 hzp1 hcp1 hq => ?_)
    cases hq
    refine WL.pure rfl rfl rfl ((by first | exact PV.indexAddr hpp1 rfl rfl T.sl22 | exact PV.indexAddr hpp1 rfl (by rw [← hzp1]; rfl) T.sl22)) ?_
    refine WL.pure rfl rfl rfl ((by first | exact PV.load0 T.na2 rfl (by first | exact Cells.up (by assumption) hB | exact Bx.cells (by assumption) | assumption) (Ext.refl _) rfl | exact PV.load1 T.na2 rfl (by first | exact Cells.up (by assumption) hB | exact Bx.cells (by assumption) | assumption) (Ext.refl _) rfl)) ?_
    refine WL.asg rfl rfl ?_
    refine WL.asg rfl rfl ?_
    refine WL.nilS ?_
    refine CW.reg ?_
    have hFn := (lfF_ok tv k (by omega)).len
    refine WL.mv rfl rfl ?_
    refine WL.mv rfl rfl ?_
    refine WL.mv rfl rfl ?_
    refine WL.pure rfl rfl rfl (PV.build (ks := [0, 1]) (os := [.tmp 21, .tmp 22]) (css := [[_], [_]]) (ds := [_, _, _, _]) T.bu91 rfl rfl ⟨rfl, rfl, trivial⟩ rfl) ?_
    refine WL.op rfl (OpK.callC rfl T.cf106 rfl rfl (c_impl_TreeMachine_find_1 hB (by first | assumption | exact Lo.nl _) (by first | assumption | exact Lo.nl _) (by first | assumption | exact Dj.symm (by assumption)) (by first | assumption | exact Lo.nl _) (by first | assumption | exact Dj.symm (by assumption)) (by first | assumption | omega | (simp only [marks_len, marksB_len, marksR_len]; omega))) (fun rv1 w5 hR => ?_))
    have hlt1 := hb1.ltO
    have hlt3 := hb3.ltO
    have hlt4 := ho4.ltO
    obtain ⟨rfl, hUC6, v7, og7, hbn, ho7, hr7, hdn⟩ := hR
    have hl7 := Lo.ogr hl4 hB hr7
    have hd3_7 := hdn
    have hd1_7 := Dj.ogr hd1_4 hlt1 hr7
    have hk0_7 := OkB.ogr hk0_4 hU0.size hr7; have hg0_7 := OgR.trans hg0_4 hU0.size hr7
    have hU0 := hU0.trans hUC6 ⟨hk0_3, hk0_4, trivial⟩
    have hb1 := hb1.loop hUC6 ⟨hd1_3, hd1_4, trivial⟩
    have hB := hB.loop hUC6 ⟨hl3, hl4, trivial⟩
    have hb3 := hbn
    refine WL.nil ?_
    refine NQ.block ?_
    refine NQ.then ?_
    refine CW.reg ?_
    refine WL.pure rfl rfl rfl (PV.add rfl rfl (by constructor <;> omega)) ?_
    refine WL.mv rfl rfl ?_
    refine WL.nil ?_
    refine NQ.next (ρ := [(15, _)]) ⟨rfl, rfl, rfl, rfl, rfl, rfl, trivial⟩ ?_
    exact ⟨_, ⟨v7, og7, k + 1, rfl, rfl, hU0, osnE ho7 (by first | rfl | (simp_all; done) | (simp_all; omega)), (by first | exact hg0_7 | exact OgR.weak hg0_7), bxE hb3 (by first | rfl | (simp_all; done) | (simp_all; omega)), (by first | omega | assumption | (simp_all; done) | (simp_all; omega))⟩, by omega⟩
  try simp only [nq] at hc1
  refine CW.exit ?_
  refine XQ.then ?_
  refine XQ.then ?_
  refine XQ.here ?_
  refine NQ.then ?_
  refine CW.seq ?_
  refine CW.seq ?_
  refine CW.reg ?_
  refine WL.asg rfl rfl ?_
  refine WL.nilS ?_
  refine CW.block ?_
  have hlt1 := hb1.ltO
  have hlt3 := hb3.ltO
  have hlt4 := ho4.ltO
  refine CW.loop (σk := [(1, _), (3, _), (4, _)]) (fun ρ wz m => ∃ (v8 : Value) (og8 : Option Nat) (mi : Nat), ρ = [(7, .int .i64 (mi : Nat))] ∧ m = 17 - mi ∧ UpdL [og4, (some b3.block)] wl1 wz ∧ Osn 4 gR wz og8 v8 (genF a0 xa3 xa2 mi) ∧ OgR wl1 og4 og8 ∧ Bx wz b3 [v8] ∧ (mi ≤ (genF a0 xa3 xa2 mi).length)) (ρ₀ := [(7, _)]) (m₀ := _) ⟨rfl, rfl, rfl, rfl, trivial⟩ ⟨v4, og4, 0, rfl, rfl, (UpdL.refl _ _), osnE ho4 (by (obtain rfl : k = xa2.length := (by omega)); rfl), OgR.refl _ _, bxE hb3 (by rfl), (by exact Nat.zero_le _)⟩ ?_
  rintro _ wl2 _ ⟨v8, og8, mi, rfl, rfl, hU1, ho8, ha8, hb3, hm⟩
  have hb1 := hb1.loop hU1 ⟨hd1_4, hd1_3, trivial⟩
  have hl8 := Lo.ogr hl4 hB ha8
  have hg1_8 := ha8
  have hk1_8 : OkB [og4, (some b3.block)] wl1 og8 := OkB.ogr (OkB.mem (by simp)) (Nat.le_refl _) ha8
  have hd1_8 := Dj.ogr hd1_4 hlt1 ha8
  have hd3_8 := Dj.ogr hd3_4 hlt3 ha8
  have hk1_3 : OkB [og4, (some b3.block)] wl1 (some b3.block) := OkB.mem (by simp)
  have hB := hB.loop hU1 ⟨hl4, hl3, trivial⟩
  have hgl := (genF_ok tv mi).len
  refine CW.seq ?_
  refine CW.seq ?_
  refine CW.reg ?_
  refine WL.mv rfl rfl ?_
  refine WL.pure rfl rfl rfl (PV.load0 T.na88 rfl hb3.cells (Ext.refl _) rfl) ?_
  refine WL.pure rfl rfl rfl ((PV.lenOsn rfl ho8 T.sl88)) ?_
  refine WL.pure rfl rfl rfl (PV.lss rfl rfl) ?_
  refine WL.nilS ?_
  refine CW.cond rfl (fun hc2 => ?_) (fun hc2 => ?_)
  · skip
    try simp only [nq] at hc2
    have hml : mi < (genF a0 xa3 xa2 mi).length := by omega
    refine CW.skipS ?_
    refine CW.seq ?_
    refine CW.block ?_
    refine CW.seq ?_
    refine CW.seq ?_
    refine CW.reg ?_
    refine WL.mv rfl rfl ?_
    refine WL.mv rfl rfl ?_
    refine WL.nilS ?_
    refine CW.block ?_
    have hlt1 := hb1.ltO
    have hlt3 := hb3.ltO
    have hlt8 := ho8.ltO
    refine CW.loop (σk := [(1, _), (3, _), (4, _), (7, _), (32, _)]) (fun ρ wz m => ∃ (v10 : Value) (og10 : Option Nat) (x : Nat), ρ = [(33, .int .i64 (x : Nat))] ∧ m = mi - x ∧ UpdL [og8, (some b3.block)] wl2 wz ∧ Osn 4 gR wz og10 v10 (rowA a0 xa3 (genF a0 xa3 xa2 mi) mi x) ∧ OgR wl2 og8 og10 ∧ Bx wz b3 [v10] ∧ (x ≤ mi)) (ρ₀ := [(33, _)]) (m₀ := _) ⟨rfl, rfl, rfl, rfl, rfl, rfl, trivial⟩ ⟨v8, og8, 0, rfl, rfl, (UpdL.refl _ _), osnE ho8 (by rfl), OgR.refl _ _, bxE hb3 (by rfl), (by first | omega | rfl | (simp; done) | assumption | (simp_all; done))⟩ ?_
    rintro _ wl3 _ ⟨v10, og10, x, rfl, rfl, hU2, ho10, ha10, hb3, hx⟩
    have hU1 := hU1.trans hU2 ⟨hk1_8, hk1_3, trivial⟩
    have hb1 := hb1.loop hU2 ⟨hd1_8, hd1_3, trivial⟩
    have hl10 := Lo.ogr hl8 hB ha10
    have hg2_10 := ha10
    have hk2_10 : OkB [og8, (some b3.block)] wl2 og10 := OkB.ogr (OkB.mem (by simp)) (Nat.le_refl _) ha10
    have hk1_10 := OkB.ogr hk1_8 (by first | assumption | exact UpdL.size (by assumption)) ha10
    have hg1_10 := OgR.trans hg1_8 (by first | assumption | exact UpdL.size (by assumption)) ha10
    have hd1_10 := Dj.ogr hd1_8 hlt1 ha10
    have hd3_10 := Dj.ogr hd3_8 hlt3 ha10
    have hk2_3 : OkB [og8, (some b3.block)] wl2 (some b3.block) := OkB.mem (by simp)
    have hB := hB.loop hU2 ⟨hl8, hl3, trivial⟩
    refine CW.seq ?_
    refine CW.reg ?_
    refine WL.pure rfl rfl rfl (PV.lss rfl rfl) ?_
    refine WL.nilS ?_
    refine CW.seq ?_
    refine CW.cond rfl (fun hc3 => ?_) (fun hc3 => ?_)
    · skip
      try simp only [nq] at hc3
      refine CW.skipS ?_
      refine CW.seq ?_
      refine CW.block ?_
      refine CW.seq ?_
      refine CW.reg ?_
      refine WL.mv rfl rfl ?_
      refine WL.asg rfl rfl ?_
      refine WL.nilS ?_
      refine CW.draw T.mixed (by kernel_rfl) (fun _ _ _ _ _ h => h) (fun w8 w9 => Upd none w8 w9) 16 (.take 0 (.take 1 (.take 2 (.take 3 (.take 4 (.take 5 (.take 6 (.take 7 (.take 8 (.take 9 (.take 10 (.take 11 (.take 13 (.take 14 (.must 12 (.take 15 (.must 16 .done))))))))))))))))) (by kernel_rfl) (fun w6 hXd => ?_)
      have hB := hB.trans hXd
      have hb1 := hb1.up hXd
      have hb3 := hb3.up hXd
      have ho10 := ho10.up hXd
      have hU1 := hU1.ext hXd
      have hU2 := hU2.ext hXd
      have hBr := hB
      have hS : Upd none w6 w6 := Ext.toUpd (Ext.refl _)
      obtain ⟨hF, hFl⟩ := rowA_ok tv (genF_ok tv mi) hml x (by omega); have hFn := hF.len; have hs1 := hF.st (i := x) (by omega); have hs2 := hF.st (i := mi) (by omega); simp only [rS] at hs1 hs2
      refine HP.take rfl rfl rfl rfl hS (fun wS hS1 => PV.move rfl) ?_
      refine HP.take rfl rfl rfl rfl hS (fun wS hS1 => PV.loadA T.ag36 rfl (Bx.cells (Bx.updD (by assumption) hS1 (Dj.nlR _))) (Ext.refl _) rfl) ?_
      refine HP.take rfl rfl rfl rfl hS (fun wS hS1 => PV.load0 T.na88 rfl (Bx.cells (Bx.updD (by assumption) hS1 (Dj.nlR _))) (Ext.refl _) rfl) ?_
      refine HP.take rfl rfl rfl rfl hS (fun wS hS1 => PV.move rfl) ?_
      have hrdp2 := ho10.rdR
      first
        | refine HP.at (x := .tmp 38) (y := .tmp 39) (E := ER) ((0, 0, 0, 0)) rfl rfl hrdp2 (by first | omega | (simp only [List.length_set]; omega) | (simp only [List.length_append, List.length_take, List.length_replicate, List.length_drop]; omega)) (fun p2 csp2 hpp2 hcp2 hq => ?_)
        | refine HP.atZ (x := .tmp 38) (y := .tmp 39) (E := ER) ((0, 0, 0, 0)) rfl rfl hrdp2 (by first | omega | (simp only [List.length_set]; omega) | (simp only [List.length_append, List.length_take, List.length_replicate, List.length_drop]; omega)) (fun p2 csp2 hpp2 hzp2 hcp2 hq => ?_)
      cases hq
      refine HP.take rfl rfl rfl rfl hS (fun wS hS1 => (by first | exact PV.indexAddr hpp2 rfl rfl T.sl88 | exact PV.indexAddr hpp2 rfl (by rw [← hzp2]; rfl) T.sl88)) ?_
      refine HP.take rfl rfl rfl rfl hS (fun wS hS1 => (by first | exact PV.fieldAddr T.fl91_0 rfl (by first | assumption | exact Bx.cells (by assumption)) | exact PV.fieldAddrP T.fl91_0 rfl rfl)) ?_
      refine HP.take rfl rfl rfl rfl hS (fun wS hS1 => (by first | exact PV.load0 T.na2 rfl (by first | exact Cells.up (by assumption) (hBr.trans hS1) | exact Bx.cells (Bx.updD (by assumption) hS1 (Dj.nlR _)) | exact Cells.upd (by assumption) hS1 (by simp)) (Ext.refl _) rfl | exact PV.load1 T.na2 rfl (by first | exact Cells.up (by assumption) (hBr.trans hS1) | exact Bx.cells (Bx.updD (by assumption) hS1 (Dj.nlR _)) | exact Cells.upd (by assumption) hS1 (by simp)) (Ext.refl _) rfl)) ?_
      refine HP.take rfl rfl rfl rfl hS (fun wS hS1 => PV.load0 T.na88 rfl (Bx.cells (Bx.updD (by assumption) hS1 (Dj.nlR _))) (Ext.refl _) rfl) ?_
      refine HP.take rfl rfl rfl rfl hS (fun wS hS1 => PV.move rfl) ?_
      have hrdp3 := ho10.rdR
      first
        | refine HP.at (x := .tmp 43) (y := .tmp 44) (E := ER) ((0, 0, 0, 0)) rfl rfl hrdp3 (by first | omega | (simp only [List.length_set]; omega) | (simp only [List.length_append, List.length_take, List.length_replicate, List.length_drop]; omega)) (fun p3 csp3 hpp3 hcp3 hq => ?_)
        | refine HP.atZ (x := .tmp 43) (y := .tmp 44) (E := ER) ((0, 0, 0, 0)) rfl rfl hrdp3 (by first | omega | (simp only [List.length_set]; omega) | (simp only [List.length_append, List.length_take, List.length_replicate, List.length_drop]; omega)) (fun p3 csp3 hpp3 hzp3 hcp3 hq => ?_)
      cases hq
      refine HP.take rfl rfl rfl rfl hS (fun wS hS1 => (by first | exact PV.indexAddr hpp3 rfl rfl T.sl88 | exact PV.indexAddr hpp3 rfl (by rw [← hzp3]; rfl) T.sl88)) ?_
      refine HP.take rfl rfl rfl rfl hS (fun wS hS1 => (by first | exact PV.fieldAddr T.fl91_0 rfl (by first | assumption | exact Bx.cells (by assumption)) | exact PV.fieldAddrP T.fl91_0 rfl rfl)) ?_
      refine HP.take rfl rfl rfl rfl hS (fun wS hS1 => (by first | exact PV.load0 T.na2 rfl (by first | exact Cells.up (by assumption) (hBr.trans hS1) | exact Bx.cells (Bx.updD (by assumption) hS1 (Dj.nlR _)) | exact Cells.upd (by assumption) hS1 (by simp)) (Ext.refl _) rfl | exact PV.load1 T.na2 rfl (by first | exact Cells.up (by assumption) (hBr.trans hS1) | exact Bx.cells (Bx.updD (by assumption) hS1 (Dj.nlR _)) | exact Cells.upd (by assumption) hS1 (by simp)) (Ext.refl _) rfl)) ?_
      refine HP.take rfl rfl rfl rfl hS (fun wS hS1 => PV.move rfl) ?_
      refine HP.take rfl rfl rfl rfl hS (fun wS hS1 => PV.move rfl) ?_
      refine HP.must rfl rfl (OpK.callR rfl T.cf70 rfl (c_impl_TreeMachine_join (by first | assumption | exact Rd.up (by assumption) hB | exact Osl.rd (by assumption) | exact Osn.rdR (by assumption) | exact NL.rd (by assumption) | exact rdII (by assumption) (by assumption) | exact Inn.rd (by assumption) (by omega)) (by first | assumption | exact Rd.up (by assumption) hB | exact Osl.rd (by assumption) | exact Osn.rdR (by assumption) | exact NL.rd (by assumption) | exact rdII (by assumption) (by assumption) | exact Inn.rd (by assumption) (by omega)) (by first | assumption | exact Rd.up (by assumption) hB | exact Osl.rd (by assumption) | exact Osn.rdR (by assumption) | exact NL.rd (by assumption) | exact rdII (by assumption) (by assumption) | exact Inn.rd (by assumption) (by omega)) (by first | assumption | omega | (simp only [marks_len, marksB_len, marksR_len]; omega)) (by first | assumption | omega | (simp only [marks_len, marksB_len, marksR_len]; omega)) (by first | assumption | omega | (simp only [marks_len, marksB_len, marksR_len]; omega)) (by first | assumption | omega | (simp only [marks_len, marksB_len, marksR_len]; omega))) (fun w7 hXw7 => ?_))
      refine ⟨Upd.trans hS hXw7, ?_⟩
      have hS := Upd.trans hS hXw7
      have hB := hB.trans hXw7
      have hb1 := hb1.up hXw7
      have hb3 := hb3.up hXw7
      have ho10 := ho10.up hXw7
      have hU1 := hU1.ext hXw7
      have hU2 := hU2.ext hXw7
      refine HP.take rfl rfl rfl rfl hS (fun wS hS1 => PV.build (ks := [0, 1, 2, 3]) (os := [.tmp 48, .const (.int .i64 (-1)), .tmp 49, .tmp 50]) (css := [[_], [_], [_], [_]]) (ds := [_, _, _, _]) T.bu91 rfl rfl ⟨rfl, rfl, rfl, rfl, trivial⟩ rfl) ?_
      refine HP.last rfl rfl (OpK.callC rfl T.cf106 rfl rfl (c_impl_TreeMachine_find_1 hB (by first | assumption | exact Lo.nl _) (by first | assumption | exact Lo.nl _) (by first | assumption | exact Dj.symm (by assumption)) (by first | assumption | exact Lo.nl _) (by first | assumption | exact Dj.symm (by assumption)) (by first | assumption | omega | (simp only [marks_len, marksB_len, marksR_len]; omega))) (fun rv2 w8 hR => ?_))
      have hlt1 := hb1.ltO
      have hlt3 := hb3.ltO
      have hlt10 := ho10.ltO
      obtain ⟨rfl, hUC12, v13, og13, hbn, ho13, hr13, hdn⟩ := hR
      have hl13 := Lo.ogr hl10 hB hr13
      have hd3_13 := hdn
      have hd1_13 := Dj.ogr hd1_10 hlt1 hr13
      have hk1_13 := OkB.ogr hk1_10 hU1.size hr13; have hg1_13 := OgR.trans hg1_10 hU1.size hr13
      have hk2_13 := OkB.ogr hk2_10 hU2.size hr13; have hg2_13 := OgR.trans hg2_10 hU2.size hr13
      have hU1 := hU1.trans hUC12 ⟨hk1_3, hk1_10, trivial⟩
      have hU2 := hU2.trans hUC12 ⟨hk2_3, hk2_10, trivial⟩
      have hb1 := hb1.loop hUC12 ⟨hd1_3, hd1_10, trivial⟩
      have hB := hB.loop hUC12 ⟨hl3, hl10, trivial⟩
      have hb3 := hbn
      refine HP.done ?_
      refine NQ.block ?_
      refine NQ.then ?_
      refine CW.reg ?_
      refine WL.pure rfl rfl rfl (PV.add rfl rfl (by constructor <;> omega)) ?_
      refine WL.mv rfl rfl ?_
      refine WL.nil ?_
      refine NQ.next (ρ := [(33, _)]) ⟨rfl, rfl, rfl, rfl, rfl, rfl, trivial⟩ ?_
      exact ⟨_, ⟨v13, og13, x + 1, rfl, rfl, hU2, osnE ho13 (by first | rfl | (simp_all; done) | (simp_all; omega)), (by first | exact hg2_13 | exact OgR.weak hg2_13), bxE hb3 (by first | rfl | (simp_all; done) | (simp_all; omega)), (by first | omega | assumption | (simp_all; done) | (simp_all; omega))⟩, by omega⟩
    try simp only [nq] at hc3
    refine CW.exit ?_
    refine XQ.then ?_
    refine XQ.then ?_
    refine XQ.here ?_
    refine NQ.then ?_
    refine CW.seq ?_
    refine CW.reg ?_
    refine WL.mv rfl rfl ?_
    refine WL.pure rfl rfl rfl (PV.add rfl rfl (by constructor <;> omega)) ?_
    refine WL.mv rfl rfl ?_
    refine WL.nilS ?_
    refine CW.block ?_
    have hlt1 := hb1.ltO
    have hlt3 := hb3.ltO
    have hlt10 := ho10.ltO
    refine CW.loop (σk := [(1, _), (3, _), (4, _), (7, _), (55, _)]) (fun ρ wz m => ∃ (v14 : Value) (og14 : Option Nat) (y : Nat), ρ = [(56, .int .i64 (y : Nat))] ∧ m = mi + 1 - y ∧ UpdL [og10, (some b3.block)] wl3 wz ∧ Osn 4 gR wz og14 v14 (rowB a0 xa3 (rowA a0 xa3 (genF a0 xa3 xa2 mi) mi mi) mi y) ∧ OgR wl3 og10 og14 ∧ Bx wz b3 [v14] ∧ (y ≤ mi + 1)) (ρ₀ := [(56, _)]) (m₀ := _) ⟨rfl, rfl, rfl, rfl, rfl, rfl, trivial⟩ ⟨v10, og10, 0, rfl, rfl, (UpdL.refl _ _), osnE ho10 (by (obtain rfl : x = mi := (by omega)); rfl), OgR.refl _ _, bxE hb3 (by rfl), (by first | omega | rfl | (simp; done) | assumption | (simp_all; done))⟩ ?_
    rintro _ wl4 _ ⟨v14, og14, y, rfl, rfl, hU3, ho14, ha14, hb3, hy⟩
    have hU1 := hU1.trans hU3 ⟨hk1_10, hk1_3, trivial⟩
    have hb1 := hb1.loop hU3 ⟨hd1_10, hd1_3, trivial⟩
    have hl14 := Lo.ogr hl10 hB ha14
    have hg3_14 := ha14
    have hk3_14 : OkB [og10, (some b3.block)] wl3 og14 := OkB.ogr (OkB.mem (by simp)) (Nat.le_refl _) ha14
    have hk1_14 := OkB.ogr hk1_10 (by first | assumption | exact UpdL.size (by assumption)) ha14
    have hg1_14 := OgR.trans hg1_10 (by first | assumption | exact UpdL.size (by assumption)) ha14
    have hd1_14 := Dj.ogr hd1_10 hlt1 ha14
    have hd3_14 := Dj.ogr hd3_10 hlt3 ha14
    have hk3_3 : OkB [og10, (some b3.block)] wl3 (some b3.block) := OkB.mem (by simp)
    have hB := hB.loop hU3 ⟨hl10, hl3, trivial⟩
    refine CW.seq ?_
    refine CW.reg ?_
    refine WL.pure rfl rfl rfl (PV.lss rfl rfl) ?_
    refine WL.nilS ?_
    refine CW.seq ?_
    refine CW.cond rfl (fun hc4 => ?_) (fun hc4 => ?_)
    · skip
      try simp only [nq] at hc4
      refine CW.skipS ?_
      refine CW.seq ?_
      refine CW.block ?_
      refine CW.seq ?_
      refine CW.reg ?_
      refine WL.mv rfl rfl ?_
      refine WL.asg rfl rfl ?_
      refine WL.nilS ?_
      refine CW.draw T.mixed (by kernel_rfl) (fun _ _ _ _ _ h => h) (fun w8 w9 => Upd none w8 w9) 16 (.take 0 (.take 1 (.take 2 (.take 3 (.take 4 (.take 5 (.take 6 (.take 7 (.take 8 (.take 9 (.take 10 (.take 11 (.take 13 (.take 14 (.must 12 (.take 15 (.must 16 .done))))))))))))))))) (by kernel_rfl) (fun w9 hXd => ?_)
      have hB := hB.trans hXd
      have hb1 := hb1.up hXd
      have hb3 := hb3.up hXd
      have ho14 := ho14.up hXd
      have hU1 := hU1.ext hXd
      have hU3 := hU3.ext hXd
      have hBr := hB
      have hS : Upd none w9 w9 := Ext.toUpd (Ext.refl _)
      have hAl := (rowA_ok tv (genF_ok tv mi) hml mi (Nat.le_refl _)).2; obtain ⟨hF, hFl⟩ := rowB_ok tv (rowA_ok tv (genF_ok tv mi) hml mi (Nat.le_refl _)).1 (Nat.lt_of_lt_of_le hml (rowA_ok tv (genF_ok tv mi) hml mi (Nat.le_refl _)).2) y (by omega); have hFn := hF.len; have hs1 := hF.st (i := y) (by omega); have hs2 := hF.st (i := mi) (by omega); simp only [rS] at hs1 hs2
      refine HP.take rfl rfl rfl rfl hS (fun wS hS1 => PV.move rfl) ?_
      refine HP.take rfl rfl rfl rfl hS (fun wS hS1 => PV.loadA T.ag36 rfl (Bx.cells (Bx.updD (by assumption) hS1 (Dj.nlR _))) (Ext.refl _) rfl) ?_
      refine HP.take rfl rfl rfl rfl hS (fun wS hS1 => PV.load0 T.na88 rfl (Bx.cells (Bx.updD (by assumption) hS1 (Dj.nlR _))) (Ext.refl _) rfl) ?_
      refine HP.take rfl rfl rfl rfl hS (fun wS hS1 => PV.move rfl) ?_
      have hrdp4 := ho14.rdR
      first
        | refine HP.at (x := .tmp 61) (y := .tmp 62) (E := ER) ((0, 0, 0, 0)) rfl rfl hrdp4 (by first | omega | (simp only [List.length_set]; omega) | (simp only [List.length_append, List.length_take, List.length_replicate, List.length_drop]; omega)) (fun p4 csp4 hpp4 hcp4 hq => ?_)
        | refine HP.atZ (x := .tmp 61) (y := .tmp 62) (E := ER) ((0, 0, 0, 0)) rfl rfl hrdp4 (by first | omega | (simp only [List.length_set]; omega) | (simp only [List.length_append, List.length_take, List.length_replicate, List.length_drop]; omega)) (fun p4 csp4 hpp4 hzp4 hcp4 hq => ?_)
      cases hq
      refine HP.take rfl rfl rfl rfl hS (fun wS hS1 => (by first | exact PV.indexAddr hpp4 rfl rfl T.sl88 | exact PV.indexAddr hpp4 rfl (by rw [← hzp4]; rfl) T.sl88)) ?_
      refine HP.take rfl rfl rfl rfl hS (fun wS hS1 => (by first | exact PV.fieldAddr T.fl91_0 rfl (by first | assumption | exact Bx.cells (by assumption)) | exact PV.fieldAddrP T.fl91_0 rfl rfl)) ?_
      refine HP.take rfl rfl rfl rfl hS (fun wS hS1 => (by first | exact PV.load0 T.na2 rfl (by first | exact Cells.up (by assumption) (hBr.trans hS1) | exact Bx.cells (Bx.updD (by assumption) hS1 (Dj.nlR _)) | exact Cells.upd (by assumption) hS1 (by simp)) (Ext.refl _) rfl | exact PV.load1 T.na2 rfl (by first | exact Cells.up (by assumption) (hBr.trans hS1) | exact Bx.cells (Bx.updD (by assumption) hS1 (Dj.nlR _)) | exact Cells.upd (by assumption) hS1 (by simp)) (Ext.refl _) rfl)) ?_
      refine HP.take rfl rfl rfl rfl hS (fun wS hS1 => PV.load0 T.na88 rfl (Bx.cells (Bx.updD (by assumption) hS1 (Dj.nlR _))) (Ext.refl _) rfl) ?_
      refine HP.take rfl rfl rfl rfl hS (fun wS hS1 => PV.move rfl) ?_
      have hrdp5 := ho14.rdR
      first
        | refine HP.at (x := .tmp 66) (y := .tmp 67) (E := ER) ((0, 0, 0, 0)) rfl rfl hrdp5 (by first | omega | (simp only [List.length_set]; omega) | (simp only [List.length_append, List.length_take, List.length_replicate, List.length_drop]; omega)) (fun p5 csp5 hpp5 hcp5 hq => ?_)
        | refine HP.atZ (x := .tmp 66) (y := .tmp 67) (E := ER) ((0, 0, 0, 0)) rfl rfl hrdp5 (by first | omega | (simp only [List.length_set]; omega) | (simp only [List.length_append, List.length_take, List.length_replicate, List.length_drop]; omega)) (fun p5 csp5 hpp5 hzp5 hcp5 hq => ?_)
      cases hq
      refine HP.take rfl rfl rfl rfl hS (fun wS hS1 => (by first | exact PV.indexAddr hpp5 rfl rfl T.sl88 | exact PV.indexAddr hpp5 rfl (by rw [← hzp5]; rfl) T.sl88)) ?_
      refine HP.take rfl rfl rfl rfl hS (fun wS hS1 => (by first | exact PV.fieldAddr T.fl91_0 rfl (by first | assumption | exact Bx.cells (by assumption)) | exact PV.fieldAddrP T.fl91_0 rfl rfl)) ?_
      refine HP.take rfl rfl rfl rfl hS (fun wS hS1 => (by first | exact PV.load0 T.na2 rfl (by first | exact Cells.up (by assumption) (hBr.trans hS1) | exact Bx.cells (Bx.updD (by assumption) hS1 (Dj.nlR _)) | exact Cells.upd (by assumption) hS1 (by simp)) (Ext.refl _) rfl | exact PV.load1 T.na2 rfl (by first | exact Cells.up (by assumption) (hBr.trans hS1) | exact Bx.cells (Bx.updD (by assumption) hS1 (Dj.nlR _)) | exact Cells.upd (by assumption) hS1 (by simp)) (Ext.refl _) rfl)) ?_
      refine HP.take rfl rfl rfl rfl hS (fun wS hS1 => PV.move rfl) ?_
      refine HP.take rfl rfl rfl rfl hS (fun wS hS1 => PV.move rfl) ?_
      refine HP.must rfl rfl (OpK.callR rfl T.cf70 rfl (c_impl_TreeMachine_join (by first | assumption | exact Rd.up (by assumption) hB | exact Osl.rd (by assumption) | exact Osn.rdR (by assumption) | exact NL.rd (by assumption) | exact rdII (by assumption) (by assumption) | exact Inn.rd (by assumption) (by omega)) (by first | assumption | exact Rd.up (by assumption) hB | exact Osl.rd (by assumption) | exact Osn.rdR (by assumption) | exact NL.rd (by assumption) | exact rdII (by assumption) (by assumption) | exact Inn.rd (by assumption) (by omega)) (by first | assumption | exact Rd.up (by assumption) hB | exact Osl.rd (by assumption) | exact Osn.rdR (by assumption) | exact NL.rd (by assumption) | exact rdII (by assumption) (by assumption) | exact Inn.rd (by assumption) (by omega)) (by first | assumption | omega | (simp only [marks_len, marksB_len, marksR_len]; omega)) (by first | assumption | omega | (simp only [marks_len, marksB_len, marksR_len]; omega)) (by first | assumption | omega | (simp only [marks_len, marksB_len, marksR_len]; omega)) (by first | assumption | omega | (simp only [marks_len, marksB_len, marksR_len]; omega))) (fun w10 hXw10 => ?_))
      refine ⟨Upd.trans hS hXw10, ?_⟩
      have hS := Upd.trans hS hXw10
      have hB := hB.trans hXw10
      have hb1 := hb1.up hXw10
      have hb3 := hb3.up hXw10
      have ho14 := ho14.up hXw10
      have hU1 := hU1.ext hXw10
      have hU3 := hU3.ext hXw10
      refine HP.take rfl rfl rfl rfl hS (fun wS hS1 => PV.build (ks := [0, 1, 2, 3]) (os := [.tmp 71, .const (.int .i64 (-1)), .tmp 72, .tmp 73]) (css := [[_], [_], [_], [_]]) (ds := [_, _, _, _]) T.bu91 rfl rfl ⟨rfl, rfl, rfl, rfl, trivial⟩ rfl) ?_
      refine HP.last rfl rfl (OpK.callC rfl T.cf106 rfl rfl (c_impl_TreeMachine_find_1 hB (by first | assumption | exact Lo.nl _) (by first | assumption | exact Lo.nl _) (by first | assumption | exact Dj.symm (by assumption)) (by first | assumption | exact Lo.nl _) (by first | assumption | exact Dj.symm (by assumption)) (by first | assumption | omega | (simp only [marks_len, marksB_len, marksR_len]; omega))) (fun rv3 w11 hR => ?_))
      have hlt1 := hb1.ltO
      have hlt3 := hb3.ltO
      have hlt14 := ho14.ltO
      obtain ⟨rfl, hUC16, v17, og17, hbn, ho17, hr17, hdn⟩ := hR
      have hl17 := Lo.ogr hl14 hB hr17
      have hd3_17 := hdn
      have hd1_17 := Dj.ogr hd1_14 hlt1 hr17
      have hk1_17 := OkB.ogr hk1_14 hU1.size hr17; have hg1_17 := OgR.trans hg1_14 hU1.size hr17
      have hk3_17 := OkB.ogr hk3_14 hU3.size hr17; have hg3_17 := OgR.trans hg3_14 hU3.size hr17
      have hU1 := hU1.trans hUC16 ⟨hk1_3, hk1_14, trivial⟩
      have hU3 := hU3.trans hUC16 ⟨hk3_3, hk3_14, trivial⟩
      have hb1 := hb1.loop hUC16 ⟨hd1_3, hd1_14, trivial⟩
      have hB := hB.loop hUC16 ⟨hl3, hl14, trivial⟩
      have hb3 := hbn
      refine HP.done ?_
      refine NQ.block ?_
      refine NQ.then ?_
      refine CW.reg ?_
      refine WL.pure rfl rfl rfl (PV.add rfl rfl (by constructor <;> omega)) ?_
      refine WL.mv rfl rfl ?_
      refine WL.nil ?_
      refine NQ.next (ρ := [(56, _)]) ⟨rfl, rfl, rfl, rfl, rfl, rfl, trivial⟩ ?_
      exact ⟨_, ⟨v17, og17, y + 1, rfl, rfl, hU3, osnE ho17 (by first | rfl | (simp_all; done) | (simp_all; omega)), (by first | exact hg3_17 | exact OgR.weak hg3_17), bxE hb3 (by first | rfl | (simp_all; done) | (simp_all; omega)), (by first | omega | assumption | (simp_all; done) | (simp_all; omega))⟩, by omega⟩
    try simp only [nq] at hc4
    refine CW.exit ?_
    refine XQ.then ?_
    refine XQ.then ?_
    refine XQ.here ?_
    refine NQ.block ?_
    refine NQ.then ?_
    refine CW.reg ?_
    refine WL.mv rfl rfl ?_
    refine WL.pure rfl rfl rfl (PV.add rfl rfl (by constructor <;> omega)) ?_
    refine WL.asg rfl rfl ?_
    refine WL.nil ?_
    refine NQ.next (ρ := [(7, _)]) ⟨rfl, rfl, rfl, rfl, trivial⟩ ?_
    exact ⟨_, ⟨v14, og14, mi + 1, rfl, rfl, hU1, osnE ho14 (by (obtain rfl : y = mi + 1 := (by omega)); exact (genF_succ hml).symm), (by first | exact hg1_14 | exact OgR.weak hg1_14), bxE hb3 (by first | rfl | (simp_all; done) | (simp_all; omega)), (by exact genF_le tv hml)⟩, by omega⟩
  try simp only [nq] at hc2
  refine CW.exit ?_
  refine XQ.then ?_
  refine XQ.then ?_
  refine XQ.here ?_
  refine NQ.then ?_
  refine CW.seq ?_
  refine CW.reg ?_
  refine WL.pure rfl rfl rfl (PV.load0 T.na88 rfl hb3.cells (Ext.refl _) rfl) ?_
  refine WL.asg rfl rfl ?_
  refine WL.nilS ?_
  refine CW.ret ?_
  refine RQ.r1 rfl ?_
  refine ⟨hB, v8, og8, ?_, osnE ho8 ?_, hl8⟩
  · skip
    rfl
  · skip
    exact genF_done tv (by omega)
theorem c_slices_Grow_int64_int64 {w : World} {N : Int} (hN : 0 ≤ N ∧ N ≤ 1048576) : Calls Try.prog 104 #[.slice none 0 0, .int .i64 N] w (Ret1 (fun v w' => Ext w w' ∧ ∃ u og_u, v = u ∧ Osl VI w' og_u u (([] : List Int)) ∧ Lo w og_u)) := by
  have hB : Ext w w := Ext.refl w
  have hnil : Rd EI w (.slice none 0 0) [] := Rd.nil _ _
  refine callsOf (vs := [_, _]) Try.func104 rfl Try.ntmps104 rfl rfl ?_
  refine CW.seq ?_
  refine CW.reg ?_
  refine WL.asg rfl rfl ?_
  refine WL.nilS ?_
  refine CW.seq ?_
  refine CW.seq ?_
  refine CW.reg ?_
  refine WL.mv rfl rfl ?_
  refine WL.pure rfl rfl rfl (PV.lss rfl rfl) ?_
  refine WL.nilS ?_
  refine CW.cond rfl (fun hc1 => ?_) (fun hc1 => ?_)
  · skip
    try simp only [nq] at hc1
    exfalso; omega
  try simp only [nq] at hc1
  refine CW.skipS ?_
  refine CW.seq ?_
  refine CW.seq ?_
  refine CW.reg ?_
  refine WL.mv rfl rfl ?_
  refine WL.mv rfl rfl ?_
  refine WL.pure rfl rfl rfl (PV.capNil rfl T.sl22) ?_
  refine WL.mv rfl rfl ?_
  refine WL.pure rfl rfl rfl ((by first | exact PV.len rfl (by assumption) T.sl22 | exact PV.lenOs rfl (by assumption) T.sl22 | exact PV.len rfl (NL.rd (by assumption)) T.sl22 | exact PV.len rfl (Inn.rd (by assumption) (by omega)) T.sl22)) ?_
  simp only [List.length_nil]
  refine WL.pure rfl rfl rfl (PV.sub rfl rfl (by constructor <;> omega)) ?_
  refine WL.pure rfl rfl rfl (PV.sub rfl rfl (by constructor <;> omega)) ?_
  refine WL.asg rfl rfl ?_
  refine WL.nilS ?_
  refine CW.seq ?_
  refine CW.reg ?_
  refine WL.mv rfl rfl ?_
  refine WL.pure rfl rfl rfl (PV.gtr rfl rfl) ?_
  refine WL.nilS ?_
  refine CW.cond rfl (fun hc2 => ?_) (fun hc2 => ?_)
  · skip
    try simp only [nq] at hc2
    refine CW.reg ?_
    refine WL.mv rfl rfl ?_
    refine WL.mv rfl rfl ?_
    refine WL.pure rfl rfl rfl (PV.capNil rfl T.sl22) ?_
    refine WL.pure rfl rfl rfl (PV.sliceNil T.sl22 rfl rfl) ?_
    refine WL.mv rfl rfl ?_
    refine WL.op rfl (OpK.growA rfl T.sl22 T.ik3 T.zv2 rfl rfl rfl rfl (by omega) rfl (fun v1 g1 cs1 w1 hXw1 ho1 hge1 => ?_))
    have hl1 := Lo.new hB hge1
    have hB := hB.trans hXw1
    refine WL.mv rfl rfl ?_
    refine WL.pure rfl rfl rfl ((by first | exact PV.len rfl (by assumption) T.sl22 | exact PV.lenOs rfl (by assumption) T.sl22 | exact PV.len rfl (NL.rd (by assumption)) T.sl22 | exact PV.len rfl (Inn.rd (by assumption) (by omega)) T.sl22)) ?_
    refine WL.slG (x := .tmp 22) (hi := .tmp 24) T.sl22 rfl rfl rfl ho1 (fun u2 huu2 hou2 => ?_)
    refine WL.pure rfl rfl rfl ((huu2 _ _ _ _ _ _)) ?_
    refine WL.asg rfl rfl ?_
    have ho2 : Osl VI w1 (some g1) u2 [] := hou2
    have hl2 := hl1
    refine WL.nilS ?_
    refine CW.seq ?_
    refine CW.reg ?_
    refine WL.mv rfl rfl ?_
    refine WL.asg rfl rfl ?_
    refine WL.nilS ?_
    refine CW.ret ?_
    refine RQ.r1 rfl ?_
    refine ⟨hB, u2, (some g1), ?_, osE ho2 ?_, hl2⟩
    · skip
      rfl
    · skip
      rfl
  try simp only [nq] at hc2
  refine CW.skipS ?_
  refine CW.seq ?_
  refine CW.reg ?_
  refine WL.mv rfl rfl ?_
  refine WL.asg rfl rfl ?_
  refine WL.nilS ?_
  refine CW.ret ?_
  refine RQ.r1 rfl ?_
  refine ⟨hB, (.slice none 0 0), none, ?_, osE (Osl.nil _ _) ?_, Lo.nl _⟩
  · skip
    rfl
  · skip
    rfl
theorem c_slices_Concat_int64_int64 {w : World} {va : Value} {xs : List (List Int)} (ha : Rd (ESl EI) w va xs) (hT : xs.flatten.length ≤ 100000) : Calls Try.prog 62 #[va] w (Ret1 (fun v w' => Ext w w' ∧ ∃ u og_u, v = u ∧ Osl VI w' og_u u (xs.flatten) ∧ Lo w og_u)) := by
  have hB : Ext w w := Ext.refl w
  have hla := ha.leI
  refine callsOf (vs := [_]) Try.func62 rfl Try.ntmps62 rfl rfl ?_
  refine CW.seq ?_
  refine CW.reg ?_
  refine WL.asg rfl rfl ?_
  refine WL.nilS ?_
  refine CW.seq ?_
  refine CW.reg ?_
  refine WL.asg rfl rfl ?_
  refine WL.nilS ?_
  refine CW.seq ?_
  refine CW.seq ?_
  refine CW.reg ?_
  refine WL.mv rfl rfl ?_
  refine WL.pure rfl rfl rfl ((by first | exact PV.len rfl (by assumption) T.sl83 | exact PV.lenOs rfl (by assumption) T.sl83 | exact PV.len rfl (NL.rd (by assumption)) T.sl83 | exact PV.len rfl (Inn.rd (by assumption) (by omega)) T.sl83)) ?_
  refine WL.mv rfl rfl ?_
  refine WL.nilS ?_
  refine CW.block ?_
  refine CW.loop (σk := [(0, _), (9, _), (10, _)]) (fun ρ wz m => ∃ (k : Nat), ρ = [(3, .int .i64 (((xs.take k).flatten.length : Nat) : Int)), (11, .int .i64 (k : Nat))] ∧ m = xs.length - k ∧ UpdL [] w wz ∧ (k ≤ xs.length)) (ρ₀ := [(3, _), (11, _)]) (m₀ := _) ⟨rfl, rfl, rfl, rfl, rfl, trivial⟩ ⟨0, (by simp), rfl, (UpdL.refl _ _), (by first | omega | rfl | (simp; done) | assumption | (simp_all; done))⟩ ?_
  rintro _ wl1 _ ⟨k, rfl, rfl, hU0, hk⟩
  have hB := hB.loop hU0 trivial
  have hfl := flat_le (xs := xs) k
  refine CW.seq ?_
  refine CW.reg ?_
  refine WL.pure rfl rfl rfl (PV.lss rfl rfl) ?_
  refine WL.nilS ?_
  refine CW.seq ?_
  refine CW.cond rfl (fun hc1 => ?_) (fun hc1 => ?_)
  · skip
    try simp only [nq] at hc1
    refine CW.skipS ?_
    refine CW.seq ?_
    refine CW.block ?_
    refine CW.seq ?_
    refine CW.reg ?_
    first
      | refine WL.at (x := .tmp 9) (y := .tmp 11) (E := ESl EI) ([]) rfl rfl (by first | assumption | exact Inn.rd (by assumption) (by omega)) (by first | omega | (simp only [List.length_set]; omega) | (simp only [List.length_append, List.length_take, List.length_replicate, List.length_drop]; omega)) (fun p1 csp1 hpp1 hcp1 hq => ?_)
      | refine WL.atZ (x := .tmp 9) (y := .tmp 11) (E := ESl EI) ([]) rfl rfl (by first | assumption | exact Inn.rd (by assumption) (by omega)) (by first | omega | (simp only [List.length_set]; omega) | (simp only [List.length_append, List.length_take, List.length_replicate, List.length_drop]; omega)) (fun p1 csp1 hpp1 hzp1 hcp1 hq => ?_)
    obtain ⟨vq, rfl, hrq⟩ := hq; have hrql := hrq.leI
    refine WL.pure rfl rfl rfl ((by first | exact PV.indexAddr hpp1 rfl rfl T.sl83 | exact PV.indexAddr hpp1 rfl (by rw [← hzp1]; rfl) T.sl83)) ?_
    refine WL.pure rfl rfl rfl ((by first | exact PV.load0 T.na22 rfl (by first | exact Cells.up (by assumption) hB | exact Bx.cells (by assumption) | assumption) (Ext.refl _) rfl | exact PV.load1 T.na22 rfl (by first | exact Cells.up (by assumption) hB | exact Bx.cells (by assumption) | assumption) (Ext.refl _) rfl)) ?_
    refine WL.asg rfl rfl ?_
    refine WL.nilS ?_
    refine CW.seq ?_
    refine CW.reg ?_
    have hfs := congrArg List.length (flat_succ (xs := xs) (k := k) (by omega)); rw [List.length_append] at hfs; have hfl1 := flat_le (xs := xs) (k + 1)
    refine WL.mv rfl rfl ?_
    refine WL.mv rfl rfl ?_
    refine WL.pure rfl rfl rfl ((by first | exact PV.len rfl (by assumption) T.sl22 | exact PV.lenOs rfl (by assumption) T.sl22 | exact PV.len rfl (NL.rd (by assumption)) T.sl22 | exact PV.len rfl (Inn.rd (by assumption) (by omega)) T.sl22)) ?_
    refine WL.pure rfl rfl rfl (PV.add rfl rfl (by constructor <;> omega)) ?_
    refine WL.asg rfl rfl ?_
    refine WL.nilS ?_
    refine CW.seq ?_
    refine CW.reg ?_
    refine WL.mv rfl rfl ?_
    refine WL.pure rfl rfl rfl (PV.lss rfl rfl) ?_
    refine WL.nilS ?_
    refine CW.cond rfl (fun hc2 => ?_) (fun hc2 => ?_)
    · skip
      try simp only [nq] at hc2
      exfalso; omega
    try simp only [nq] at hc2
    refine CW.skip ?_
    refine NQ.block ?_
    refine NQ.then ?_
    refine CW.reg ?_
    refine WL.pure rfl rfl rfl (PV.add rfl rfl (by constructor <;> omega)) ?_
    refine WL.mv rfl rfl ?_
    refine WL.nil ?_
    refine NQ.next (ρ := [(3, _), (11, _)]) ⟨rfl, rfl, rfl, rfl, rfl, trivial⟩ ?_
    exact ⟨_, ⟨k + 1, (by have e9 : (((xs.take (k + 1)).flatten.length : Nat) : Int) = ((xs.take k).flatten.length : Int) + ((xs.getD k []).length : Int) := (by omega); rw [e9]; rfl), rfl, hU0, (by first | omega | assumption | (simp_all; done) | (simp_all; omega))⟩, by omega⟩
  try simp only [nq] at hc1
  refine CW.exit ?_
  refine XQ.then ?_
  refine XQ.then ?_
  refine XQ.here ?_
  refine NQ.then ?_
  refine CW.seq ?_
  refine CW.reg ?_
  refine WL.mv rfl rfl ?_
  refine WL.op rfl (OpK.call rfl T.cf104 rfl (c_slices_Grow_int64_int64 (by first | assumption | omega | (simp only [marks_len, marksB_len, marksR_len]; omega))) (fun rv1 w1 hR => ?_))
  obtain ⟨hXw1, v1, og1, rfl, ho1, hq1⟩ := hR
  have hl1 := Lo.up hq1 hB
  have hB := hB.trans hXw1
  refine WL.asg rfl rfl ?_
  refine WL.nilS ?_
  refine CW.seq ?_
  refine CW.seq ?_
  refine CW.reg ?_
  refine WL.mv rfl rfl ?_
  refine WL.pure rfl rfl rfl ((by first | exact PV.len rfl (by assumption) T.sl83 | exact PV.lenOs rfl (by assumption) T.sl83 | exact PV.len rfl (NL.rd (by assumption)) T.sl83 | exact PV.len rfl (Inn.rd (by assumption) (by omega)) T.sl83)) ?_
  refine WL.mv rfl rfl ?_
  refine WL.nilS ?_
  refine CW.block ?_
  have hlt1 := ho1.ltO
  refine CW.loop (σk := [(25, _), (26, _)]) (fun ρ wz m => ∃ (v2 : Value) (og2 : Option Nat) (k : Nat), ρ = [(6, v2), (27, .int .i64 (k : Nat))] ∧ m = xs.length - k ∧ UpdL [og1] w1 wz ∧ Osl VI wz og2 v2 ((xs.take k).flatten) ∧ OgR w1 og1 og2 ∧ (k ≤ xs.length)) (ρ₀ := [(6, _), (27, _)]) (m₀ := _) ⟨rfl, rfl, rfl, rfl, trivial⟩ ⟨rv1, og1, 0, rfl, rfl, (UpdL.refl _ _), osE ho1 (by simp), OgR.refl _ _, (by first | omega | rfl | (simp; done) | assumption | (simp_all; done))⟩ ?_
  rintro _ wl2 _ ⟨v2, og2, k, rfl, rfl, hU1, ho2, ha2, hk⟩
  have hl2 := Lo.ogr hl1 hB ha2
  have hg1_2 := ha2
  have hk1_2 : OkB [og1] w1 og2 := OkB.ogr (OkB.mem (by simp)) (Nat.le_refl _) ha2
  have hB := hB.loop hU1 ⟨hl1, trivial⟩
  have hfl := flat_le (xs := xs) k
  refine CW.seq ?_
  refine CW.reg ?_
  refine WL.pure rfl rfl rfl (PV.lss rfl rfl) ?_
  refine WL.nilS ?_
  refine CW.seq ?_
  refine CW.cond rfl (fun hc3 => ?_) (fun hc3 => ?_)
  · skip
    try simp only [nq] at hc3
    refine CW.skipS ?_
    refine CW.seq ?_
    refine CW.block ?_
    refine CW.seq ?_
    refine CW.reg ?_
    first
      | refine WL.at (x := .tmp 25) (y := .tmp 27) (E := ESl EI) ([]) rfl rfl (by first | assumption | exact Inn.rd (by assumption) (by omega)) (by first | omega | (simp only [List.length_set]; omega) | (simp only [List.length_append, List.length_take, List.length_replicate, List.length_drop]; omega)) (fun p2 csp2 hpp2 hcp2 hq => ?_)
      | refine WL.atZ (x := .tmp 25) (y := .tmp 27) (E := ESl EI) ([]) rfl rfl (by first | assumption | exact Inn.rd (by assumption) (by omega)) (by first | omega | (simp only [List.length_set]; omega) | (simp only [List.length_append, List.length_take, List.length_replicate, List.length_drop]; omega)) (fun p2 csp2 hpp2 hzp2 hcp2 hq => ?_)
    obtain ⟨vq, rfl, hrq⟩ := hq; have hrql := hrq.leI
    refine WL.pure rfl rfl rfl ((by first | exact PV.indexAddr hpp2 rfl rfl T.sl83 | exact PV.indexAddr hpp2 rfl (by rw [← hzp2]; rfl) T.sl83)) ?_
    refine WL.pure rfl rfl rfl ((by first | exact PV.load0 T.na22 rfl (by first | exact Cells.up (by assumption) hB | exact Bx.cells (by assumption) | assumption) (Ext.refl _) rfl | exact PV.load1 T.na22 rfl (by first | exact Cells.up (by assumption) hB | exact Bx.cells (by assumption) | assumption) (Ext.refl _) rfl)) ?_
    refine WL.asg rfl rfl ?_
    refine WL.nilS ?_
    refine CW.reg ?_
    have hfs := congrArg List.length (flat_succ (xs := xs) (k := k) (by omega)); rw [List.length_append] at hfs; have hfl1 := flat_le (xs := xs) (k + 1)
    refine WL.mv rfl rfl ?_
    refine WL.mv rfl rfl ?_
    refine WL.op rfl (OpK.appendS (f := VI) rfl T.sl22 T.zv2 rfl rfl ho2 rfl (Rd.src (by first | assumption | exact Rd.up (by assumption) hB | exact Inn.rd (by assumption) (by omega)) (fun _ => rfl)) (by first | (simp only [List.length_cons, List.length_nil]; omega) | (omega)) (fun v3 og3 w2 hXw2 ho3 hap3 => ?_))
    have hl3 := Lo.app hl2 hB hap3
    have hk1_3 := OkN.app hU1 hk1_2 hap3
    have hg1_3 := OgR.app hg1_2 hU1.size hap3
    have hB := hB.updL hXw2 hl2
    have hU1 := hU1.step hXw2 hk1_2
    refine WL.asg rfl rfl ?_
    refine WL.nil ?_
    refine NQ.block ?_
    refine NQ.then ?_
    refine CW.reg ?_
    refine WL.pure rfl rfl rfl (PV.add rfl rfl (by constructor <;> omega)) ?_
    refine WL.mv rfl rfl ?_
    refine WL.nil ?_
    refine NQ.next (ρ := [(6, _), (27, _)]) ⟨rfl, rfl, rfl, rfl, trivial⟩ ?_
    exact ⟨_, ⟨v3, og3, k + 1, rfl, rfl, hU1, osE ho3 (by exact flat_put (by omega)), (by first | exact hg1_3 | exact OgR.weak hg1_3), (by first | omega | assumption | (simp_all; done) | (simp_all; omega))⟩, by omega⟩
  try simp only [nq] at hc3
  refine CW.exit ?_
  refine XQ.then ?_
  refine XQ.then ?_
  refine XQ.here ?_
  refine NQ.then ?_
  refine CW.seq ?_
  refine CW.reg ?_
  refine WL.mv rfl rfl ?_
  refine WL.asg rfl rfl ?_
  refine WL.nilS ?_
  refine CW.ret ?_
  refine RQ.r1 rfl ?_
  refine ⟨hB, v2, og2, ?_, osE ho2 ?_, hl2⟩
  · skip
    rfl
  · skip
    rw [List.take_of_length_le (by omega)]
set_option maxHeartbeats 8000000 in
theorem c_impl_FirstTree {w : World} {a0 : Int} {a1 : Int} {va2 : Value} {xa2 : List Int} {va3 : Value} {xa3 : List Int} {va4 : Value} {xa4 : List Bool}  (ha2 : Rd EI w va2 xa2) (ha3 : Rd EI w va3 xa3) (ha4 : Rd EB w va4 xa4) : Calls Try.prog 33 #[.agg #[.int .i64 a0, .int .i64 a1, va2, va3, va4]] w (Ret1 (fun v w' => Ext w w' ∧ ∃ u og_u, v = .tuple #[u, .bool (ftB (treesB a0 a1 xa2 xa3 xa4) xa4 (foundL a0 xa3 xa2))] ∧ Osl VI w' og_u u (ftT (treesB a0 a1 xa2 xa3 xa4) xa4 (foundL a0 xa3 xa2)) ∧ Lo w og_u)) := by
  have hB : Ext w w := Ext.refl w
  have hla2 := ha2.leI; have hla3 := ha3.leI; have hla4 := ha4.leI
  refine callsOf (vs := [_]) Try.func33 rfl Try.ntmps33 rfl rfl ?_
  refine CW.seq ?_
  refine CW.reg ?_
  refine WL.op rfl (OpK.box rfl rfl (by first | exact Rd.cells1 (by assumption) | exact Osl.cells1 (by assumption) | exact Osn.cells1 (by assumption) | exact Rd.cells1 (NL.rd (by assumption)) | exact Inn.cell1 (by assumption) (by omega) | assumption | rfl) (fun b1 w1 hXw1 hb1 hge1 => ?_))
  have hl1 := Lo.new hB hge1
  have hB := hB.trans hXw1
  refine WL.asg rfl rfl ?_
  refine WL.asg rfl rfl ?_
  refine WL.nilS ?_
  refine CW.seq ?_
  refine CW.seq ?_
  refine CW.reg ?_
  refine WL.pure rfl rfl rfl (PV.loadA T.ag36 rfl hb1.cells (Ext.refl _) rfl) ?_
  refine WL.op rfl (OpK.callR rfl T.cf68 rfl (c_impl_ValidTrees (by first | assumption | exact Rd.up (by assumption) hB | exact Osl.rd (by assumption) | exact Osn.rdR (by assumption) | exact NL.rd (by assumption) | exact rdII (by assumption) (by assumption) | exact Inn.rd (by assumption) (by omega)) (by first | assumption | exact Rd.up (by assumption) hB | exact Osl.rd (by assumption) | exact Osn.rdR (by assumption) | exact NL.rd (by assumption) | exact rdII (by assumption) (by assumption) | exact Inn.rd (by assumption) (by omega)) (by first | assumption | exact Rd.up (by assumption) hB | exact Osl.rd (by assumption) | exact Osn.rdR (by assumption) | exact NL.rd (by assumption) | exact rdII (by assumption) (by assumption) | exact Inn.rd (by assumption) (by omega))) (fun w2 hXw2 => ?_))
  have hB := hB.trans hXw2
  have hb1 := hb1.up hXw2
  refine WL.pure rfl rfl rfl (PV.not rfl) ?_
  refine WL.nilS ?_
  refine CW.cond rfl (fun hc1 => ?_) (fun hc1 => ?_)
  · skip
    try simp only [nq] at hc1
    refine CW.seq ?_
    refine CW.reg ?_
    refine WL.asg rfl rfl ?_
    refine WL.asg rfl rfl ?_
    refine WL.nilS ?_
    refine CW.ret ?_
    refine RQ.then ?_
    refine RQ.r2 rfl rfl ?_
    refine ⟨hB, (.slice none 0 0), none, ?_, osE (Osl.nil _ _) ?_, Lo.nl _⟩
    · skip
      exact tE2 rfl (bE (by first | (rw [(Bool.eq_false_iff.2 (treesB_no (by assumption)))]; rfl) | exact (ft_long hno (by omega) (by assumption) (by rw [htr]; omega)).1.symm | (rw [hvb]; first | exact (ft_yes hno (by omega) (by assumption) (by rw [htr]; omega)).1.symm | exact htr.symm.trans (ft_yes hno (by omega) (by assumption) (by rw [htr]; omega)).1.symm) | exact (ft_none hno (by omega)).1.symm | (exfalso; exact absurd (by assumption : xa4.getD ((foundL a0 xa3 xa2).getD k (0, 0, 0, 0)).1.toNat false = true) (by rw [(by assumption : xa4.getD ((foundL a0 xa3 xa2).getD k (0, 0, 0, 0)).1.toNat false = false)]; decide))))
    · skip
      first | (rw [(Bool.eq_false_iff.2 (treesB_no (by assumption)))]; rfl) | exact (ft_long hno (by omega) (by assumption) (by rw [htr]; omega)).2.symm | (rw [hvb]; first | exact (ft_yes hno (by omega) (by assumption) (by rw [htr]; omega)).2.symm | exact htr.symm.trans (ft_yes hno (by omega) (by assumption) (by rw [htr]; omega)).2.symm) | exact (ft_none hno (by omega)).2.symm | (exfalso; exact absurd (by assumption : xa4.getD ((foundL a0 xa3 xa2).getD k (0, 0, 0, 0)).1.toNat false = true) (by rw [(by assumption : xa4.getD ((foundL a0 xa3 xa2).getD k (0, 0, 0, 0)).1.toNat false = false)]; decide))
  try simp only [nq] at hc1
  have hv : (1 ≤ a0 ∧ a0 ≤ 16) ∧ (1 ≤ a1 ∧ a1 ≤ 4) ∧ (xa2.length : Int) = a1 ∧ (xa3.length : Int) = a0 * a0 ∧ (xa4.length : Int) = a0 ∧ allIn xa2 0 (a0 - 1) = true ∧ allIn xa3 0 (a0 - 1) = true := (by assumption); have hvb := treesB_yes hv; have tv : TV a0 a1 xa2 xa3 := ⟨hv.1, hv.2.1, hv.2.2.1, hv.2.2.2.1, hv.2.2.2.2.2.1, hv.2.2.2.2.2.2⟩; have tvs := tv.s; have tvl := tv.ll; have tvn := tv.nl; have hF0 := found_ok tv; have hFn := hF0.len; have hv5 := hv.2.2.2.2.1; have htl := trF_len2 (foundL a0 xa3 xa2)
  refine CW.skipS ?_
  refine CW.seq ?_
  refine CW.reg ?_
  refine WL.op rfl (OpK.buildS VV (os := []) [] rfl T.sl83 rfl rfl T.zv22 rfl (by intro z hz; cases hz) rfl (fun v2 g2 w3 hXw3 ho2 hge2 => ?_))
  have hl2 := Lo.new hB hge2
  have hd1_2 := Dj.new hb1.ltO hge2
  have hB := hB.trans hXw3
  have hb1 := hb1.up hXw3
  refine WL.asg rfl rfl ?_
  refine WL.nilS ?_
  refine CW.seq ?_
  refine CW.seq ?_
  refine CW.reg ?_
  refine WL.pure rfl rfl rfl (PV.loadA T.ag36 rfl hb1.cells (Ext.refl _) rfl) ?_
  refine WL.op rfl (OpK.call rfl T.cf75 rfl (c_impl_TreeMachine_find (by first | assumption | exact Rd.up (by assumption) hB | exact Osl.rd (by assumption) | exact Osn.rdR (by assumption) | exact NL.rd (by assumption) | exact rdII (by assumption) (by assumption) | exact Inn.rd (by assumption) (by omega)) (by first | assumption | exact Rd.up (by assumption) hB | exact Osl.rd (by assumption) | exact Osn.rdR (by assumption) | exact NL.rd (by assumption) | exact rdII (by assumption) (by assumption) | exact Inn.rd (by assumption) (by omega)) (by first | assumption | exact Rd.up (by assumption) hB | exact Osl.rd (by assumption) | exact Osn.rdR (by assumption) | exact NL.rd (by assumption) | exact rdII (by assumption) (by assumption) | exact Inn.rd (by assumption) (by omega)) (by first | assumption | omega | (simp only [marks_len, marksB_len, marksR_len]; omega))) (fun rv1 w4 hR => ?_))
  obtain ⟨hXw4, v3, og3, rfl, ho3, hq3⟩ := hR
  have hl3 := Lo.up hq3 hB
  have hd1_3 := Dj.lo hb1.ltO hq3
  have hd2_3 := Dj.lo ho2.ltO hq3
  have hB := hB.trans hXw4
  have hb1 := hb1.up hXw4
  have ho2 := ho2.up hXw4
  refine WL.pure rfl rfl rfl ((PV.lenOsn rfl ho3 T.sl88)) ?_
  refine WL.mv rfl rfl ?_
  refine WL.nilS ?_
  refine CW.block ?_
  have hn4 := Inn.zero w4
  have hl4 := LoI.nl w
  have hd1_4 : DI [] (some b1.block) := DI.zero _
  have hd2_4 : DI [] (some g2) := DI.zero _
  have hd3_4 : DI [] og3 := DI.zero _
  have hlt1 := hb1.ltO
  have hlt2 := ho2.ltO
  have hlt3 := ho3.ltO
  have hlt4 := hn4.ltO
  refine CW.loop (σk := [(1, _), (13, _), (14, _)]) (fun ρ wz m => ∃ (v5 : Value) (og5 : Option Nat) (vs5 : List Value) (os5 : List (Option Nat)) (k : Nat), ρ = [(4, v5), (15, .int .i64 (k : Nat))] ∧ m = (foundL a0 xa3 xa2).length - k ∧ UpdL [(some g2)] w4 wz ∧ Osl VV wz og5 v5 (vs5) ∧ OgR w4 (some g2) og5 ∧ Inn wz os5 vs5 (trF ((foundL a0 xa3 xa2).take k)) ∧ BlR w4 [] os5 ∧ DI os5 og5 ∧ (k ≤ (foundL a0 xa3 xa2).length) ∧ (NoE xa4 (foundL a0 xa3 xa2) k)) (ρ₀ := [(4, _), (15, _)]) (m₀ := _) ⟨rfl, rfl, rfl, rfl, rfl, trivial⟩ ⟨v2, (some g2), _, [], 0, rfl, rfl, (UpdL.refl _ _), ho2, OgR.refl _ _, innE hn4 (by rfl), BlR.refl _ _, hd2_4, (by first | omega | rfl | (simp; done) | assumption | (simp_all; done)), (by exact NoE.zero)⟩ ?_
  rintro _ wl1 _ ⟨v5, og5, vs5, os5, k, rfl, rfl, hU0, ho5, ha5, hn6, hy6, hd5_6, hk, hno⟩
  have hb1 := hb1.loop hU0 ⟨hd1_2, trivial⟩
  have ho3 := ho3.loop hU0 ⟨(Dj.symm hd2_3), trivial⟩
  have hl5 := Lo.ogr hl2 hB ha5
  have hg0_5 := ha5
  have hk0_5 : OkB [(some g2)] w4 og5 := OkB.ogr (OkB.mem (by simp)) (Nat.le_refl _) ha5
  have hd1_5 := Dj.ogr hd1_2 hlt1 ha5
  have hd3_5 := Dj.ogr (Dj.symm hd2_3) hlt3 ha5
  have hBpre0 := hB
  have hB := hB.loop hU0 ⟨hl2, trivial⟩
  have hlv6 := hn6.lv
  have hd1_6 := DI.blr hd1_4 hlt1 hy6
  have hd3_6 := DI.blr hd3_4 hlt3 hy6
  have hz0_6 := hy6
  have hl6 := LoI.blr hl4 hBpre0 hy6
  refine CW.seq ?_
  refine CW.reg ?_
  refine WL.pure rfl rfl rfl (PV.lss rfl rfl) ?_
  refine WL.nilS ?_
  refine CW.seq ?_
  refine CW.cond rfl (fun hc2 => ?_) (fun hc2 => ?_)
  · skip
    try simp only [nq] at hc2
    refine CW.skipS ?_
    refine CW.seq ?_
    refine CW.block ?_
    refine CW.seq ?_
    refine CW.reg ?_
    have hst := hF0.st (i := k) (by omega); simp only [rS] at hst; have htk := trF_len (foundL a0 xa3 xa2) k (by omega)
    have hrdp1 := ho3.rdR
    first
      | refine WL.at (x := .tmp 13) (y := .tmp 15) (E := ER) ((0, 0, 0, 0)) rfl rfl hrdp1 (by first | omega | (simp only [List.length_set]; omega) | (simp only [List.length_append, List.length_take, List.length_replicate, List.length_drop]; omega)) (fun p1 csp1 hpp1 hcp1 hq => ?_)
      | refine WL.atZ (x := .tmp 13) (y := .tmp 15) (E := ER) ((0, 0, 0, 0)) rfl rfl hrdp1 (by first | omega | (simp only [List.length_set]; omega) | (simp only [List.length_append, List.length_take, List.length_replicate, List.length_drop]; omega)) (fun p1 csp1 hpp1 hzp1 hcp1 hq => ?_)
    cases hq
    refine WL.pure rfl rfl rfl ((by first | exact PV.indexAddr hpp1 rfl rfl T.sl88 | exact PV.indexAddr hpp1 rfl (by rw [← hzp1]; rfl) T.sl88)) ?_
    refine WL.pure rfl rfl rfl ((by first | exact PV.loadA T.ag91 rfl (by first | exact Cells.up (by assumption) hB | exact Bx.cells (by assumption) | assumption) (Ext.refl _) rfl | exact PV.loadP (ds := [_, _, _, _]) T.ag91 rfl (by first | exact Cells.up (by assumption) hB | exact Bx.cells (by assumption) | assumption) (Ext.refl _) rfl rfl)) ?_
    refine WL.op rfl (OpK.alloc rfl T.zv91 rfl (fun b7 w5 hXw5 hb7 hge7 => ?_))
    have hl7 := Lo.new hB hge7
    have hd1_7 := Dj.new hb1.ltO hge7
    have hd3_7 := Dj.new ho3.ltO hge7
    have hd6_7 := DI.new hn6 hge7
    have hd5_7 := Dj.new ho5.ltO hge7
    have hk0_7 := OkN.new hU0 hge7
    have hg0_7 := OgR.new hU0.size hge7
    have hB := hB.trans hXw5
    have hb1 := hb1.up hXw5
    have ho3 := ho3.up hXw5
    have hn6 := hn6.up hXw5
    have ho5 := ho5.up hXw5
    have hU0 := hU0.ext hXw5
    refine WL.op rfl (OpK.storeA T.sz91 rfl rfl rfl rfl (by simp [Value.oneCell'] <;> first | done | (repeat' apply And.intro) <;> first | rfl | exact Inn.one1 (by assumption) (by omega) | exact Osl.oneCell (by assumption) | exact Osn.oneCell (by assumption) | exact Rd.oneCell (by assumption) | exact Rd.oneCell (NL.rd (by assumption)) | assumption) hb7 (fun w6 hXw6 hb7 => ?_))
    have hB := hB.updL hXw6 hl7
    have hb1 := hb1.updD hXw6 hd1_7
    have ho3 := ho3.updD hXw6 hd3_7
    have hn6 := hn6.updD hXw6 hd6_7
    have ho5 := ho5.updD hXw6 hd5_7
    have hU0 := hU0.step hXw6 hk0_7
    refine WL.nilS ?_
    refine CW.seq ?_
    refine CW.reg ?_
    refine WL.pure rfl rfl rfl (PV.fieldAddr T.fl91_1 rfl hb7.cells) ?_
    refine WL.pure rfl rfl rfl (PV.load1 T.na2 rfl hb7.cells (Ext.refl _) rfl) ?_
    refine WL.op rfl (OpK.buildS VI (os := [.tmp 20]) [_] rfl T.sl22 rfl rfl T.zv2 rfl (by intro z hz; first | rfl | (simp only [List.mem_cons, List.not_mem_nil, or_false] at hz; subst hz; exact (by first | exact Rd.cells1 (by assumption) | exact Osl.cells1 (by assumption) | exact Osn.cells1 (by assumption) | exact Rd.cells1 (NL.rd (by assumption)) | exact Inn.cell1 (by assumption) (by omega) | assumption | rfl))) rfl (fun v8 g8 w7 hXw7 ho8 hge8 => ?_))
    have hl8 := Lo.new hB hge8
    have hd1_8 := Dj.new hb1.ltO hge8
    have hd3_8 := Dj.new ho3.ltO hge8
    have hd6_8 := DI.new hn6 hge8
    have hd5_8 := Dj.new ho5.ltO hge8
    have hd7_8 := Dj.new hb7.ltO hge8
    have hk0_8 := OkN.new hU0 hge8
    have hg0_8 := OgR.new hU0.size hge8
    have hB := hB.trans hXw7
    have hb1 := hb1.up hXw7
    have ho3 := ho3.up hXw7
    have hn6 := hn6.up hXw7
    have ho5 := ho5.up hXw7
    have hb7 := hb7.up hXw7
    have hU0 := hU0.ext hXw7
    refine WL.asg rfl rfl ?_
    refine WL.nilS ?_
    refine CW.seq ?_
    refine CW.seq ?_
    refine CW.reg ?_
    refine WL.pure rfl rfl rfl (PV.fieldAddr T.fl91_1 rfl hb7.cells) ?_
    refine WL.pure rfl rfl rfl (PV.load1 T.na2 rfl hb7.cells (Ext.refl _) rfl) ?_
    refine WL.pure rfl rfl rfl (PV.lss rfl rfl) ?_
    refine WL.nilS ?_
    refine CW.cond rfl (fun hc3 => ?_) (fun hc3 => ?_)
    · skip
      try simp only [nq] at hc3
      obtain ⟨hw1, hw2, hw3⟩ := how_neg hF0 (k := k) (by omega) (by assumption); have htr := tr_neg (l := foundL a0 xa3 xa2) (k := k) (by omega) hw1; have hs1 := trF_smallk hF0 (by omega) (i := ((foundL a0 xa3 xa2).getD k (0, 0, 0, 0)).2.2.1.toNat) (k := k) (by omega) (by omega); have hs2 := trF_smallk hF0 (by omega) (i := ((foundL a0 xa3 xa2).getD k (0, 0, 0, 0)).2.2.2.toNat) (k := k) (by omega) (by omega)
      refine CW.draw T.mixed (by kernel_rfl) (fun _ _ _ _ _ h => h) (fun w8 w9 => Upd none w8 w9) 14 (.take 0 (.take 1 (.take 2 (.take 3 (.take 4 (.take 5 (.take 6 (.take 7 (.take 8 (.take 9 (.take 10 (.must 11 (.must 12 (.take 13 .done)))))))))))))) (by kernel_rfl) (fun w8 hXd => ?_)
      have hB := hB.trans hXd
      have hb1 := hb1.up hXd
      have ho3 := ho3.up hXd
      have hn6 := hn6.up hXd
      have ho5 := ho5.up hXd
      have hb7 := hb7.up hXd
      have ho8 := ho8.up hXd
      have hU0 := hU0.ext hXd
      have hBr := hB
      have hS : Upd none w8 w8 := Ext.toUpd (Ext.refl _)
      refine HP.take rfl rfl rfl rfl hS (fun wS hS1 => PV.move rfl) ?_
      refine HP.take rfl rfl rfl rfl hS (fun wS hS1 => PV.move rfl) ?_
      refine HP.take rfl rfl rfl rfl hS (fun wS hS1 => PV.fieldAddr T.fl91_2 rfl hb7.cells) ?_
      refine HP.take rfl rfl rfl rfl hS (fun wS hS1 => PV.load1 T.na3 rfl (Bx.cells (Bx.updD (by assumption) hS1 (Dj.nlR _))) (Ext.refl _) rfl) ?_
      first
        | refine HP.atO (wb := w8) (x := .tmp 26) (y := .tmp 28) (f := VV) (.slice none 0 0) rfl rfl (by assumption) (by first | omega | (simp only [List.length_set]; omega) | (simp only [List.length_append, List.length_take, List.length_replicate, List.length_drop]; omega)) (fun p2 hpp2 hcp2 => ?_)
        | refine HP.atOZ (wb := w8) (x := .tmp 26) (y := .tmp 28) (f := VV) (.slice none 0 0) rfl rfl (by assumption) (by first | omega | (simp only [List.length_set]; omega) | (simp only [List.length_append, List.length_take, List.length_replicate, List.length_drop]; omega)) (fun p2 hpp2 hzp2 hcp2 => ?_)
      refine HP.take rfl rfl rfl rfl hS (fun wS hS1 => (by first | exact PV.indexAddr hpp2 rfl rfl T.sl83 | exact PV.indexAddr hpp2 rfl (by rw [← hzp2]; rfl) T.sl83)) ?_
      refine HP.take rfl rfl rfl rfl hS (fun wS hS1 => (by first | exact PV.load0 T.na22 rfl (by first | exact Cells.up (by assumption) (hBr.trans hS1) | exact Bx.cells (Bx.updD (by assumption) hS1 (Dj.nlR _)) | exact Cells.upd (by assumption) hS1 (by simp)) (Ext.refl _) rfl | exact PV.load1 T.na22 rfl (by first | exact Cells.up (by assumption) (hBr.trans hS1) | exact Bx.cells (Bx.updD (by assumption) hS1 (Dj.nlR _)) | exact Cells.upd (by assumption) hS1 (by simp)) (Ext.refl _) rfl)) ?_
      refine HP.take rfl rfl rfl rfl hS (fun wS hS1 => PV.move rfl) ?_
      refine HP.take rfl rfl rfl rfl hS (fun wS hS1 => PV.fieldAddr T.fl91_3 rfl hb7.cells) ?_
      refine HP.take rfl rfl rfl rfl hS (fun wS hS1 => PV.load1 T.na3 rfl (Bx.cells (Bx.updD (by assumption) hS1 (Dj.nlR _))) (Ext.refl _) rfl) ?_
      first
        | refine HP.atO (wb := w8) (x := .tmp 31) (y := .tmp 33) (f := VV) (.slice none 0 0) rfl rfl (by assumption) (by first | omega | (simp only [List.length_set]; omega) | (simp only [List.length_append, List.length_take, List.length_replicate, List.length_drop]; omega)) (fun p3 hpp3 hcp3 => ?_)
        | refine HP.atOZ (wb := w8) (x := .tmp 31) (y := .tmp 33) (f := VV) (.slice none 0 0) rfl rfl (by assumption) (by first | omega | (simp only [List.length_set]; omega) | (simp only [List.length_append, List.length_take, List.length_replicate, List.length_drop]; omega)) (fun p3 hpp3 hzp3 hcp3 => ?_)
      refine HP.take rfl rfl rfl rfl hS (fun wS hS1 => (by first | exact PV.indexAddr hpp3 rfl rfl T.sl83 | exact PV.indexAddr hpp3 rfl (by rw [← hzp3]; rfl) T.sl83)) ?_
      refine HP.take rfl rfl rfl rfl hS (fun wS hS1 => (by first | exact PV.load0 T.na22 rfl (by first | exact Cells.up (by assumption) (hBr.trans hS1) | exact Bx.cells (Bx.updD (by assumption) hS1 (Dj.nlR _)) | exact Cells.upd (by assumption) hS1 (by simp)) (Ext.refl _) rfl | exact PV.load1 T.na22 rfl (by first | exact Cells.up (by assumption) (hBr.trans hS1) | exact Bx.cells (Bx.updD (by assumption) hS1 (Dj.nlR _)) | exact Cells.upd (by assumption) hS1 (by simp)) (Ext.refl _) rfl)) ?_
      refine HP.must rfl rfl (OpK.buildS VV (os := [.tmp 25, .tmp 30, .tmp 35]) [_, _, _] rfl T.sl83 rfl rfl T.zv22 rfl (by intro z hz; first | rfl | (simp only [List.mem_cons, List.not_mem_nil, or_false] at hz; rcases hz with hz | hz | hz <;> subst hz <;> exact (by first | exact Rd.cells1 (by assumption) | exact Osl.cells1 (by assumption) | exact Osn.cells1 (by assumption) | exact Rd.cells1 (NL.rd (by assumption)) | exact Inn.cell1 (by assumption) (by omega) | assumption | rfl))) rfl (fun v9 g9 w9 hXw9 ho9 hge9 => ?_))
      have hl9 := Lo.new hB hge9
      have hv9 := Lo.new hS hge9
      have hd1_9 := Dj.new hb1.ltO hge9
      have hd3_9 := Dj.new ho3.ltO hge9
      have hd6_9 := DI.new hn6 hge9
      have hd5_9 := Dj.new ho5.ltO hge9
      have hd7_9 := Dj.new hb7.ltO hge9
      have hd8_9 := Dj.new ho8.ltO hge9
      have hk0_9 := OkN.new hU0 hge9
      have hg0_9 := OgR.new hU0.size hge9
      refine ⟨Upd.trans hS hXw9, ?_⟩
      have hS := Upd.trans hS hXw9
      have hB := hB.trans hXw9
      have hb1 := hb1.up hXw9
      have ho3 := ho3.up hXw9
      have hn6 := hn6.up hXw9
      have ho5 := ho5.up hXw9
      have hb7 := hb7.up hXw9
      have ho8 := ho8.up hXw9
      have hU0 := hU0.ext hXw9
      refine HP.must rfl rfl (OpK.call rfl T.cf62 rfl (c_slices_Concat_int64_int64 (rdSl3 (by assumption) (Osl.rd (by assumption)) (Inn.rd (by assumption) (by omega)) (Inn.rd (by assumption) (by omega))) (by simp only [List.flatten_cons, List.flatten_nil, List.append_nil, List.length_append, List.length_singleton]; omega)) (fun rv2 w10 hR => ?_))
      obtain ⟨hXw10, v10, og10, rfl, ho10, hq10⟩ := hR
      have hl10 := Lo.up hq10 hB
      have hv10 := Lo.up hq10 hS
      have hd1_10 := Dj.lo hb1.ltO hq10
      have hd3_10 := Dj.lo ho3.ltO hq10
      have hd6_10 := DI.fresh hn6 hq10
      have hd5_10 := Dj.lo ho5.ltO hq10
      have hd7_10 := Dj.lo hb7.ltO hq10
      have hd8_10 := Dj.lo ho8.ltO hq10
      have hd9_10 := Dj.lo ho9.ltO hq10
      have hk0_10 := OkN.lo hU0 hq10
      have hg0_10 := OgR.lo hU0.size hq10
      refine ⟨Upd.trans hS hXw10, ?_⟩
      have hS := Upd.trans hS hXw10
      have hB := hB.trans hXw10
      have hb1 := hb1.up hXw10
      have ho3 := ho3.up hXw10
      have hn6 := hn6.up hXw10
      have ho5 := ho5.up hXw10
      have hb7 := hb7.up hXw10
      have ho8 := ho8.up hXw10
      have ho9 := ho9.up hXw10
      have hU0 := hU0.ext hXw10
      refine HP.take rfl rfl rfl rfl hS (fun wS hS1 => PV.assign rfl) ?_
      refine HP.doneS ?_
      refine CW.seq ?_
      refine CW.seq ?_
      refine CW.reg ?_
      refine WL.pure rfl rfl rfl (PV.fieldAddr T.fl36_4 rfl hb1.cells) ?_
      refine WL.pure rfl rfl rfl (PV.load1 T.na31 rfl hb1.cells (Ext.refl _) rfl) ?_
      refine WL.pure rfl rfl rfl (PV.fieldAddr T.fl91_0 rfl hb7.cells) ?_
      refine WL.pure rfl rfl rfl (PV.load1 T.na2 rfl hb7.cells (Ext.refl _) rfl) ?_
      first
        | refine WL.at (x := .tmp 39) (y := .tmp 41) (E := EB) (false) rfl rfl (by first | assumption | exact Inn.rd (by assumption) (by omega)) (by first | omega | (simp only [List.length_set]; omega) | (simp only [List.length_append, List.length_take, List.length_replicate, List.length_drop]; omega)) (fun p4 csp4 hpp4 hcp4 hq => ?_)
        | refine WL.atZ (x := .tmp 39) (y := .tmp 41) (E := EB) (false) rfl rfl (by first | assumption | exact Inn.rd (by assumption) (by omega)) (by first | omega | (simp only [List.length_set]; omega) | (simp only [List.length_append, List.length_take, List.length_replicate, List.length_drop]; omega)) (fun p4 csp4 hpp4 hzp4 hcp4 hq => ?_)
      cases hq
      refine WL.pure rfl rfl rfl ((by first | exact PV.indexAddr hpp4 rfl rfl T.sl31 | exact PV.indexAddr hpp4 rfl (by rw [← hzp4]; rfl) T.sl31)) ?_
      refine WL.pure rfl rfl rfl ((by first | exact PV.load0 T.na4 rfl (by first | exact Cells.up (by assumption) hB | exact Bx.cells (by assumption) | assumption) (Ext.refl _) rfl | exact PV.load1 T.na4 rfl (by first | exact Cells.up (by assumption) hB | exact Bx.cells (by assumption) | assumption) (Ext.refl _) rfl)) ?_
      refine WL.mv rfl rfl ?_
      refine WL.split (t := 44) rfl (fun hc4 => ?_) (fun hc4 => ?_)
      rotate_left
      · skip
        try simp only [nq] at hc4
        refine WL.skip rfl rfl rfl rfl rfl ?_
        refine WL.skip rfl rfl rfl rfl rfl ?_
        refine WL.skip rfl rfl rfl rfl rfl ?_
        refine WL.pure rfl rfl rfl (PV.pickF rfl rfl) ?_
        refine WL.nilS ?_
        refine CW.condF rfl ?_
        refine CW.skipS ?_
        refine CW.seq ?_
        refine CW.seq ?_
        refine CW.reg ?_
        refine WL.pure rfl rfl rfl (PV.fieldAddr T.fl36_4 rfl hb1.cells) ?_
        refine WL.pure rfl rfl rfl (PV.load1 T.na31 rfl hb1.cells (Ext.refl _) rfl) ?_
        refine WL.pure rfl rfl rfl (PV.fieldAddr T.fl91_0 rfl hb7.cells) ?_
        refine WL.pure rfl rfl rfl (PV.load1 T.na2 rfl hb7.cells (Ext.refl _) rfl) ?_
        first
          | refine WL.at (x := .tmp 50) (y := .tmp 52) (E := EB) (false) rfl rfl (by first | assumption | exact Inn.rd (by assumption) (by omega)) (by first | omega | (simp only [List.length_set]; omega) | (simp only [List.length_append, List.length_take, List.length_replicate, List.length_drop]; omega)) (fun p5 csp5 hpp5 hcp5 hq => ?_)
          | refine WL.atZ (x := .tmp 50) (y := .tmp 52) (E := EB) (false) rfl rfl (by first | assumption | exact Inn.rd (by assumption) (by omega)) (by first | omega | (simp only [List.length_set]; omega) | (simp only [List.length_append, List.length_take, List.length_replicate, List.length_drop]; omega)) (fun p5 csp5 hpp5 hzp5 hcp5 hq => ?_)
        cases hq
        refine WL.pure rfl rfl rfl ((by first | exact PV.indexAddr hpp5 rfl rfl T.sl31 | exact PV.indexAddr hpp5 rfl (by rw [← hzp5]; rfl) T.sl31)) ?_
        refine WL.pure rfl rfl rfl ((by first | exact PV.load0 T.na4 rfl (by first | exact Cells.up (by assumption) hB | exact Bx.cells (by assumption) | assumption) (Ext.refl _) rfl | exact PV.load1 T.na4 rfl (by first | exact Cells.up (by assumption) hB | exact Bx.cells (by assumption) | assumption) (Ext.refl _) rfl)) ?_
        refine WL.nilS ?_
        refine CW.cond rfl (fun hc5 => ?_) (fun hc5 => ?_)
        · skip
          try simp only [nq] at hc5
          refine CW.seq ?_
          refine CW.reg ?_
          refine WL.mv rfl rfl ?_
          refine WL.asg rfl rfl ?_
          refine WL.asg rfl rfl ?_
          refine WL.nilS ?_
          refine CW.ret ?_
          refine RQ.then ?_
          refine RQ.block ?_
          refine RQ.then ?_
          refine RQ.then ?_
          refine RQ.block ?_
          refine RQ.then ?_
          refine RQ.r2 rfl rfl ?_
          refine ⟨hB, rv2, og10, ?_, osE ho10 ?_, hl10⟩
          · skip
            exact tE2 rfl (bE (by first | (rw [(Bool.eq_false_iff.2 (treesB_no (by assumption)))]; rfl) | exact (ft_long hno (by omega) (by assumption) (by rw [htr]; omega)).1.symm | (rw [hvb]; first | exact (ft_yes hno (by omega) (by assumption) (by rw [htr]; omega)).1.symm | exact htr.symm.trans (ft_yes hno (by omega) (by assumption) (by rw [htr]; omega)).1.symm) | exact (ft_none hno (by omega)).1.symm | (exfalso; exact absurd (by assumption : xa4.getD ((foundL a0 xa3 xa2).getD k (0, 0, 0, 0)).1.toNat false = true) (by rw [(by assumption : xa4.getD ((foundL a0 xa3 xa2).getD k (0, 0, 0, 0)).1.toNat false = false)]; decide))))
          · skip
            first | (rw [(Bool.eq_false_iff.2 (treesB_no (by assumption)))]; rfl) | exact (ft_long hno (by omega) (by assumption) (by rw [htr]; omega)).2.symm | (rw [hvb]; first | exact (ft_yes hno (by omega) (by assumption) (by rw [htr]; omega)).2.symm | exact htr.symm.trans (ft_yes hno (by omega) (by assumption) (by rw [htr]; omega)).2.symm) | exact (ft_none hno (by omega)).2.symm | (exfalso; exact absurd (by assumption : xa4.getD ((foundL a0 xa3 xa2).getD k (0, 0, 0, 0)).1.toNat false = true) (by rw [(by assumption : xa4.getD ((foundL a0 xa3 xa2).getD k (0, 0, 0, 0)).1.toNat false = false)]; decide))
        try simp only [nq] at hc5
        refine CW.skipS ?_
        refine CW.reg ?_
        refine WL.mv rfl rfl ?_
        refine WL.mv rfl rfl ?_
        refine WL.op rfl (OpK.buildS VV (os := [.tmp 57]) [_] rfl T.sl83 rfl rfl T.zv22 rfl (by intro z hz; first | rfl | (simp only [List.mem_cons, List.not_mem_nil, or_false] at hz; subst hz; exact (by first | exact Rd.cells1 (by assumption) | exact Osl.cells1 (by assumption) | exact Osn.cells1 (by assumption) | exact Rd.cells1 (NL.rd (by assumption)) | exact Inn.cell1 (by assumption) (by omega) | assumption | rfl))) rfl (fun v11 g11 w11 hXw11 ho11 hge11 => ?_))
        have hl11 := Lo.new hB hge11
        have hd1_11 := Dj.new hb1.ltO hge11
        have hd3_11 := Dj.new ho3.ltO hge11
        have hd6_11 := DI.new hn6 hge11
        have hd5_11 := Dj.new ho5.ltO hge11
        have hd7_11 := Dj.new hb7.ltO hge11
        have hd8_11 := Dj.new ho8.ltO hge11
        have hd9_11 := Dj.new ho9.ltO hge11
        have hd10_11 := Dj.new ho10.ltO hge11
        have hk0_11 := OkN.new hU0 hge11
        have hg0_11 := OgR.new hU0.size hge11
        have hB := hB.trans hXw11
        have hb1 := hb1.up hXw11
        have ho3 := ho3.up hXw11
        have hn6 := hn6.up hXw11
        have ho5 := ho5.up hXw11
        have hb7 := hb7.up hXw11
        have ho8 := ho8.up hXw11
        have ho9 := ho9.up hXw11
        have ho10 := ho10.up hXw11
        have hU0 := hU0.ext hXw11
        refine WL.op rfl (OpK.appendS (f := VV) rfl T.sl83 T.zv22 rfl rfl ho5 rfl (Osl.srcM ho11 (one_mem (Osl.oneCell ho10))) (by first | (simp only [List.length_cons, List.length_nil]; omega) | (simp_all; omega)) (fun v12 og12 w12 hXw12 ho12 hap12 => ?_))
        have hn13 := Inn.put hn6 ho10 hd6_10
        have hl13 := LoI.put hl6 hl10
        have hz0_13 := BlR.put hz0_6 hg0_10
        have hd1_13 := DI.put hd1_6 (Dj.symm hd1_10)
        have hd3_13 := DI.put hd3_6 (Dj.symm hd3_10)
        have hd5_13 := DI.put hd5_6 (Dj.symm hd5_10)
        have hd7_13 := DI.put hd6_7 (Dj.symm hd7_10)
        have hd8_13 := DI.put hd6_8 (Dj.symm hd8_10)
        have hd9_13 := DI.put hd6_9 (Dj.symm hd9_10)
        have hd11_13 := DI.put hd6_11 hd10_11
        have hnp13 := hn13
        have hl12 := Lo.app hl5 hB hap12
        have hd1_12 := Dj.app hd1_5 hb1.ltO hap12
        have hd3_12 := Dj.app hd3_5 ho3.ltO hap12
        have hd7_12 := Dj.app (Dj.symm hd5_7) hb7.ltO hap12
        have hd8_12 := Dj.app (Dj.symm hd5_8) ho8.ltO hap12
        have hd9_12 := Dj.app (Dj.symm hd5_9) ho9.ltO hap12
        have hd11_12 := Dj.app (Dj.symm hd5_11) ho11.ltO hap12
        have hd12_13 := DI.app hd5_13 hn13 hap12
        have hk0_12 := OkN.app hU0 hk0_5 hap12
        have hg0_12 := OgR.app hg0_5 hU0.size hap12
        have hB := hB.updL hXw12 hl5
        have hb1 := hb1.updD hXw12 hd1_5
        have ho3 := ho3.updD hXw12 hd3_5
        have hb7 := hb7.updD hXw12 (Dj.symm hd5_7)
        have ho8 := ho8.updD hXw12 (Dj.symm hd5_8)
        have ho9 := ho9.updD hXw12 (Dj.symm hd5_9)
        have ho11 := ho11.updD hXw12 (Dj.symm hd5_11)
        have hn13 := hn13.updD hXw12 hd5_13
        have hU0 := hU0.step hXw12 hk0_5
        refine WL.asg rfl rfl ?_
        refine WL.nil ?_
        refine NQ.block ?_
        refine NQ.then ?_
        refine CW.reg ?_
        refine WL.pure rfl rfl rfl (PV.add rfl rfl (by constructor <;> omega)) ?_
        refine WL.mv rfl rfl ?_
        refine WL.nil ?_
        refine NQ.next (ρ := [(4, _), (15, _)]) ⟨rfl, rfl, rfl, rfl, rfl, trivial⟩ ?_
        exact ⟨_, ⟨v12, og12, _, (os5 ++ [og10]), k + 1, rfl, rfl, hU0, ho12, (by first | exact hg0_12 | exact OgR.weak hg0_12), innE hn13 (by rw [tr_put (by omega), htr]), (by first | exact hz0_13 | exact BlR.weak hz0_13), hd12_13, (by first | omega | assumption | (simp_all; done) | (simp_all; omega)), (by exact hno.succ (by assumption))⟩, by omega⟩
      try simp only [nq] at hc4
      refine WL.pureG rfl rfl rfl rfl rfl (PV.move rfl) ?_
      refine WL.pureG rfl rfl rfl rfl rfl ((PV.lenOs rfl ho10 T.sl22)) ?_
      refine WL.pureG rfl rfl rfl rfl rfl (PV.gtr rfl rfl) ?_
      refine WL.pure rfl rfl rfl (PV.pickT rfl rfl) ?_
      refine WL.nilS ?_
      refine CW.cond rfl (fun hc6 => ?_) (fun hc6 => ?_)
      · skip
        try simp only [nq] at hc6
        refine CW.seq ?_
        refine CW.reg ?_
        refine WL.asg rfl rfl ?_
        refine WL.asg rfl rfl ?_
        refine WL.nilS ?_
        refine CW.ret ?_
        refine RQ.then ?_
        refine RQ.block ?_
        refine RQ.then ?_
        refine RQ.then ?_
        refine RQ.block ?_
        refine RQ.then ?_
        refine RQ.r2 rfl rfl ?_
        refine ⟨hB, (.slice none 0 0), none, ?_, osE (Osl.nil _ _) ?_, Lo.nl _⟩
        · skip
          exact tE2 rfl (bE (by first | (rw [(Bool.eq_false_iff.2 (treesB_no (by assumption)))]; rfl) | exact (ft_long hno (by omega) (by assumption) (by rw [htr]; omega)).1.symm | (rw [hvb]; first | exact (ft_yes hno (by omega) (by assumption) (by rw [htr]; omega)).1.symm | exact htr.symm.trans (ft_yes hno (by omega) (by assumption) (by rw [htr]; omega)).1.symm) | exact (ft_none hno (by omega)).1.symm | (exfalso; exact absurd (by assumption : xa4.getD ((foundL a0 xa3 xa2).getD k (0, 0, 0, 0)).1.toNat false = true) (by rw [(by assumption : xa4.getD ((foundL a0 xa3 xa2).getD k (0, 0, 0, 0)).1.toNat false = false)]; decide))))
        · skip
          first | (rw [(Bool.eq_false_iff.2 (treesB_no (by assumption)))]; rfl) | exact (ft_long hno (by omega) (by assumption) (by rw [htr]; omega)).2.symm | (rw [hvb]; first | exact (ft_yes hno (by omega) (by assumption) (by rw [htr]; omega)).2.symm | exact htr.symm.trans (ft_yes hno (by omega) (by assumption) (by rw [htr]; omega)).2.symm) | exact (ft_none hno (by omega)).2.symm | (exfalso; exact absurd (by assumption : xa4.getD ((foundL a0 xa3 xa2).getD k (0, 0, 0, 0)).1.toNat false = true) (by rw [(by assumption : xa4.getD ((foundL a0 xa3 xa2).getD k (0, 0, 0, 0)).1.toNat false = false)]; decide))
      try simp only [nq] at hc6
      refine CW.skipS ?_
      refine CW.seq ?_
      refine CW.seq ?_
      refine CW.reg ?_
      refine WL.pure rfl rfl rfl (PV.fieldAddr T.fl36_4 rfl hb1.cells) ?_
      refine WL.pure rfl rfl rfl (PV.load1 T.na31 rfl hb1.cells (Ext.refl _) rfl) ?_
      refine WL.pure rfl rfl rfl (PV.fieldAddr T.fl91_0 rfl hb7.cells) ?_
      refine WL.pure rfl rfl rfl (PV.load1 T.na2 rfl hb7.cells (Ext.refl _) rfl) ?_
      first
        | refine WL.at (x := .tmp 50) (y := .tmp 52) (E := EB) (false) rfl rfl (by first | assumption | exact Inn.rd (by assumption) (by omega)) (by first | omega | (simp only [List.length_set]; omega) | (simp only [List.length_append, List.length_take, List.length_replicate, List.length_drop]; omega)) (fun p6 csp6 hpp6 hcp6 hq => ?_)
        | refine WL.atZ (x := .tmp 50) (y := .tmp 52) (E := EB) (false) rfl rfl (by first | assumption | exact Inn.rd (by assumption) (by omega)) (by first | omega | (simp only [List.length_set]; omega) | (simp only [List.length_append, List.length_take, List.length_replicate, List.length_drop]; omega)) (fun p6 csp6 hpp6 hzp6 hcp6 hq => ?_)
      cases hq
      refine WL.pure rfl rfl rfl ((by first | exact PV.indexAddr hpp6 rfl rfl T.sl31 | exact PV.indexAddr hpp6 rfl (by rw [← hzp6]; rfl) T.sl31)) ?_
      refine WL.pure rfl rfl rfl ((by first | exact PV.load0 T.na4 rfl (by first | exact Cells.up (by assumption) hB | exact Bx.cells (by assumption) | assumption) (Ext.refl _) rfl | exact PV.load1 T.na4 rfl (by first | exact Cells.up (by assumption) hB | exact Bx.cells (by assumption) | assumption) (Ext.refl _) rfl)) ?_
      refine WL.nilS ?_
      refine CW.cond rfl (fun hc7 => ?_) (fun hc7 => ?_)
      · skip
        try simp only [nq] at hc7
        refine CW.seq ?_
        refine CW.reg ?_
        refine WL.mv rfl rfl ?_
        refine WL.asg rfl rfl ?_
        refine WL.asg rfl rfl ?_
        refine WL.nilS ?_
        refine CW.ret ?_
        refine RQ.then ?_
        refine RQ.block ?_
        refine RQ.then ?_
        refine RQ.then ?_
        refine RQ.block ?_
        refine RQ.then ?_
        refine RQ.r2 rfl rfl ?_
        refine ⟨hB, rv2, og10, ?_, osE ho10 ?_, hl10⟩
        · skip
          exact tE2 rfl (bE (by first | (rw [(Bool.eq_false_iff.2 (treesB_no (by assumption)))]; rfl) | exact (ft_long hno (by omega) (by assumption) (by rw [htr]; omega)).1.symm | (rw [hvb]; first | exact (ft_yes hno (by omega) (by assumption) (by rw [htr]; omega)).1.symm | exact htr.symm.trans (ft_yes hno (by omega) (by assumption) (by rw [htr]; omega)).1.symm) | exact (ft_none hno (by omega)).1.symm | (exfalso; exact absurd (by assumption : xa4.getD ((foundL a0 xa3 xa2).getD k (0, 0, 0, 0)).1.toNat false = true) (by rw [(by assumption : xa4.getD ((foundL a0 xa3 xa2).getD k (0, 0, 0, 0)).1.toNat false = false)]; decide))))
        · skip
          first | (rw [(Bool.eq_false_iff.2 (treesB_no (by assumption)))]; rfl) | exact (ft_long hno (by omega) (by assumption) (by rw [htr]; omega)).2.symm | (rw [hvb]; first | exact (ft_yes hno (by omega) (by assumption) (by rw [htr]; omega)).2.symm | exact htr.symm.trans (ft_yes hno (by omega) (by assumption) (by rw [htr]; omega)).2.symm) | exact (ft_none hno (by omega)).2.symm | (exfalso; exact absurd (by assumption : xa4.getD ((foundL a0 xa3 xa2).getD k (0, 0, 0, 0)).1.toNat false = true) (by rw [(by assumption : xa4.getD ((foundL a0 xa3 xa2).getD k (0, 0, 0, 0)).1.toNat false = false)]; decide))
      try simp only [nq] at hc7
      refine CW.skipS ?_
      refine CW.reg ?_
      refine WL.mv rfl rfl ?_
      refine WL.mv rfl rfl ?_
      refine WL.op rfl (OpK.buildS VV (os := [.tmp 57]) [_] rfl T.sl83 rfl rfl T.zv22 rfl (by intro z hz; first | rfl | (simp only [List.mem_cons, List.not_mem_nil, or_false] at hz; subst hz; exact (by first | exact Rd.cells1 (by assumption) | exact Osl.cells1 (by assumption) | exact Osn.cells1 (by assumption) | exact Rd.cells1 (NL.rd (by assumption)) | exact Inn.cell1 (by assumption) (by omega) | assumption | rfl))) rfl (fun v14 g14 w13 hXw13 ho14 hge14 => ?_))
      have hl14 := Lo.new hB hge14
      have hd1_14 := Dj.new hb1.ltO hge14
      have hd3_14 := Dj.new ho3.ltO hge14
      have hd6_14 := DI.new hn6 hge14
      have hd5_14 := Dj.new ho5.ltO hge14
      have hd7_14 := Dj.new hb7.ltO hge14
      have hd8_14 := Dj.new ho8.ltO hge14
      have hd9_14 := Dj.new ho9.ltO hge14
      have hd10_14 := Dj.new ho10.ltO hge14
      have hk0_14 := OkN.new hU0 hge14
      have hg0_14 := OgR.new hU0.size hge14
      have hB := hB.trans hXw13
      have hb1 := hb1.up hXw13
      have ho3 := ho3.up hXw13
      have hn6 := hn6.up hXw13
      have ho5 := ho5.up hXw13
      have hb7 := hb7.up hXw13
      have ho8 := ho8.up hXw13
      have ho9 := ho9.up hXw13
      have ho10 := ho10.up hXw13
      have hU0 := hU0.ext hXw13
      refine WL.op rfl (OpK.appendS (f := VV) rfl T.sl83 T.zv22 rfl rfl ho5 rfl (Osl.srcM ho14 (one_mem (Osl.oneCell ho10))) (by first | (simp only [List.length_cons, List.length_nil]; omega) | (simp_all; omega)) (fun v15 og15 w14 hXw14 ho15 hap15 => ?_))
      have hn16 := Inn.put hn6 ho10 hd6_10
      have hl16 := LoI.put hl6 hl10
      have hz0_16 := BlR.put hz0_6 hg0_10
      have hd1_16 := DI.put hd1_6 (Dj.symm hd1_10)
      have hd3_16 := DI.put hd3_6 (Dj.symm hd3_10)
      have hd5_16 := DI.put hd5_6 (Dj.symm hd5_10)
      have hd7_16 := DI.put hd6_7 (Dj.symm hd7_10)
      have hd8_16 := DI.put hd6_8 (Dj.symm hd8_10)
      have hd9_16 := DI.put hd6_9 (Dj.symm hd9_10)
      have hd14_16 := DI.put hd6_14 hd10_14
      have hnp16 := hn16
      have hl15 := Lo.app hl5 hB hap15
      have hd1_15 := Dj.app hd1_5 hb1.ltO hap15
      have hd3_15 := Dj.app hd3_5 ho3.ltO hap15
      have hd7_15 := Dj.app (Dj.symm hd5_7) hb7.ltO hap15
      have hd8_15 := Dj.app (Dj.symm hd5_8) ho8.ltO hap15
      have hd9_15 := Dj.app (Dj.symm hd5_9) ho9.ltO hap15
      have hd14_15 := Dj.app (Dj.symm hd5_14) ho14.ltO hap15
      have hd15_16 := DI.app hd5_16 hn16 hap15
      have hk0_15 := OkN.app hU0 hk0_5 hap15
      have hg0_15 := OgR.app hg0_5 hU0.size hap15
      have hB := hB.updL hXw14 hl5
      have hb1 := hb1.updD hXw14 hd1_5
      have ho3 := ho3.updD hXw14 hd3_5
      have hb7 := hb7.updD hXw14 (Dj.symm hd5_7)
      have ho8 := ho8.updD hXw14 (Dj.symm hd5_8)
      have ho9 := ho9.updD hXw14 (Dj.symm hd5_9)
      have ho14 := ho14.updD hXw14 (Dj.symm hd5_14)
      have hn16 := hn16.updD hXw14 hd5_16
      have hU0 := hU0.step hXw14 hk0_5
      refine WL.asg rfl rfl ?_
      refine WL.nil ?_
      refine NQ.block ?_
      refine NQ.then ?_
      refine CW.reg ?_
      refine WL.pure rfl rfl rfl (PV.add rfl rfl (by constructor <;> omega)) ?_
      refine WL.mv rfl rfl ?_
      refine WL.nil ?_
      refine NQ.next (ρ := [(4, _), (15, _)]) ⟨rfl, rfl, rfl, rfl, rfl, trivial⟩ ?_
      exact ⟨_, ⟨v15, og15, _, (os5 ++ [og10]), k + 1, rfl, rfl, hU0, ho15, (by first | exact hg0_15 | exact OgR.weak hg0_15), innE hn16 (by rw [tr_put (by omega), htr]), (by first | exact hz0_16 | exact BlR.weak hz0_16), hd15_16, (by first | omega | assumption | (simp_all; done) | (simp_all; omega)), (by exact hno.succ (by assumption))⟩, by omega⟩
    try simp only [nq] at hc3
    have htr := tr_pos (l := foundL a0 xa3 xa2) (k := k) (by omega) (by omega)
    refine CW.skipS ?_
    refine CW.seq ?_
    refine CW.seq ?_
    refine CW.reg ?_
    refine WL.pure rfl rfl rfl (PV.fieldAddr T.fl36_4 rfl hb1.cells) ?_
    refine WL.pure rfl rfl rfl (PV.load1 T.na31 rfl hb1.cells (Ext.refl _) rfl) ?_
    refine WL.pure rfl rfl rfl (PV.fieldAddr T.fl91_0 rfl hb7.cells) ?_
    refine WL.pure rfl rfl rfl (PV.load1 T.na2 rfl hb7.cells (Ext.refl _) rfl) ?_
    first
      | refine WL.at (x := .tmp 39) (y := .tmp 41) (E := EB) (false) rfl rfl (by first | assumption | exact Inn.rd (by assumption) (by omega)) (by first | omega | (simp only [List.length_set]; omega) | (simp only [List.length_append, List.length_take, List.length_replicate, List.length_drop]; omega)) (fun p7 csp7 hpp7 hcp7 hq => ?_)
      | refine WL.atZ (x := .tmp 39) (y := .tmp 41) (E := EB) (false) rfl rfl (by first | assumption | exact Inn.rd (by assumption) (by omega)) (by first | omega | (simp only [List.length_set]; omega) | (simp only [List.length_append, List.length_take, List.length_replicate, List.length_drop]; omega)) (fun p7 csp7 hpp7 hzp7 hcp7 hq => ?_)
    cases hq
    refine WL.pure rfl rfl rfl ((by first | exact PV.indexAddr hpp7 rfl rfl T.sl31 | exact PV.indexAddr hpp7 rfl (by rw [← hzp7]; rfl) T.sl31)) ?_
    refine WL.pure rfl rfl rfl ((by first | exact PV.load0 T.na4 rfl (by first | exact Cells.up (by assumption) hB | exact Bx.cells (by assumption) | assumption) (Ext.refl _) rfl | exact PV.load1 T.na4 rfl (by first | exact Cells.up (by assumption) hB | exact Bx.cells (by assumption) | assumption) (Ext.refl _) rfl)) ?_
    refine WL.mv rfl rfl ?_
    refine WL.split (t := 44) rfl (fun hc8 => ?_) (fun hc8 => ?_)
    rotate_left
    · skip
      try simp only [nq] at hc8
      refine WL.skip rfl rfl rfl rfl rfl ?_
      refine WL.skip rfl rfl rfl rfl rfl ?_
      refine WL.skip rfl rfl rfl rfl rfl ?_
      refine WL.pure rfl rfl rfl (PV.pickF rfl rfl) ?_
      refine WL.nilS ?_
      refine CW.condF rfl ?_
      refine CW.skipS ?_
      refine CW.seq ?_
      refine CW.seq ?_
      refine CW.reg ?_
      refine WL.pure rfl rfl rfl (PV.fieldAddr T.fl36_4 rfl hb1.cells) ?_
      refine WL.pure rfl rfl rfl (PV.load1 T.na31 rfl hb1.cells (Ext.refl _) rfl) ?_
      refine WL.pure rfl rfl rfl (PV.fieldAddr T.fl91_0 rfl hb7.cells) ?_
      refine WL.pure rfl rfl rfl (PV.load1 T.na2 rfl hb7.cells (Ext.refl _) rfl) ?_
      first
        | refine WL.at (x := .tmp 50) (y := .tmp 52) (E := EB) (false) rfl rfl (by first | assumption | exact Inn.rd (by assumption) (by omega)) (by first | omega | (simp only [List.length_set]; omega) | (simp only [List.length_append, List.length_take, List.length_replicate, List.length_drop]; omega)) (fun p8 csp8 hpp8 hcp8 hq => ?_)
        | refine WL.atZ (x := .tmp 50) (y := .tmp 52) (E := EB) (false) rfl rfl (by first | assumption | exact Inn.rd (by assumption) (by omega)) (by first | omega | (simp only [List.length_set]; omega) | (simp only [List.length_append, List.length_take, List.length_replicate, List.length_drop]; omega)) (fun p8 csp8 hpp8 hzp8 hcp8 hq => ?_)
      cases hq
      refine WL.pure rfl rfl rfl ((by first | exact PV.indexAddr hpp8 rfl rfl T.sl31 | exact PV.indexAddr hpp8 rfl (by rw [← hzp8]; rfl) T.sl31)) ?_
      refine WL.pure rfl rfl rfl ((by first | exact PV.load0 T.na4 rfl (by first | exact Cells.up (by assumption) hB | exact Bx.cells (by assumption) | assumption) (Ext.refl _) rfl | exact PV.load1 T.na4 rfl (by first | exact Cells.up (by assumption) hB | exact Bx.cells (by assumption) | assumption) (Ext.refl _) rfl)) ?_
      refine WL.nilS ?_
      refine CW.cond rfl (fun hc9 => ?_) (fun hc9 => ?_)
      · skip
        try simp only [nq] at hc9
        refine CW.seq ?_
        refine CW.reg ?_
        refine WL.mv rfl rfl ?_
        refine WL.asg rfl rfl ?_
        refine WL.asg rfl rfl ?_
        refine WL.nilS ?_
        refine CW.ret ?_
        refine RQ.then ?_
        refine RQ.block ?_
        refine RQ.then ?_
        refine RQ.then ?_
        refine RQ.block ?_
        refine RQ.then ?_
        refine RQ.r2 rfl rfl ?_
        refine ⟨hB, v8, (some g8), ?_, osE ho8 ?_, hl8⟩
        · skip
          exact tE2 rfl (bE (by first | (rw [(Bool.eq_false_iff.2 (treesB_no (by assumption)))]; rfl) | exact (ft_long hno (by omega) (by assumption) (by rw [htr]; omega)).1.symm | (rw [hvb]; first | exact (ft_yes hno (by omega) (by assumption) (by rw [htr]; omega)).1.symm | exact htr.symm.trans (ft_yes hno (by omega) (by assumption) (by rw [htr]; omega)).1.symm) | exact (ft_none hno (by omega)).1.symm | (exfalso; exact absurd (by assumption : xa4.getD ((foundL a0 xa3 xa2).getD k (0, 0, 0, 0)).1.toNat false = true) (by rw [(by assumption : xa4.getD ((foundL a0 xa3 xa2).getD k (0, 0, 0, 0)).1.toNat false = false)]; decide))))
        · skip
          first | (rw [(Bool.eq_false_iff.2 (treesB_no (by assumption)))]; rfl) | exact (ft_long hno (by omega) (by assumption) (by rw [htr]; omega)).2.symm | (rw [hvb]; first | exact (ft_yes hno (by omega) (by assumption) (by rw [htr]; omega)).2.symm | exact htr.symm.trans (ft_yes hno (by omega) (by assumption) (by rw [htr]; omega)).2.symm) | exact (ft_none hno (by omega)).2.symm | (exfalso; exact absurd (by assumption : xa4.getD ((foundL a0 xa3 xa2).getD k (0, 0, 0, 0)).1.toNat false = true) (by rw [(by assumption : xa4.getD ((foundL a0 xa3 xa2).getD k (0, 0, 0, 0)).1.toNat false = false)]; decide))
      try simp only [nq] at hc9
      refine CW.skipS ?_
      refine CW.reg ?_
      refine WL.mv rfl rfl ?_
      refine WL.mv rfl rfl ?_
      refine WL.op rfl (OpK.buildS VV (os := [.tmp 57]) [_] rfl T.sl83 rfl rfl T.zv22 rfl (by intro z hz; first | rfl | (simp only [List.mem_cons, List.not_mem_nil, or_false] at hz; subst hz; exact (by first | exact Rd.cells1 (by assumption) | exact Osl.cells1 (by assumption) | exact Osn.cells1 (by assumption) | exact Rd.cells1 (NL.rd (by assumption)) | exact Inn.cell1 (by assumption) (by omega) | assumption | rfl))) rfl (fun v17 g17 w15 hXw15 ho17 hge17 => ?_))
      have hl17 := Lo.new hB hge17
      have hd1_17 := Dj.new hb1.ltO hge17
      have hd3_17 := Dj.new ho3.ltO hge17
      have hd6_17 := DI.new hn6 hge17
      have hd5_17 := Dj.new ho5.ltO hge17
      have hd7_17 := Dj.new hb7.ltO hge17
      have hd8_17 := Dj.new ho8.ltO hge17
      have hk0_17 := OkN.new hU0 hge17
      have hg0_17 := OgR.new hU0.size hge17
      have hB := hB.trans hXw15
      have hb1 := hb1.up hXw15
      have ho3 := ho3.up hXw15
      have hn6 := hn6.up hXw15
      have ho5 := ho5.up hXw15
      have hb7 := hb7.up hXw15
      have ho8 := ho8.up hXw15
      have hU0 := hU0.ext hXw15
      refine WL.op rfl (OpK.appendS (f := VV) rfl T.sl83 T.zv22 rfl rfl ho5 rfl (Osl.srcM ho17 (one_mem (Osl.oneCell ho8))) (by first | (simp only [List.length_cons, List.length_nil]; omega) | (simp_all; omega)) (fun v18 og18 w16 hXw16 ho18 hap18 => ?_))
      have hn19 := Inn.put hn6 ho8 hd6_8
      have hl19 := LoI.put hl6 hl8
      have hz0_19 := BlR.put hz0_6 hg0_8
      have hd1_19 := DI.put hd1_6 (Dj.symm hd1_8)
      have hd3_19 := DI.put hd3_6 (Dj.symm hd3_8)
      have hd5_19 := DI.put hd5_6 (Dj.symm hd5_8)
      have hd7_19 := DI.put hd6_7 (Dj.symm hd7_8)
      have hd17_19 := DI.put hd6_17 hd8_17
      have hnp19 := hn19
      have hl18 := Lo.app hl5 hB hap18
      have hd1_18 := Dj.app hd1_5 hb1.ltO hap18
      have hd3_18 := Dj.app hd3_5 ho3.ltO hap18
      have hd7_18 := Dj.app (Dj.symm hd5_7) hb7.ltO hap18
      have hd17_18 := Dj.app (Dj.symm hd5_17) ho17.ltO hap18
      have hd18_19 := DI.app hd5_19 hn19 hap18
      have hk0_18 := OkN.app hU0 hk0_5 hap18
      have hg0_18 := OgR.app hg0_5 hU0.size hap18
      have hB := hB.updL hXw16 hl5
      have hb1 := hb1.updD hXw16 hd1_5
      have ho3 := ho3.updD hXw16 hd3_5
      have hb7 := hb7.updD hXw16 (Dj.symm hd5_7)
      have ho17 := ho17.updD hXw16 (Dj.symm hd5_17)
      have hn19 := hn19.updD hXw16 hd5_19
      have hU0 := hU0.step hXw16 hk0_5
      refine WL.asg rfl rfl ?_
      refine WL.nil ?_
      refine NQ.block ?_
      refine NQ.then ?_
      refine CW.reg ?_
      refine WL.pure rfl rfl rfl (PV.add rfl rfl (by constructor <;> omega)) ?_
      refine WL.mv rfl rfl ?_
      refine WL.nil ?_
      refine NQ.next (ρ := [(4, _), (15, _)]) ⟨rfl, rfl, rfl, rfl, rfl, trivial⟩ ?_
      exact ⟨_, ⟨v18, og18, _, (os5 ++ [(some g8)]), k + 1, rfl, rfl, hU0, ho18, (by first | exact hg0_18 | exact OgR.weak hg0_18), innE hn19 (by rw [tr_put (by omega), htr]), (by first | exact hz0_19 | exact BlR.weak hz0_19), hd18_19, (by first | omega | assumption | (simp_all; done) | (simp_all; omega)), (by exact hno.succ (by assumption))⟩, by omega⟩
    try simp only [nq] at hc8
    refine WL.pureG rfl rfl rfl rfl rfl (PV.move rfl) ?_
    refine WL.pureG rfl rfl rfl rfl rfl ((PV.lenOs rfl ho8 T.sl22)) ?_
    refine WL.pureG rfl rfl rfl rfl rfl (PV.gtr rfl rfl) ?_
    refine WL.pure rfl rfl rfl (PV.pickT rfl rfl) ?_
    refine WL.nilS ?_
    refine CW.cond rfl (fun hc10 => ?_) (fun hc10 => ?_)
    · skip
      try simp only [nq] at hc10
      refine CW.seq ?_
      refine CW.reg ?_
      refine WL.asg rfl rfl ?_
      refine WL.asg rfl rfl ?_
      refine WL.nilS ?_
      refine CW.ret ?_
      refine RQ.then ?_
      refine RQ.block ?_
      refine RQ.then ?_
      refine RQ.then ?_
      refine RQ.block ?_
      refine RQ.then ?_
      refine RQ.r2 rfl rfl ?_
      refine ⟨hB, (.slice none 0 0), none, ?_, osE (Osl.nil _ _) ?_, Lo.nl _⟩
      · skip
        exact tE2 rfl (bE (by first | (rw [(Bool.eq_false_iff.2 (treesB_no (by assumption)))]; rfl) | exact (ft_long hno (by omega) (by assumption) (by rw [htr]; omega)).1.symm | (rw [hvb]; first | exact (ft_yes hno (by omega) (by assumption) (by rw [htr]; omega)).1.symm | exact htr.symm.trans (ft_yes hno (by omega) (by assumption) (by rw [htr]; omega)).1.symm) | exact (ft_none hno (by omega)).1.symm | (exfalso; exact absurd (by assumption : xa4.getD ((foundL a0 xa3 xa2).getD k (0, 0, 0, 0)).1.toNat false = true) (by rw [(by assumption : xa4.getD ((foundL a0 xa3 xa2).getD k (0, 0, 0, 0)).1.toNat false = false)]; decide))))
      · skip
        first | (rw [(Bool.eq_false_iff.2 (treesB_no (by assumption)))]; rfl) | exact (ft_long hno (by omega) (by assumption) (by rw [htr]; omega)).2.symm | (rw [hvb]; first | exact (ft_yes hno (by omega) (by assumption) (by rw [htr]; omega)).2.symm | exact htr.symm.trans (ft_yes hno (by omega) (by assumption) (by rw [htr]; omega)).2.symm) | exact (ft_none hno (by omega)).2.symm | (exfalso; exact absurd (by assumption : xa4.getD ((foundL a0 xa3 xa2).getD k (0, 0, 0, 0)).1.toNat false = true) (by rw [(by assumption : xa4.getD ((foundL a0 xa3 xa2).getD k (0, 0, 0, 0)).1.toNat false = false)]; decide))
    try simp only [nq] at hc10
    refine CW.skipS ?_
    refine CW.seq ?_
    refine CW.seq ?_
    refine CW.reg ?_
    refine WL.pure rfl rfl rfl (PV.fieldAddr T.fl36_4 rfl hb1.cells) ?_
    refine WL.pure rfl rfl rfl (PV.load1 T.na31 rfl hb1.cells (Ext.refl _) rfl) ?_
    refine WL.pure rfl rfl rfl (PV.fieldAddr T.fl91_0 rfl hb7.cells) ?_
    refine WL.pure rfl rfl rfl (PV.load1 T.na2 rfl hb7.cells (Ext.refl _) rfl) ?_
    first
      | refine WL.at (x := .tmp 50) (y := .tmp 52) (E := EB) (false) rfl rfl (by first | assumption | exact Inn.rd (by assumption) (by omega)) (by first | omega | (simp only [List.length_set]; omega) | (simp only [List.length_append, List.length_take, List.length_replicate, List.length_drop]; omega)) (fun p9 csp9 hpp9 hcp9 hq => ?_)
      | refine WL.atZ (x := .tmp 50) (y := .tmp 52) (E := EB) (false) rfl rfl (by first | assumption | exact Inn.rd (by assumption) (by omega)) (by first | omega | (simp only [List.length_set]; omega) | (simp only [List.length_append, List.length_take, List.length_replicate, List.length_drop]; omega)) (fun p9 csp9 hpp9 hzp9 hcp9 hq => ?_)
    cases hq
    refine WL.pure rfl rfl rfl ((by first | exact PV.indexAddr hpp9 rfl rfl T.sl31 | exact PV.indexAddr hpp9 rfl (by rw [← hzp9]; rfl) T.sl31)) ?_
    refine WL.pure rfl rfl rfl ((by first | exact PV.load0 T.na4 rfl (by first | exact Cells.up (by assumption) hB | exact Bx.cells (by assumption) | assumption) (Ext.refl _) rfl | exact PV.load1 T.na4 rfl (by first | exact Cells.up (by assumption) hB | exact Bx.cells (by assumption) | assumption) (Ext.refl _) rfl)) ?_
    refine WL.nilS ?_
    refine CW.cond rfl (fun hc11 => ?_) (fun hc11 => ?_)
    · skip
      try simp only [nq] at hc11
      refine CW.seq ?_
      refine CW.reg ?_
      refine WL.mv rfl rfl ?_
      refine WL.asg rfl rfl ?_
      refine WL.asg rfl rfl ?_
      refine WL.nilS ?_
      refine CW.ret ?_
      refine RQ.then ?_
      refine RQ.block ?_
      refine RQ.then ?_
      refine RQ.then ?_
      refine RQ.block ?_
      refine RQ.then ?_
      refine RQ.r2 rfl rfl ?_
      refine ⟨hB, v8, (some g8), ?_, osE ho8 ?_, hl8⟩
      · skip
        exact tE2 rfl (bE (by first | (rw [(Bool.eq_false_iff.2 (treesB_no (by assumption)))]; rfl) | exact (ft_long hno (by omega) (by assumption) (by rw [htr]; omega)).1.symm | (rw [hvb]; first | exact (ft_yes hno (by omega) (by assumption) (by rw [htr]; omega)).1.symm | exact htr.symm.trans (ft_yes hno (by omega) (by assumption) (by rw [htr]; omega)).1.symm) | exact (ft_none hno (by omega)).1.symm | (exfalso; exact absurd (by assumption : xa4.getD ((foundL a0 xa3 xa2).getD k (0, 0, 0, 0)).1.toNat false = true) (by rw [(by assumption : xa4.getD ((foundL a0 xa3 xa2).getD k (0, 0, 0, 0)).1.toNat false = false)]; decide))))
      · skip
        first | (rw [(Bool.eq_false_iff.2 (treesB_no (by assumption)))]; rfl) | exact (ft_long hno (by omega) (by assumption) (by rw [htr]; omega)).2.symm | (rw [hvb]; first | exact (ft_yes hno (by omega) (by assumption) (by rw [htr]; omega)).2.symm | exact htr.symm.trans (ft_yes hno (by omega) (by assumption) (by rw [htr]; omega)).2.symm) | exact (ft_none hno (by omega)).2.symm | (exfalso; exact absurd (by assumption : xa4.getD ((foundL a0 xa3 xa2).getD k (0, 0, 0, 0)).1.toNat false = true) (by rw [(by assumption : xa4.getD ((foundL a0 xa3 xa2).getD k (0, 0, 0, 0)).1.toNat false = false)]; decide))
    try simp only [nq] at hc11
    refine CW.skipS ?_
    refine CW.reg ?_
    refine WL.mv rfl rfl ?_
    refine WL.mv rfl rfl ?_
    refine WL.op rfl (OpK.buildS VV (os := [.tmp 57]) [_] rfl T.sl83 rfl rfl T.zv22 rfl (by intro z hz; first | rfl | (simp only [List.mem_cons, List.not_mem_nil, or_false] at hz; subst hz; exact (by first | exact Rd.cells1 (by assumption) | exact Osl.cells1 (by assumption) | exact Osn.cells1 (by assumption) | exact Rd.cells1 (NL.rd (by assumption)) | exact Inn.cell1 (by assumption) (by omega) | assumption | rfl))) rfl (fun v20 g20 w17 hXw17 ho20 hge20 => ?_))
    have hl20 := Lo.new hB hge20
    have hd1_20 := Dj.new hb1.ltO hge20
    have hd3_20 := Dj.new ho3.ltO hge20
    have hd6_20 := DI.new hn6 hge20
    have hd5_20 := Dj.new ho5.ltO hge20
    have hd7_20 := Dj.new hb7.ltO hge20
    have hd8_20 := Dj.new ho8.ltO hge20
    have hk0_20 := OkN.new hU0 hge20
    have hg0_20 := OgR.new hU0.size hge20
    have hB := hB.trans hXw17
    have hb1 := hb1.up hXw17
    have ho3 := ho3.up hXw17
    have hn6 := hn6.up hXw17
    have ho5 := ho5.up hXw17
    have hb7 := hb7.up hXw17
    have ho8 := ho8.up hXw17
    have hU0 := hU0.ext hXw17
    refine WL.op rfl (OpK.appendS (f := VV) rfl T.sl83 T.zv22 rfl rfl ho5 rfl (Osl.srcM ho20 (one_mem (Osl.oneCell ho8))) (by first | (simp only [List.length_cons, List.length_nil]; omega) | (simp_all; omega)) (fun v21 og21 w18 hXw18 ho21 hap21 => ?_))
    have hn22 := Inn.put hn6 ho8 hd6_8
    have hl22 := LoI.put hl6 hl8
    have hz0_22 := BlR.put hz0_6 hg0_8
    have hd1_22 := DI.put hd1_6 (Dj.symm hd1_8)
    have hd3_22 := DI.put hd3_6 (Dj.symm hd3_8)
    have hd5_22 := DI.put hd5_6 (Dj.symm hd5_8)
    have hd7_22 := DI.put hd6_7 (Dj.symm hd7_8)
    have hd20_22 := DI.put hd6_20 hd8_20
    have hnp22 := hn22
    have hl21 := Lo.app hl5 hB hap21
    have hd1_21 := Dj.app hd1_5 hb1.ltO hap21
    have hd3_21 := Dj.app hd3_5 ho3.ltO hap21
    have hd7_21 := Dj.app (Dj.symm hd5_7) hb7.ltO hap21
    have hd20_21 := Dj.app (Dj.symm hd5_20) ho20.ltO hap21
    have hd21_22 := DI.app hd5_22 hn22 hap21
    have hk0_21 := OkN.app hU0 hk0_5 hap21
    have hg0_21 := OgR.app hg0_5 hU0.size hap21
    have hB := hB.updL hXw18 hl5
    have hb1 := hb1.updD hXw18 hd1_5
    have ho3 := ho3.updD hXw18 hd3_5
    have hb7 := hb7.updD hXw18 (Dj.symm hd5_7)
    have ho20 := ho20.updD hXw18 (Dj.symm hd5_20)
    have hn22 := hn22.updD hXw18 hd5_22
    have hU0 := hU0.step hXw18 hk0_5
    refine WL.asg rfl rfl ?_
    refine WL.nil ?_
    refine NQ.block ?_
    refine NQ.then ?_
    refine CW.reg ?_
    refine WL.pure rfl rfl rfl (PV.add rfl rfl (by constructor <;> omega)) ?_
    refine WL.mv rfl rfl ?_
    refine WL.nil ?_
    refine NQ.next (ρ := [(4, _), (15, _)]) ⟨rfl, rfl, rfl, rfl, rfl, trivial⟩ ?_
    exact ⟨_, ⟨v21, og21, _, (os5 ++ [(some g8)]), k + 1, rfl, rfl, hU0, ho21, (by first | exact hg0_21 | exact OgR.weak hg0_21), innE hn22 (by rw [tr_put (by omega), htr]), (by first | exact hz0_22 | exact BlR.weak hz0_22), hd21_22, (by first | omega | assumption | (simp_all; done) | (simp_all; omega)), (by exact hno.succ (by assumption))⟩, by omega⟩
  try simp only [nq] at hc2
  refine CW.exit ?_
  refine XQ.then ?_
  refine XQ.then ?_
  refine XQ.here ?_
  refine NQ.then ?_
  refine CW.seq ?_
  refine CW.reg ?_
  refine WL.asg rfl rfl ?_
  refine WL.asg rfl rfl ?_
  refine WL.nilS ?_
  refine CW.ret ?_
  refine RQ.r2 rfl rfl ?_
  refine ⟨hB, (.slice none 0 0), none, ?_, osE (Osl.nil _ _) ?_, Lo.nl _⟩
  · skip
    exact tE2 rfl (bE (by first | (rw [(Bool.eq_false_iff.2 (treesB_no (by assumption)))]; rfl) | exact (ft_long hno (by omega) (by assumption) (by rw [htr]; omega)).1.symm | (rw [hvb]; first | exact (ft_yes hno (by omega) (by assumption) (by rw [htr]; omega)).1.symm | exact htr.symm.trans (ft_yes hno (by omega) (by assumption) (by rw [htr]; omega)).1.symm) | exact (ft_none hno (by omega)).1.symm | (exfalso; exact absurd (by assumption : xa4.getD ((foundL a0 xa3 xa2).getD k (0, 0, 0, 0)).1.toNat false = true) (by rw [(by assumption : xa4.getD ((foundL a0 xa3 xa2).getD k (0, 0, 0, 0)).1.toNat false = false)]; decide))))
  · skip
    first | (rw [(Bool.eq_false_iff.2 (treesB_no (by assumption)))]; rfl) | exact (ft_long hno (by omega) (by assumption) (by rw [htr]; omega)).2.symm | (rw [hvb]; first | exact (ft_yes hno (by omega) (by assumption) (by rw [htr]; omega)).2.symm | exact htr.symm.trans (ft_yes hno (by omega) (by assumption) (by rw [htr]; omega)).2.symm) | exact (ft_none hno (by omega)).2.symm | (exfalso; exact absurd (by assumption : xa4.getD ((foundL a0 xa3 xa2).getD k (0, 0, 0, 0)).1.toNat false = true) (by rw [(by assumption : xa4.getD ((foundL a0 xa3 xa2).getD k (0, 0, 0, 0)).1.toNat false = false)]; decide))
theorem c_laws_eqInt64S {w : World} {va vb : Value} {xs ys : List Int} (ha : Rd EI w va xs) (hb : Rd EI w vb ys) : Calls Try.prog 18 #[va, vb] w (Ret1 (RQt (.bool (decide (xs = ys))) w)) := by
  have hB : Ext w w := Ext.refl w
  have hla := ha.leI; have hlb := hb.leI
  refine callsOf (vs := [_, _]) Try.func18 rfl Try.ntmps18 rfl rfl ?_
  refine CW.seq ?_
  refine CW.reg ?_
  refine WL.asg rfl rfl ?_
  refine WL.nilS ?_
  refine CW.seq ?_
  refine CW.seq ?_
  refine CW.reg ?_
  refine WL.mv rfl rfl ?_
  refine WL.pure rfl rfl rfl ((by first | exact PV.len rfl (by assumption) T.sl22 | exact PV.lenOs rfl (by assumption) T.sl22 | exact PV.len rfl (NL.rd (by assumption)) T.sl22 | exact PV.len rfl (Inn.rd (by assumption) (by omega)) T.sl22)) ?_
  refine WL.mv rfl rfl ?_
  refine WL.pure rfl rfl rfl ((by first | exact PV.len rfl (by assumption) T.sl22 | exact PV.lenOs rfl (by assumption) T.sl22 | exact PV.len rfl (NL.rd (by assumption)) T.sl22 | exact PV.len rfl (Inn.rd (by assumption) (by omega)) T.sl22)) ?_
  refine WL.pure rfl rfl rfl (PV.neq rfl rfl) ?_
  refine WL.nilS ?_
  refine CW.cond rfl (fun hc1 => ?_) (fun hc1 => ?_)
  · skip
    try simp only [nq] at hc1
    refine CW.seq ?_
    refine CW.reg ?_
    refine WL.asg rfl rfl ?_
    refine WL.nilS ?_
    refine CW.ret ?_
    refine RQ.then ?_
    refine RQ.r1 rfl ?_
    refine ⟨?_, hB⟩
    first | exact bT (eq_of_takes (by omega) (by omega) he) | exact bF (by rintro rfl; simp_all)
  try simp only [nq] at hc1
  refine CW.skipS ?_
  refine CW.seq ?_
  refine CW.seq ?_
  refine CW.reg ?_
  refine WL.asg rfl rfl ?_
  refine WL.nilS ?_
  refine CW.block ?_
  refine CW.loop (σk := [(0, _), (1, _)]) (fun ρ wz m => ∃ (k : Nat), ρ = [(5, .int .i64 (k : Nat))] ∧ m = xs.length - k ∧ UpdL [] w wz ∧ (k ≤ xs.length) ∧ (xs.take k = ys.take k)) (ρ₀ := [(5, _)]) (m₀ := _) ⟨rfl, rfl, rfl, trivial⟩ ⟨0, rfl, rfl, (UpdL.refl _ _), (by first | omega | rfl | (simp; done) | assumption | (simp_all; done)), (by first | omega | rfl | (simp; done) | assumption | (simp_all; done))⟩ ?_
  rintro _ wl1 _ ⟨k, rfl, rfl, hU0, hk, he⟩
  have hB := hB.loop hU0 trivial
  refine CW.seq ?_
  refine CW.seq ?_
  refine CW.reg ?_
  refine WL.mv rfl rfl ?_
  refine WL.mv rfl rfl ?_
  refine WL.pure rfl rfl rfl ((by first | exact PV.len rfl (by assumption) T.sl22 | exact PV.lenOs rfl (by assumption) T.sl22 | exact PV.len rfl (NL.rd (by assumption)) T.sl22 | exact PV.len rfl (Inn.rd (by assumption) (by omega)) T.sl22)) ?_
  refine WL.pure rfl rfl rfl (PV.lss rfl rfl) ?_
  refine WL.nilS ?_
  refine CW.cond rfl (fun hc2 => ?_) (fun hc2 => ?_)
  · skip
    try simp only [nq] at hc2
    refine CW.skipS ?_
    refine CW.seq ?_
    refine CW.block ?_
    refine CW.seq ?_
    refine CW.draw T.mixed (by kernel_rfl) (fun _ _ _ _ _ h => h) (fun w8 w9 => Upd none w8 w9) 9 (.take 0 (.take 1 (.take 2 (.take 3 (.take 4 (.take 5 (.take 6 (.take 7 (.take 8 .done))))))))) (by kernel_rfl) (fun w1 hXd => ?_)
    have hB := hB.trans hXd
    have hU0 := hU0.ext hXd
    have hBr := hB
    have hS : Upd none w1 w1 := Ext.toUpd (Ext.refl _)
    refine HP.take rfl rfl rfl rfl hS (fun wS hS1 => PV.move rfl) ?_
    refine HP.take rfl rfl rfl rfl hS (fun wS hS1 => PV.move rfl) ?_
    first
      | refine HP.at (x := .tmp 17) (y := .tmp 18) (E := EI) (0) rfl rfl (by first | assumption | exact Inn.rd (by assumption) (by omega)) (by first | omega | (simp only [List.length_set]; omega) | (simp only [List.length_append, List.length_take, List.length_replicate, List.length_drop]; omega)) (fun p1 csp1 hpp1 hcp1 hq => ?_)
      | refine HP.atZ (x := .tmp 17) (y := .tmp 18) (E := EI) (0) rfl rfl (by first | assumption | exact Inn.rd (by assumption) (by omega)) (by first | omega | (simp only [List.length_set]; omega) | (simp only [List.length_append, List.length_take, List.length_replicate, List.length_drop]; omega)) (fun p1 csp1 hpp1 hzp1 hcp1 hq => ?_)
    cases hq
    refine HP.take rfl rfl rfl rfl hS (fun wS hS1 => (by first | exact PV.indexAddr hpp1 rfl rfl T.sl22 | exact PV.indexAddr hpp1 rfl (by rw [← hzp1]; rfl) T.sl22)) ?_
    refine HP.take rfl rfl rfl rfl hS (fun wS hS1 => (by first | exact PV.load0 T.na2 rfl (by first | exact Cells.up (by assumption) (hBr.trans hS1) | exact Bx.cells (Bx.updD (by assumption) hS1 (Dj.nlR _)) | exact Cells.upd (by assumption) hS1 (by simp)) (Ext.refl _) rfl | exact PV.load1 T.na2 rfl (by first | exact Cells.up (by assumption) (hBr.trans hS1) | exact Bx.cells (Bx.updD (by assumption) hS1 (Dj.nlR _)) | exact Cells.upd (by assumption) hS1 (by simp)) (Ext.refl _) rfl)) ?_
    refine HP.take rfl rfl rfl rfl hS (fun wS hS1 => PV.move rfl) ?_
    refine HP.take rfl rfl rfl rfl hS (fun wS hS1 => PV.move rfl) ?_
    first
      | refine HP.at (x := .tmp 21) (y := .tmp 22) (E := EI) (0) rfl rfl (by first | assumption | exact Inn.rd (by assumption) (by omega)) (by first | omega | (simp only [List.length_set]; omega) | (simp only [List.length_append, List.length_take, List.length_replicate, List.length_drop]; omega)) (fun p2 csp2 hpp2 hcp2 hq => ?_)
      | refine HP.atZ (x := .tmp 21) (y := .tmp 22) (E := EI) (0) rfl rfl (by first | assumption | exact Inn.rd (by assumption) (by omega)) (by first | omega | (simp only [List.length_set]; omega) | (simp only [List.length_append, List.length_take, List.length_replicate, List.length_drop]; omega)) (fun p2 csp2 hpp2 hzp2 hcp2 hq => ?_)
    cases hq
    refine HP.take rfl rfl rfl rfl hS (fun wS hS1 => (by first | exact PV.indexAddr hpp2 rfl rfl T.sl22 | exact PV.indexAddr hpp2 rfl (by rw [← hzp2]; rfl) T.sl22)) ?_
    refine HP.take rfl rfl rfl rfl hS (fun wS hS1 => (by first | exact PV.load0 T.na2 rfl (by first | exact Cells.up (by assumption) (hBr.trans hS1) | exact Bx.cells (Bx.updD (by assumption) hS1 (Dj.nlR _)) | exact Cells.upd (by assumption) hS1 (by simp)) (Ext.refl _) rfl | exact PV.load1 T.na2 rfl (by first | exact Cells.up (by assumption) (hBr.trans hS1) | exact Bx.cells (Bx.updD (by assumption) hS1 (Dj.nlR _)) | exact Cells.upd (by assumption) hS1 (by simp)) (Ext.refl _) rfl)) ?_
    refine HP.take rfl rfl rfl rfl hS (fun wS hS1 => PV.neq rfl rfl) ?_
    refine HP.doneS ?_
    refine CW.cond rfl (fun hc3 => ?_) (fun hc3 => ?_)
    · skip
      try simp only [nq] at hc3
      refine CW.seq ?_
      refine CW.reg ?_
      refine WL.asg rfl rfl ?_
      refine WL.nilS ?_
      refine CW.ret ?_
      refine RQ.block ?_
      refine RQ.then ?_
      refine RQ.then ?_
      refine RQ.block ?_
      refine RQ.then ?_
      refine RQ.r1 rfl ?_
      refine ⟨?_, hB⟩
      first | exact bT (eq_of_takes (by omega) (by omega) he) | exact bF (by rintro rfl; simp_all)
    try simp only [nq] at hc3
    refine CW.skip ?_
    refine NQ.block ?_
    refine NQ.then ?_
    refine CW.reg ?_
    refine WL.mv rfl rfl ?_
    refine WL.pure rfl rfl rfl (PV.add rfl rfl (by constructor <;> omega)) ?_
    refine WL.asg rfl rfl ?_
    refine WL.nil ?_
    refine NQ.next (ρ := [(5, _)]) ⟨rfl, rfl, rfl, trivial⟩ ?_
    exact ⟨_, ⟨k + 1, rfl, rfl, hU0, (by first | omega | assumption | (simp_all; done) | (simp_all; omega)), (by exact take_eq_succ (by omega) (by omega) he (by assumption))⟩, by omega⟩
  try simp only [nq] at hc2
  refine CW.exit ?_
  refine XQ.then ?_
  refine XQ.then ?_
  refine XQ.here ?_
  refine NQ.then ?_
  refine CW.seq ?_
  refine CW.reg ?_
  refine WL.asg rfl rfl ?_
  refine WL.nilS ?_
  refine CW.ret ?_
  refine RQ.r1 rfl ?_
  refine ⟨?_, hB⟩
  first | exact bT (eq_of_takes (by omega) (by omega) he) | exact bF (by rintro rfl; simp_all)
theorem c_laws_eqBoolS {w : World} {va vb : Value} {xs ys : List Bool} (ha : Rd EB w va xs) (hb : Rd EB w vb ys) : Calls Try.prog 71 #[va, vb] w (Ret1 (RQt (.bool (decide (xs = ys))) w)) := by
  have hB : Ext w w := Ext.refl w
  have hla := ha.leI; have hlb := hb.leI
  refine callsOf (vs := [_, _]) Try.func71 rfl Try.ntmps71 rfl rfl ?_
  refine CW.seq ?_
  refine CW.reg ?_
  refine WL.asg rfl rfl ?_
  refine WL.nilS ?_
  refine CW.seq ?_
  refine CW.seq ?_
  refine CW.reg ?_
  refine WL.mv rfl rfl ?_
  refine WL.pure rfl rfl rfl ((by first | exact PV.len rfl (by assumption) T.sl31 | exact PV.lenOs rfl (by assumption) T.sl31 | exact PV.len rfl (NL.rd (by assumption)) T.sl31 | exact PV.len rfl (Inn.rd (by assumption) (by omega)) T.sl31)) ?_
  refine WL.mv rfl rfl ?_
  refine WL.pure rfl rfl rfl ((by first | exact PV.len rfl (by assumption) T.sl31 | exact PV.lenOs rfl (by assumption) T.sl31 | exact PV.len rfl (NL.rd (by assumption)) T.sl31 | exact PV.len rfl (Inn.rd (by assumption) (by omega)) T.sl31)) ?_
  refine WL.pure rfl rfl rfl (PV.neq rfl rfl) ?_
  refine WL.nilS ?_
  refine CW.cond rfl (fun hc1 => ?_) (fun hc1 => ?_)
  · skip
    try simp only [nq] at hc1
    refine CW.seq ?_
    refine CW.reg ?_
    refine WL.asg rfl rfl ?_
    refine WL.nilS ?_
    refine CW.ret ?_
    refine RQ.then ?_
    refine RQ.r1 rfl ?_
    refine ⟨?_, hB⟩
    first | exact bT (eq_of_takes (by omega) (by omega) he) | exact bF (by rintro rfl; simp_all)
  try simp only [nq] at hc1
  refine CW.skipS ?_
  refine CW.seq ?_
  refine CW.seq ?_
  refine CW.reg ?_
  refine WL.asg rfl rfl ?_
  refine WL.nilS ?_
  refine CW.block ?_
  refine CW.loop (σk := [(0, _), (1, _)]) (fun ρ wz m => ∃ (k : Nat), ρ = [(5, .int .i64 (k : Nat))] ∧ m = xs.length - k ∧ UpdL [] w wz ∧ (k ≤ xs.length) ∧ (xs.take k = ys.take k)) (ρ₀ := [(5, _)]) (m₀ := _) ⟨rfl, rfl, rfl, trivial⟩ ⟨0, rfl, rfl, (UpdL.refl _ _), (by first | omega | rfl | (simp; done) | assumption | (simp_all; done)), (by first | omega | rfl | (simp; done) | assumption | (simp_all; done))⟩ ?_
  rintro _ wl1 _ ⟨k, rfl, rfl, hU0, hk, he⟩
  have hB := hB.loop hU0 trivial
  refine CW.seq ?_
  refine CW.seq ?_
  refine CW.reg ?_
  refine WL.mv rfl rfl ?_
  refine WL.mv rfl rfl ?_
  refine WL.pure rfl rfl rfl ((by first | exact PV.len rfl (by assumption) T.sl31 | exact PV.lenOs rfl (by assumption) T.sl31 | exact PV.len rfl (NL.rd (by assumption)) T.sl31 | exact PV.len rfl (Inn.rd (by assumption) (by omega)) T.sl31)) ?_
  refine WL.pure rfl rfl rfl (PV.lss rfl rfl) ?_
  refine WL.nilS ?_
  refine CW.cond rfl (fun hc2 => ?_) (fun hc2 => ?_)
  · skip
    try simp only [nq] at hc2
    refine CW.skipS ?_
    refine CW.seq ?_
    refine CW.block ?_
    refine CW.seq ?_
    refine CW.draw T.mixed (by kernel_rfl) (fun _ _ _ _ _ h => h) (fun w8 w9 => Upd none w8 w9) 9 (.take 0 (.take 1 (.take 2 (.take 3 (.take 4 (.take 5 (.take 6 (.take 7 (.take 8 .done))))))))) (by kernel_rfl) (fun w1 hXd => ?_)
    have hB := hB.trans hXd
    have hU0 := hU0.ext hXd
    have hBr := hB
    have hS : Upd none w1 w1 := Ext.toUpd (Ext.refl _)
    refine HP.take rfl rfl rfl rfl hS (fun wS hS1 => PV.move rfl) ?_
    refine HP.take rfl rfl rfl rfl hS (fun wS hS1 => PV.move rfl) ?_
    first
      | refine HP.at (x := .tmp 17) (y := .tmp 18) (E := EB) (false) rfl rfl (by first | assumption | exact Inn.rd (by assumption) (by omega)) (by first | omega | (simp only [List.length_set]; omega) | (simp only [List.length_append, List.length_take, List.length_replicate, List.length_drop]; omega)) (fun p1 csp1 hpp1 hcp1 hq => ?_)
      | refine HP.atZ (x := .tmp 17) (y := .tmp 18) (E := EB) (false) rfl rfl (by first | assumption | exact Inn.rd (by assumption) (by omega)) (by first | omega | (simp only [List.length_set]; omega) | (simp only [List.length_append, List.length_take, List.length_replicate, List.length_drop]; omega)) (fun p1 csp1 hpp1 hzp1 hcp1 hq => ?_)
    cases hq
    refine HP.take rfl rfl rfl rfl hS (fun wS hS1 => (by first | exact PV.indexAddr hpp1 rfl rfl T.sl31 | exact PV.indexAddr hpp1 rfl (by rw [← hzp1]; rfl) T.sl31)) ?_
    refine HP.take rfl rfl rfl rfl hS (fun wS hS1 => (by first | exact PV.load0 T.na4 rfl (by first | exact Cells.up (by assumption) (hBr.trans hS1) | exact Bx.cells (Bx.updD (by assumption) hS1 (Dj.nlR _)) | exact Cells.upd (by assumption) hS1 (by simp)) (Ext.refl _) rfl | exact PV.load1 T.na4 rfl (by first | exact Cells.up (by assumption) (hBr.trans hS1) | exact Bx.cells (Bx.updD (by assumption) hS1 (Dj.nlR _)) | exact Cells.upd (by assumption) hS1 (by simp)) (Ext.refl _) rfl)) ?_
    refine HP.take rfl rfl rfl rfl hS (fun wS hS1 => PV.move rfl) ?_
    refine HP.take rfl rfl rfl rfl hS (fun wS hS1 => PV.move rfl) ?_
    first
      | refine HP.at (x := .tmp 21) (y := .tmp 22) (E := EB) (false) rfl rfl (by first | assumption | exact Inn.rd (by assumption) (by omega)) (by first | omega | (simp only [List.length_set]; omega) | (simp only [List.length_append, List.length_take, List.length_replicate, List.length_drop]; omega)) (fun p2 csp2 hpp2 hcp2 hq => ?_)
      | refine HP.atZ (x := .tmp 21) (y := .tmp 22) (E := EB) (false) rfl rfl (by first | assumption | exact Inn.rd (by assumption) (by omega)) (by first | omega | (simp only [List.length_set]; omega) | (simp only [List.length_append, List.length_take, List.length_replicate, List.length_drop]; omega)) (fun p2 csp2 hpp2 hzp2 hcp2 hq => ?_)
    cases hq
    refine HP.take rfl rfl rfl rfl hS (fun wS hS1 => (by first | exact PV.indexAddr hpp2 rfl rfl T.sl31 | exact PV.indexAddr hpp2 rfl (by rw [← hzp2]; rfl) T.sl31)) ?_
    refine HP.take rfl rfl rfl rfl hS (fun wS hS1 => (by first | exact PV.load0 T.na4 rfl (by first | exact Cells.up (by assumption) (hBr.trans hS1) | exact Bx.cells (Bx.updD (by assumption) hS1 (Dj.nlR _)) | exact Cells.upd (by assumption) hS1 (by simp)) (Ext.refl _) rfl | exact PV.load1 T.na4 rfl (by first | exact Cells.up (by assumption) (hBr.trans hS1) | exact Bx.cells (Bx.updD (by assumption) hS1 (Dj.nlR _)) | exact Cells.upd (by assumption) hS1 (by simp)) (Ext.refl _) rfl)) ?_
    refine HP.take rfl rfl rfl rfl hS (fun wS hS1 => PV.neqB T.bl4 rfl rfl) ?_
    refine HP.doneS ?_
    refine CW.cond rfl (fun hc3 => ?_) (fun hc3 => ?_)
    · skip
      try simp only [nq] at hc3
      refine CW.seq ?_
      refine CW.reg ?_
      refine WL.asg rfl rfl ?_
      refine WL.nilS ?_
      refine CW.ret ?_
      refine RQ.block ?_
      refine RQ.then ?_
      refine RQ.then ?_
      refine RQ.block ?_
      refine RQ.then ?_
      refine RQ.r1 rfl ?_
      refine ⟨?_, hB⟩
      first | exact bT (eq_of_takes (by omega) (by omega) he) | exact bF (by rintro rfl; simp_all)
    try simp only [nq] at hc3
    refine CW.skip ?_
    refine NQ.block ?_
    refine NQ.then ?_
    refine CW.reg ?_
    refine WL.mv rfl rfl ?_
    refine WL.pure rfl rfl rfl (PV.add rfl rfl (by constructor <;> omega)) ?_
    refine WL.asg rfl rfl ?_
    refine WL.nil ?_
    refine NQ.next (ρ := [(5, _)]) ⟨rfl, rfl, rfl, trivial⟩ ?_
    exact ⟨_, ⟨k + 1, rfl, rfl, hU0, (by first | omega | assumption | (simp_all; done) | (simp_all; omega)), (by exact take_eq_succ (by omega) (by omega) he (by assumption))⟩, by omega⟩
  try simp only [nq] at hc2
  refine CW.exit ?_
  refine XQ.then ?_
  refine XQ.then ?_
  refine XQ.here ?_
  refine NQ.then ?_
  refine CW.seq ?_
  refine CW.reg ?_
  refine WL.asg rfl rfl ?_
  refine WL.nilS ?_
  refine CW.ret ?_
  refine RQ.r1 rfl ?_
  refine ⟨?_, hB⟩
  first | exact bT (eq_of_takes (by omega) (by omega) he) | exact bF (by rintro rfl; simp_all)
theorem c_laws_eqTreeMachine {w : World} {a0 : Int} {a1 : Int} {va2 : Value} {xa2 : List Int} {va3 : Value} {xa3 : List Int} {va4 : Value} {xa4 : List Bool} {b0 : Int} {b1 : Int} {vb2 : Value} {xb2 : List Int} {vb3 : Value} {xb3 : List Int} {vb4 : Value} {xb4 : List Bool}  (ha2 : Rd EI w va2 xa2) (ha3 : Rd EI w va3 xa3) (ha4 : Rd EB w va4 xa4) (hb2 : Rd EI w vb2 xb2) (hb3 : Rd EI w vb3 xb3) (hb4 : Rd EB w vb4 xb4) : Calls Try.prog 27 #[.agg #[.int .i64 a0, .int .i64 a1, va2, va3, va4], .agg #[.int .i64 b0, .int .i64 b1, vb2, vb3, vb4]] w (Ret1 (RQt (.bool (decide (a0 = b0 ∧ a1 = b1 ∧ xa2 = xb2 ∧ xa3 = xb3 ∧ xa4 = xb4))) w)) := by
  have hB : Ext w w := Ext.refl w
  have hla2 := ha2.leI; have hla3 := ha3.leI; have hla4 := ha4.leI; have hlb2 := hb2.leI; have hlb3 := hb3.leI; have hlb4 := hb4.leI
  refine callsOf (vs := [_, _]) Try.func27 rfl Try.ntmps27 rfl rfl ?_
  refine CW.seq ?_
  refine CW.reg ?_
  refine WL.op rfl (OpK.box rfl rfl (by first | exact Rd.cells1 (by assumption) | exact Osl.cells1 (by assumption) | exact Osn.cells1 (by assumption) | exact Rd.cells1 (NL.rd (by assumption)) | exact Inn.cell1 (by assumption) (by omega) | assumption | rfl) (fun b1 w1 hXw1 hb1 hge1 => ?_))
  have hl1 := Lo.new hB hge1
  have hB := hB.trans hXw1
  refine WL.op rfl (OpK.box rfl rfl (by first | exact Rd.cells1 (by assumption) | exact Osl.cells1 (by assumption) | exact Osn.cells1 (by assumption) | exact Rd.cells1 (NL.rd (by assumption)) | exact Inn.cell1 (by assumption) (by omega) | assumption | rfl) (fun b2 w2 hXw2 hb2 hge2 => ?_))
  have hl2 := Lo.new hB hge2
  have hd1_2 := Dj.new hb1.ltO hge2
  have hB := hB.trans hXw2
  have hb1 := hb1.up hXw2
  refine WL.asg rfl rfl ?_
  refine WL.nilS ?_
  refine CW.seq ?_
  refine CW.seq ?_
  refine CW.reg ?_
  refine WL.pure rfl rfl rfl (PV.fieldAddr T.fl36_0 rfl hb1.cells) ?_
  refine WL.pure rfl rfl rfl (PV.load1 T.na2 rfl hb1.cells (Ext.refl _) rfl) ?_
  refine WL.pure rfl rfl rfl (PV.fieldAddr T.fl36_0 rfl hb2.cells) ?_
  refine WL.pure rfl rfl rfl (PV.load1 T.na2 rfl hb2.cells (Ext.refl _) rfl) ?_
  refine WL.pure rfl rfl rfl (PV.neq rfl rfl) ?_
  refine WL.nilS ?_
  refine CW.cond rfl (fun hc1 => ?_) (fun hc1 => ?_)
  · skip
    try simp only [nq] at hc1
    refine CW.seq ?_
    refine CW.reg ?_
    refine WL.asg rfl rfl ?_
    refine WL.nilS ?_
    refine CW.ret ?_
    refine RQ.then ?_
    refine RQ.r1 rfl ?_
    refine ⟨?_, hB⟩
    first | rfl | exact bT (by omega) | exact bF (by omega) | exact bD (by omega) | exact iE (by omega) | (simp_all; done) | (simp_all; omega) | (simp_all; intros; omega)
  try simp only [nq] at hc1
  refine CW.skipS ?_
  refine CW.seq ?_
  refine CW.seq ?_
  refine CW.reg ?_
  refine WL.pure rfl rfl rfl (PV.fieldAddr T.fl36_1 rfl hb1.cells) ?_
  refine WL.pure rfl rfl rfl (PV.load1 T.na2 rfl hb1.cells (Ext.refl _) rfl) ?_
  refine WL.pure rfl rfl rfl (PV.fieldAddr T.fl36_1 rfl hb2.cells) ?_
  refine WL.pure rfl rfl rfl (PV.load1 T.na2 rfl hb2.cells (Ext.refl _) rfl) ?_
  refine WL.pure rfl rfl rfl (PV.neq rfl rfl) ?_
  refine WL.nilS ?_
  refine CW.cond rfl (fun hc2 => ?_) (fun hc2 => ?_)
  · skip
    try simp only [nq] at hc2
    refine CW.seq ?_
    refine CW.reg ?_
    refine WL.asg rfl rfl ?_
    refine WL.nilS ?_
    refine CW.ret ?_
    refine RQ.then ?_
    refine RQ.r1 rfl ?_
    refine ⟨?_, hB⟩
    first | rfl | exact bT (by omega) | exact bF (by omega) | exact bD (by omega) | exact iE (by omega) | (simp_all; done) | (simp_all; omega) | (simp_all; intros; omega)
  try simp only [nq] at hc2
  refine CW.skipS ?_
  refine CW.seq ?_
  refine CW.seq ?_
  refine CW.reg ?_
  refine WL.pure rfl rfl rfl (PV.fieldAddr T.fl36_2 rfl hb1.cells) ?_
  refine WL.pure rfl rfl rfl (PV.load1 T.na22 rfl hb1.cells (Ext.refl _) rfl) ?_
  refine WL.pure rfl rfl rfl (PV.fieldAddr T.fl36_2 rfl hb2.cells) ?_
  refine WL.pure rfl rfl rfl (PV.load1 T.na22 rfl hb2.cells (Ext.refl _) rfl) ?_
  refine WL.op rfl (OpK.callR rfl T.cf18 rfl (c_laws_eqInt64S (by first | assumption | exact Rd.up (by assumption) hB | exact Osl.rd (by assumption) | exact Osn.rdR (by assumption) | exact NL.rd (by assumption) | exact rdII (by assumption) (by assumption) | exact Inn.rd (by assumption) (by omega)) (by first | assumption | exact Rd.up (by assumption) hB | exact Osl.rd (by assumption) | exact Osn.rdR (by assumption) | exact NL.rd (by assumption) | exact rdII (by assumption) (by assumption) | exact Inn.rd (by assumption) (by omega))) (fun w3 hXw3 => ?_))
  have hB := hB.trans hXw3
  have hb1 := hb1.up hXw3
  have hb2 := hb2.up hXw3
  refine WL.pure rfl rfl rfl (PV.not rfl) ?_
  refine WL.nilS ?_
  refine CW.cond rfl (fun hc3 => ?_) (fun hc3 => ?_)
  · skip
    try simp only [nq] at hc3
    refine CW.seq ?_
    refine CW.reg ?_
    refine WL.asg rfl rfl ?_
    refine WL.nilS ?_
    refine CW.ret ?_
    refine RQ.then ?_
    refine RQ.r1 rfl ?_
    refine ⟨?_, hB⟩
    first | rfl | exact bT (by omega) | exact bF (by omega) | exact bD (by omega) | exact iE (by omega) | (simp_all; done) | (simp_all; omega) | (simp_all; intros; omega)
  try simp only [nq] at hc3
  refine CW.skipS ?_
  refine CW.seq ?_
  refine CW.seq ?_
  refine CW.reg ?_
  refine WL.pure rfl rfl rfl (PV.fieldAddr T.fl36_3 rfl hb1.cells) ?_
  refine WL.pure rfl rfl rfl (PV.load1 T.na22 rfl hb1.cells (Ext.refl _) rfl) ?_
  refine WL.pure rfl rfl rfl (PV.fieldAddr T.fl36_3 rfl hb2.cells) ?_
  refine WL.pure rfl rfl rfl (PV.load1 T.na22 rfl hb2.cells (Ext.refl _) rfl) ?_
  refine WL.op rfl (OpK.callR rfl T.cf18 rfl (c_laws_eqInt64S (by first | assumption | exact Rd.up (by assumption) hB | exact Osl.rd (by assumption) | exact Osn.rdR (by assumption) | exact NL.rd (by assumption) | exact rdII (by assumption) (by assumption) | exact Inn.rd (by assumption) (by omega)) (by first | assumption | exact Rd.up (by assumption) hB | exact Osl.rd (by assumption) | exact Osn.rdR (by assumption) | exact NL.rd (by assumption) | exact rdII (by assumption) (by assumption) | exact Inn.rd (by assumption) (by omega))) (fun w4 hXw4 => ?_))
  have hB := hB.trans hXw4
  have hb1 := hb1.up hXw4
  have hb2 := hb2.up hXw4
  refine WL.pure rfl rfl rfl (PV.not rfl) ?_
  refine WL.nilS ?_
  refine CW.cond rfl (fun hc4 => ?_) (fun hc4 => ?_)
  · skip
    try simp only [nq] at hc4
    refine CW.seq ?_
    refine CW.reg ?_
    refine WL.asg rfl rfl ?_
    refine WL.nilS ?_
    refine CW.ret ?_
    refine RQ.then ?_
    refine RQ.r1 rfl ?_
    refine ⟨?_, hB⟩
    first | rfl | exact bT (by omega) | exact bF (by omega) | exact bD (by omega) | exact iE (by omega) | (simp_all; done) | (simp_all; omega) | (simp_all; intros; omega)
  try simp only [nq] at hc4
  refine CW.skipS ?_
  refine CW.seq ?_
  refine CW.seq ?_
  refine CW.reg ?_
  refine WL.pure rfl rfl rfl (PV.fieldAddr T.fl36_4 rfl hb1.cells) ?_
  refine WL.pure rfl rfl rfl (PV.load1 T.na31 rfl hb1.cells (Ext.refl _) rfl) ?_
  refine WL.pure rfl rfl rfl (PV.fieldAddr T.fl36_4 rfl hb2.cells) ?_
  refine WL.pure rfl rfl rfl (PV.load1 T.na31 rfl hb2.cells (Ext.refl _) rfl) ?_
  refine WL.op rfl (OpK.callR rfl T.cf71 rfl (c_laws_eqBoolS (by first | assumption | exact Rd.up (by assumption) hB | exact Osl.rd (by assumption) | exact Osn.rdR (by assumption) | exact NL.rd (by assumption) | exact rdII (by assumption) (by assumption) | exact Inn.rd (by assumption) (by omega)) (by first | assumption | exact Rd.up (by assumption) hB | exact Osl.rd (by assumption) | exact Osn.rdR (by assumption) | exact NL.rd (by assumption) | exact rdII (by assumption) (by assumption) | exact Inn.rd (by assumption) (by omega))) (fun w5 hXw5 => ?_))
  have hB := hB.trans hXw5
  have hb1 := hb1.up hXw5
  have hb2 := hb2.up hXw5
  refine WL.pure rfl rfl rfl (PV.not rfl) ?_
  refine WL.nilS ?_
  refine CW.cond rfl (fun hc5 => ?_) (fun hc5 => ?_)
  · skip
    try simp only [nq] at hc5
    refine CW.seq ?_
    refine CW.reg ?_
    refine WL.asg rfl rfl ?_
    refine WL.nilS ?_
    refine CW.ret ?_
    refine RQ.then ?_
    refine RQ.r1 rfl ?_
    refine ⟨?_, hB⟩
    first | rfl | exact bT (by omega) | exact bF (by omega) | exact bD (by omega) | exact iE (by omega) | (simp_all; done) | (simp_all; omega) | (simp_all; intros; omega)
  try simp only [nq] at hc5
  refine CW.skipS ?_
  refine CW.seq ?_
  refine CW.reg ?_
  refine WL.asg rfl rfl ?_
  refine WL.nilS ?_
  refine CW.ret ?_
  refine RQ.r1 rfl ?_
  refine ⟨?_, hB⟩
  first | rfl | exact bT (by omega) | exact bF (by omega) | exact bD (by omega) | exact iE (by omega) | (simp_all; done) | (simp_all; omega) | (simp_all; intros; omega)
theorem c_laws_markInt64S {w : World} {va : Value} {og : Option Nat} {xs : List Int} {k : Int} (ho : Osl VI w og va xs) (hk : 0 ≤ k ∧ k + xs.length ≤ 9223372036854775807) : Calls Try.prog 21 #[va, .int .i64 k] w (Ret1 (fun v w' => v = .int .i64 (k + xs.length) ∧ UpdL [og] w w' ∧ Osl VI w' og va (marks k xs.length))) := by
  refine callsOf (vs := [_, _]) Try.func21 rfl Try.ntmps21 rfl rfl ?_
  have hUB : UpdL [og] w w := UpdL.refl _ _
  have ho1 : Osl VI w og va (xs) := by assumption
  have hkB_1 : OkB [og] w og := OkB.mem (by simp)
  have hgB_1 := OgR.refl w og
  refine CW.seq ?_
  refine CW.reg ?_
  refine WL.asg rfl rfl ?_
  refine WL.nilS ?_
  refine CW.seq ?_
  refine CW.seq ?_
  refine CW.reg ?_
  refine WL.asg rfl rfl ?_
  refine WL.nilS ?_
  refine CW.block ?_
  have hlt1 := ho1.ltO
  refine CW.loop (σk := [(0, _)]) (fun ρ wz m => ∃ (i : Nat), ρ = [(1, .int .i64 (k + (i : Nat))), (5, .int .i64 (i : Nat))] ∧ m = xs.length - i ∧ UpdL [og] w wz ∧ Osl VI wz og va (marks k i ++ xs.drop i) ∧ (i ≤ xs.length)) (ρ₀ := [(1, _), (5, _)]) (m₀ := _) ⟨rfl, rfl, rfl, trivial⟩ ⟨0, (by simp), rfl, (UpdL.refl _ _), osE ho1 (by exact marks_zero _ _), (by first | omega | rfl | (simp; done) | assumption | (simp_all; done))⟩ ?_
  rintro _ wl1 _ ⟨i, rfl, rfl, hU0, ho1, hi⟩
  have hUB := hUB.trans hU0 ⟨hkB_1, trivial⟩
  have hk0_1 : OkB [og] w og := OkB.mem (by simp)
  have hll : (marks k i ++ xs.drop i).length = xs.length := by rw [List.length_append, marks_len, List.length_drop]; omega
  refine CW.seq ?_
  refine CW.seq ?_
  refine CW.reg ?_
  refine WL.mv rfl rfl ?_
  refine WL.mv rfl rfl ?_
  refine WL.pure rfl rfl rfl ((PV.lenOs rfl ho1 T.sl22)) ?_
  refine WL.pure rfl rfl rfl (PV.lss rfl rfl) ?_
  refine WL.nilS ?_
  refine CW.cond rfl (fun hc1 => ?_) (fun hc1 => ?_)
  · skip
    try simp only [nq] at hc1
    refine CW.skipS ?_
    refine CW.seq ?_
    refine CW.block ?_
    refine CW.seq ?_
    refine CW.reg ?_
    refine WL.mv rfl rfl ?_
    refine WL.mv rfl rfl ?_
    refine WL.mv rfl rfl ?_
    first
      | refine WL.atO (x := .tmp 12) (y := .tmp 13) (f := VI) (0) rfl rfl ho1 (by first | omega | (simp only [List.length_set]; omega) | (simp only [List.length_append, List.length_take, List.length_replicate, List.length_drop]; omega)) (fun p1 hpp1 hcp1 => ?_)
      | refine WL.atOZ (x := .tmp 12) (y := .tmp 13) (f := VI) (0) rfl rfl ho1 (by first | omega | (simp only [List.length_set]; omega) | (simp only [List.length_append, List.length_take, List.length_replicate, List.length_drop]; omega)) (fun p1 hpp1 hzp1 hcp1 => ?_)
    refine WL.pure rfl rfl rfl ((by first | exact PV.indexAddr hpp1 rfl rfl T.sl22 | exact PV.indexAddr hpp1 rfl (by rw [← hzp1]; rfl) T.sl22)) ?_
    refine WL.op rfl (OpK.storeS VI T.sz2 rfl rfl rfl hpp1 ho1 (fun w1 hXw1 ho1 => ?_))
    have hUB := hUB.step hXw1 hkB_1
    have hU0 := hU0.step hXw1 hk0_1
    refine WL.nilS ?_
    refine CW.reg ?_
    refine WL.mv rfl rfl ?_
    refine WL.pure rfl rfl rfl (PV.add rfl rfl (by constructor <;> omega)) ?_
    refine WL.asg rfl rfl ?_
    refine WL.nil ?_
    refine NQ.block ?_
    refine NQ.then ?_
    refine CW.reg ?_
    refine WL.mv rfl rfl ?_
    refine WL.pure rfl rfl rfl (PV.add rfl rfl (by constructor <;> omega)) ?_
    refine WL.asg rfl rfl ?_
    refine WL.nil ?_
    refine NQ.next (ρ := [(1, _), (5, _)]) ⟨rfl, rfl, rfl, trivial⟩ ?_
    exact ⟨_, ⟨i + 1, (by simp; omega), rfl, hU0, osE ho1 (by exact marks_set (by omega)), (by first | omega | assumption | (simp_all; done) | (simp_all; omega))⟩, by omega⟩
  try simp only [nq] at hc1
  refine CW.exit ?_
  refine XQ.then ?_
  refine XQ.then ?_
  refine XQ.here ?_
  refine NQ.then ?_
  refine CW.seq ?_
  refine CW.reg ?_
  refine WL.mv rfl rfl ?_
  refine WL.asg rfl rfl ?_
  refine WL.nilS ?_
  refine CW.ret ?_
  refine RQ.r1 rfl ?_
  refine ⟨?_, hUB, osE ho1 ?_⟩
  · skip
    exact iE (by omega)
  · skip
    exact marks_done (by omega) hi
theorem c_laws_markBoolS {w : World} {va : Value} {og : Option Nat} {xs : List Bool} {k : Int} (ho : Osl VB w og va xs) (hk : 0 ≤ k ∧ k + xs.length ≤ 9223372036854775807) : Calls Try.prog 76 #[va, .int .i64 k] w (Ret1 (fun v w' => v = .int .i64 (k + xs.length) ∧ UpdL [og] w w' ∧ Osl VB w' og va (marksB k xs.length))) := by
  refine callsOf (vs := [_, _]) Try.func76 rfl Try.ntmps76 rfl rfl ?_
  have hUB : UpdL [og] w w := UpdL.refl _ _
  have ho1 : Osl VB w og va (xs) := by assumption
  have hkB_1 : OkB [og] w og := OkB.mem (by simp)
  have hgB_1 := OgR.refl w og
  refine CW.seq ?_
  refine CW.reg ?_
  refine WL.asg rfl rfl ?_
  refine WL.nilS ?_
  refine CW.seq ?_
  refine CW.seq ?_
  refine CW.reg ?_
  refine WL.asg rfl rfl ?_
  refine WL.nilS ?_
  refine CW.block ?_
  have hlt1 := ho1.ltO
  refine CW.loop (σk := [(0, _)]) (fun ρ wz m => ∃ (i : Nat), ρ = [(1, .int .i64 (k + (i : Nat))), (5, .int .i64 (i : Nat))] ∧ m = xs.length - i ∧ UpdL [og] w wz ∧ Osl VB wz og va (marksB k i ++ xs.drop i) ∧ (i ≤ xs.length)) (ρ₀ := [(1, _), (5, _)]) (m₀ := _) ⟨rfl, rfl, rfl, trivial⟩ ⟨0, (by simp), rfl, (UpdL.refl _ _), osE ho1 (by exact marksB_zero _ _), (by first | omega | rfl | (simp; done) | assumption | (simp_all; done))⟩ ?_
  rintro _ wl1 _ ⟨i, rfl, rfl, hU0, ho1, hi⟩
  have hUB := hUB.trans hU0 ⟨hkB_1, trivial⟩
  have hk0_1 : OkB [og] w og := OkB.mem (by simp)
  have hll : (marksB k i ++ xs.drop i).length = xs.length := by rw [List.length_append, marksB_len, List.length_drop]; omega
  refine CW.seq ?_
  refine CW.seq ?_
  refine CW.reg ?_
  refine WL.mv rfl rfl ?_
  refine WL.mv rfl rfl ?_
  refine WL.pure rfl rfl rfl ((PV.lenOs rfl ho1 T.sl31)) ?_
  refine WL.pure rfl rfl rfl (PV.lss rfl rfl) ?_
  refine WL.nilS ?_
  refine CW.cond rfl (fun hc1 => ?_) (fun hc1 => ?_)
  · skip
    try simp only [nq] at hc1
    refine CW.skipS ?_
    refine CW.seq ?_
    refine CW.block ?_
    refine CW.seq ?_
    refine CW.reg ?_
    refine WL.mv rfl rfl ?_
    refine WL.mv rfl rfl ?_
    refine WL.mv rfl rfl ?_
    refine WL.pure rfl rfl rfl (PV.rem rfl rfl (by omega) rfl) ?_
    refine WL.pure rfl rfl rfl (PV.eql rfl rfl) ?_
    first
      | refine WL.atO (x := .tmp 12) (y := .tmp 13) (f := VB) (false) rfl rfl ho1 (by first | omega | (simp only [List.length_set]; omega) | (simp only [List.length_append, List.length_take, List.length_replicate, List.length_drop]; omega)) (fun p1 hpp1 hcp1 => ?_)
      | refine WL.atOZ (x := .tmp 12) (y := .tmp 13) (f := VB) (false) rfl rfl ho1 (by first | omega | (simp only [List.length_set]; omega) | (simp only [List.length_append, List.length_take, List.length_replicate, List.length_drop]; omega)) (fun p1 hpp1 hzp1 hcp1 => ?_)
    refine WL.pure rfl rfl rfl ((by first | exact PV.indexAddr hpp1 rfl rfl T.sl31 | exact PV.indexAddr hpp1 rfl (by rw [← hzp1]; rfl) T.sl31)) ?_
    refine WL.op rfl (OpK.storeS VB T.sz4 rfl rfl rfl hpp1 ho1 (fun w1 hXw1 ho1 => ?_))
    have hUB := hUB.step hXw1 hkB_1
    have hU0 := hU0.step hXw1 hk0_1
    refine WL.nilS ?_
    refine CW.reg ?_
    refine WL.mv rfl rfl ?_
    refine WL.pure rfl rfl rfl (PV.add rfl rfl (by constructor <;> omega)) ?_
    refine WL.asg rfl rfl ?_
    refine WL.nil ?_
    refine NQ.block ?_
    refine NQ.then ?_
    refine CW.reg ?_
    refine WL.mv rfl rfl ?_
    refine WL.pure rfl rfl rfl (PV.add rfl rfl (by constructor <;> omega)) ?_
    refine WL.asg rfl rfl ?_
    refine WL.nil ?_
    refine NQ.next (ρ := [(1, _), (5, _)]) ⟨rfl, rfl, rfl, trivial⟩ ?_
    exact ⟨_, ⟨i + 1, (by simp; omega), rfl, hU0, osE ho1 (by exact marksB_set (by omega)), (by first | omega | assumption | (simp_all; done) | (simp_all; omega))⟩, by omega⟩
  try simp only [nq] at hc1
  refine CW.exit ?_
  refine XQ.then ?_
  refine XQ.then ?_
  refine XQ.here ?_
  refine NQ.then ?_
  refine CW.seq ?_
  refine CW.reg ?_
  refine WL.mv rfl rfl ?_
  refine WL.asg rfl rfl ?_
  refine WL.nilS ?_
  refine CW.ret ?_
  refine RQ.r1 rfl ?_
  refine ⟨?_, hUB, osE ho1 ?_⟩
  · skip
    exact iE (by omega)
  · skip
    exact marksB_done (by omega) hi
theorem c_laws_markTreeMachine {w : World} {a0 : Int} {a1 : Int} {va2 : Value} {xa2 : List Int} {va3 : Value} {xa3 : List Int} {va4 : Value} {xa4 : List Bool} {oga2 : Option Nat} {oga3 : Option Nat} {oga4 : Option Nat} {k : Int} (ho2 : Osl VI w oga2 va2 xa2) (ho3 : Osl VI w oga3 va3 xa3) (ho4 : Osl VB w oga4 va4 xa4) (hdd2_3 : Dj oga2 oga3) (hdd2_4 : Dj oga2 oga4) (hdd3_4 : Dj oga3 oga4) (hk : 0 ≤ k ∧ k + xa2.length + xa3.length + xa4.length ≤ 9223372036854775807) : Calls Try.prog 34 #[.agg #[.int .i64 a0, .int .i64 a1, va2, va3, va4], .int .i64 k] w (Ret1 (fun v w' => v = .int .i64 (k + xa2.length + xa3.length + xa4.length) ∧ UpdL [oga2, oga3, oga4] w w' ∧ Osl VI w' oga2 va2 (marks (k) xa2.length) ∧ Osl VI w' oga3 va3 (marks (k + xa2.length) xa3.length) ∧ Osl VB w' oga4 va4 (marksB (k + xa2.length + xa3.length) xa4.length))) := by
  refine callsOf (vs := [_, _]) Try.func34 rfl Try.ntmps34 rfl rfl ?_
  have hUB : UpdL [oga2, oga3, oga4] w w := UpdL.refl _ _
  have ho1 : Osl VI w oga2 va2 (xa2) := by assumption
  have hkB_1 : OkB [oga2, oga3, oga4] w oga2 := OkB.mem (by simp)
  have hgB_1 := OgR.refl w oga2
  have ho2 : Osl VI w oga3 va3 (xa3) := by assumption
  have hkB_2 : OkB [oga2, oga3, oga4] w oga3 := OkB.mem (by simp)
  have hgB_2 := OgR.refl w oga3
  have ho3 : Osl VB w oga4 va4 (xa4) := by assumption
  have hkB_3 : OkB [oga2, oga3, oga4] w oga4 := OkB.mem (by simp)
  have hgB_3 := OgR.refl w oga4
  have hd1_2 : Dj oga2 oga3 := by assumption
  have hd1_3 : Dj oga2 oga4 := by assumption
  have hd2_3 : Dj oga3 oga4 := by assumption
  refine CW.seq ?_
  refine CW.reg ?_
  refine WL.op rfl (OpK.box rfl rfl (by first | exact Rd.cells1 (by assumption) | exact Osl.cells1 (by assumption) | exact Osn.cells1 (by assumption) | exact Rd.cells1 (NL.rd (by assumption)) | exact Inn.cell1 (by assumption) (by omega) | assumption | rfl) (fun b4 w1 hXw1 hb4 hge4 => ?_))
  have hd1_4 := Dj.new ho1.ltO hge4
  have hd2_4 := Dj.new ho2.ltO hge4
  have hd3_4 := Dj.new ho3.ltO hge4
  have hkB_4 := OkN.new hUB hge4
  have hgB_4 := OgR.new hUB.size hge4
  have ho1 := ho1.up hXw1
  have ho2 := ho2.up hXw1
  have ho3 := ho3.up hXw1
  have hUB := hUB.ext hXw1
  refine WL.asg rfl rfl ?_
  refine WL.nilS ?_
  refine CW.seq ?_
  refine CW.reg ?_
  refine WL.pure rfl rfl rfl (PV.fieldAddr T.fl36_2 rfl hb4.cells) ?_
  refine WL.pure rfl rfl rfl (PV.load1 T.na22 rfl hb4.cells (Ext.refl _) rfl) ?_
  refine WL.mv rfl rfl ?_
  refine WL.op rfl (OpK.call rfl T.cf21 rfl (c_laws_markInt64S (by first | assumption | exact Dj.symm (by assumption)) (by first | assumption | omega | (simp only [marks_len, marksB_len, marksR_len]; omega))) (fun rv1 w2 hR => ?_))
  obtain ⟨rfl, hUC5, ho1⟩ := hR
  have hUB := hUB.trans hUC5 ⟨hkB_1, trivial⟩
  have ho2 := ho2.loop hUC5 ⟨(Dj.symm hd1_2), trivial⟩
  have ho3 := ho3.loop hUC5 ⟨(Dj.symm hd1_3), trivial⟩
  have hb4 := hb4.loop hUC5 ⟨(Dj.symm hd1_4), trivial⟩
  refine WL.asg rfl rfl ?_
  refine WL.nilS ?_
  refine CW.seq ?_
  refine CW.reg ?_
  refine WL.pure rfl rfl rfl (PV.fieldAddr T.fl36_3 rfl hb4.cells) ?_
  refine WL.pure rfl rfl rfl (PV.load1 T.na22 rfl hb4.cells (Ext.refl _) rfl) ?_
  refine WL.mv rfl rfl ?_
  refine WL.op rfl (OpK.call rfl T.cf21 rfl (c_laws_markInt64S (by first | assumption | exact Dj.symm (by assumption)) (by first | assumption | omega | (simp only [marks_len, marksB_len, marksR_len]; omega))) (fun rv2 w3 hR => ?_))
  obtain ⟨rfl, hUC6, ho2⟩ := hR
  have hUB := hUB.trans hUC6 ⟨hkB_2, trivial⟩
  have ho1 := ho1.loop hUC6 ⟨hd1_2, trivial⟩
  have ho3 := ho3.loop hUC6 ⟨(Dj.symm hd2_3), trivial⟩
  have hb4 := hb4.loop hUC6 ⟨(Dj.symm hd2_4), trivial⟩
  refine WL.asg rfl rfl ?_
  refine WL.nilS ?_
  refine CW.seq ?_
  refine CW.reg ?_
  refine WL.pure rfl rfl rfl (PV.fieldAddr T.fl36_4 rfl hb4.cells) ?_
  refine WL.pure rfl rfl rfl (PV.load1 T.na31 rfl hb4.cells (Ext.refl _) rfl) ?_
  refine WL.mv rfl rfl ?_
  refine WL.op rfl (OpK.call rfl T.cf76 rfl (c_laws_markBoolS (by first | assumption | exact Dj.symm (by assumption)) (by first | assumption | omega | (simp only [marks_len, marksB_len, marksR_len]; omega))) (fun rv3 w4 hR => ?_))
  obtain ⟨rfl, hUC7, ho3⟩ := hR
  have hUB := hUB.trans hUC7 ⟨hkB_3, trivial⟩
  have ho1 := ho1.loop hUC7 ⟨hd1_3, trivial⟩
  have ho2 := ho2.loop hUC7 ⟨hd2_3, trivial⟩
  have hb4 := hb4.loop hUC7 ⟨(Dj.symm hd3_4), trivial⟩
  refine WL.asg rfl rfl ?_
  refine WL.nilS ?_
  refine CW.seq ?_
  refine CW.reg ?_
  refine WL.mv rfl rfl ?_
  refine WL.asg rfl rfl ?_
  refine WL.nilS ?_
  refine CW.ret ?_
  refine RQ.r1 rfl ?_
  refine ⟨?_, hUB, osE ho1 ?_, osE ho2 ?_, osE ho3 ?_⟩
  · skip
    rfl
  · skip
    rfl
  · skip
    rfl
  · skip
    rfl
theorem c_laws_heldInt64S {w : World} {va : Value} {xs : List Int} {k : Int} (ha : Rd EI w va xs) (hk : 0 ≤ k ∧ k + xs.length ≤ 9223372036854775807) : Calls Try.prog 22 #[va, .int .i64 k] w (Ret1 (RQt (.int .i64 (if xs = marks k xs.length then k + xs.length else -1)) w)) := by
  have hB : Ext w w := Ext.refl w
  have hla := ha.leI
  refine callsOf (vs := [_, _]) Try.func22 rfl Try.ntmps22 rfl rfl ?_
  refine CW.seq ?_
  refine CW.reg ?_
  refine WL.asg rfl rfl ?_
  refine WL.nilS ?_
  refine CW.seq ?_
  refine CW.seq ?_
  refine CW.reg ?_
  refine WL.asg rfl rfl ?_
  refine WL.nilS ?_
  refine CW.block ?_
  refine CW.loop (σk := [(0, _)]) (fun ρ wz m => ∃ (i : Nat), ρ = [(1, .int .i64 (k + (i : Nat))), (5, .int .i64 (i : Nat))] ∧ m = xs.length - i ∧ UpdL [] w wz ∧ (i ≤ xs.length) ∧ (xs.take i = marks k i)) (ρ₀ := [(1, _), (5, _)]) (m₀ := _) ⟨rfl, rfl, rfl, trivial⟩ ⟨0, (by simp), rfl, (UpdL.refl _ _), (by first | omega | rfl | (simp; done) | assumption | (simp_all; done)), (by simp [marks])⟩ ?_
  rintro _ wl1 _ ⟨i, rfl, rfl, hU0, hi, he⟩
  have hB := hB.loop hU0 trivial
  refine CW.seq ?_
  refine CW.seq ?_
  refine CW.reg ?_
  refine WL.mv rfl rfl ?_
  refine WL.mv rfl rfl ?_
  refine WL.pure rfl rfl rfl ((by first | exact PV.len rfl (by assumption) T.sl22 | exact PV.lenOs rfl (by assumption) T.sl22 | exact PV.len rfl (NL.rd (by assumption)) T.sl22 | exact PV.len rfl (Inn.rd (by assumption) (by omega)) T.sl22)) ?_
  refine WL.pure rfl rfl rfl (PV.lss rfl rfl) ?_
  refine WL.nilS ?_
  refine CW.cond rfl (fun hc1 => ?_) (fun hc1 => ?_)
  · skip
    try simp only [nq] at hc1
    refine CW.skipS ?_
    refine CW.seq ?_
    refine CW.block ?_
    refine CW.seq ?_
    refine CW.seq ?_
    refine CW.reg ?_
    refine WL.mv rfl rfl ?_
    refine WL.mv rfl rfl ?_
    first
      | refine WL.at (x := .tmp 12) (y := .tmp 13) (E := EI) (0) rfl rfl (by first | assumption | exact Inn.rd (by assumption) (by omega)) (by first | omega | (simp only [List.length_set]; omega) | (simp only [List.length_append, List.length_take, List.length_replicate, List.length_drop]; omega)) (fun p1 csp1 hpp1 hcp1 hq => ?_)
      | refine WL.atZ (x := .tmp 12) (y := .tmp 13) (E := EI) (0) rfl rfl (by first | assumption | exact Inn.rd (by assumption) (by omega)) (by first | omega | (simp only [List.length_set]; omega) | (simp only [List.length_append, List.length_take, List.length_replicate, List.length_drop]; omega)) (fun p1 csp1 hpp1 hzp1 hcp1 hq => ?_)
    cases hq
    refine WL.pure rfl rfl rfl ((by first | exact PV.indexAddr hpp1 rfl rfl T.sl22 | exact PV.indexAddr hpp1 rfl (by rw [← hzp1]; rfl) T.sl22)) ?_
    refine WL.pure rfl rfl rfl ((by first | exact PV.load0 T.na2 rfl (by first | exact Cells.up (by assumption) hB | exact Bx.cells (by assumption) | assumption) (Ext.refl _) rfl | exact PV.load1 T.na2 rfl (by first | exact Cells.up (by assumption) hB | exact Bx.cells (by assumption) | assumption) (Ext.refl _) rfl)) ?_
    refine WL.mv rfl rfl ?_
    refine WL.pure rfl rfl rfl (PV.neq rfl rfl) ?_
    refine WL.nilS ?_
    refine CW.cond rfl (fun hc2 => ?_) (fun hc2 => ?_)
    · skip
      try simp only [nq] at hc2
      refine CW.seq ?_
      refine CW.reg ?_
      refine WL.asg rfl rfl ?_
      refine WL.nilS ?_
      refine CW.ret ?_
      refine RQ.then ?_
      refine RQ.block ?_
      refine RQ.then ?_
      refine RQ.then ?_
      refine RQ.block ?_
      refine RQ.then ?_
      refine RQ.r1 rfl ?_
      refine ⟨?_, hB⟩
      first | (rw [if_neg (marks_bad (i := i) (by omega) (by assumption))]) | (rw [if_pos (marks_eq (i := i) (by omega) (by omega) he)]; exact iE (by omega))
    try simp only [nq] at hc2
    refine CW.skipS ?_
    refine CW.reg ?_
    refine WL.mv rfl rfl ?_
    refine WL.pure rfl rfl rfl (PV.add rfl rfl (by constructor <;> omega)) ?_
    refine WL.asg rfl rfl ?_
    refine WL.nil ?_
    refine NQ.block ?_
    refine NQ.then ?_
    refine CW.reg ?_
    refine WL.mv rfl rfl ?_
    refine WL.pure rfl rfl rfl (PV.add rfl rfl (by constructor <;> omega)) ?_
    refine WL.asg rfl rfl ?_
    refine WL.nil ?_
    refine NQ.next (ρ := [(1, _), (5, _)]) ⟨rfl, rfl, rfl, trivial⟩ ?_
    exact ⟨_, ⟨i + 1, (by simp; omega), rfl, hU0, (by first | omega | assumption | (simp_all; done) | (simp_all; omega)), (by exact marks_step (by omega) he (by assumption))⟩, by omega⟩
  try simp only [nq] at hc1
  refine CW.exit ?_
  refine XQ.then ?_
  refine XQ.then ?_
  refine XQ.here ?_
  refine NQ.then ?_
  refine CW.seq ?_
  refine CW.reg ?_
  refine WL.mv rfl rfl ?_
  refine WL.asg rfl rfl ?_
  refine WL.nilS ?_
  refine CW.ret ?_
  refine RQ.r1 rfl ?_
  refine ⟨?_, hB⟩
  first | (rw [if_neg (marks_bad (i := i) (by omega) (by assumption))]) | (rw [if_pos (marks_eq (i := i) (by omega) (by omega) he)]; exact iE (by omega))

end Go.Proofs.Ytfnmkcncofjjkaa
