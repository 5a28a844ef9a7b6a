/- Walks of the functions that the law FnExactGrammarOf reaches: each says what its function computes. No condition. -/
import Derived.Test.YtcnjfbhgicoogaaProg
import Derived.Test.YtcnjfbhgicoogaaLibL
import Derived.Test.YtcnjfbhgicoogaaPlA
import Derived.Test.YtcnjfbhgicoogaaPlG
import Derived.Test.YtcnjfbhgicoogaaWFnExactGrammarOfa
namespace Go.Proofs.Ytcnjfbhgicoogaa
open Go Go.WX Go.Proofs
set_option linter.unusedSimpArgs false
set_option linter.unusedVariables false

theorem c_impl_GrammarOf {w : World} {a0 : Int} {a1 : Int} {va2 : Value} {xa2 : List Int} {va3 : Value} {xa3 : List Bool}  (ha2 : Rd EI w va2 xa2) (ha3 : Rd EB w va3 xa3) : Calls Try.prog 31 #[.agg #[.int .i64 a0, .int .i64 a1, va2, va3]] w (Ret1 (fun v w' => Ext w w' ∧ ∃ u2 og_u2, v = .tuple #[.agg #[.int .i64 (onI (okG a0 a1 xa2 xa3) (a0 + a1)), .int .i64 (onI (okG a0 a1 xa2 xa3) a1), u2], .bool (okG a0 a1 xa2 xa3)] ∧ Osn 4 gR w' og_u2 u2 (onT (okG a0 a1 xa2 xa3) (allG a0 a1 xa2 xa3)) ∧ Lo w og_u2)) := by
  have hB : Ext w w := Ext.refl w
  have hla2 := ha2.leI; have hla3 := ha3.leI
  refine callsOf (vs := [_]) Try.func31 rfl Try.ntmps31 rfl rfl ?_
  refine CW.seq ?_
  refine CW.reg ?_
  refine WL.op rfl (OpK.box rfl rfl (by first | rfl | exact Rd.cells1 (by assumption) | exact Osl.cells1 (by assumption) | exact Osn.cells1 (by assumption)) (fun b1 w1 hXw1 hb1 hge1 => ?_))
  have hl1 := Lo.new hB hge1
  have hB := hB.trans hXw1
  refine WL.op rfl (OpK.alloc rfl T.zv29 rfl (fun b2 w2 hXw2 hb2 hge2 => ?_))
  have hl2 := Lo.new hB hge2
  have hd1_2 := Dj.new hb1.ltO hge2
  have hB := hB.trans hXw2
  have hb1 := hb1.up hXw2
  refine WL.pure rfl rfl rfl (PV.assign rfl) ?_
  refine WL.nilS ?_
  refine CW.seq ?_
  refine CW.seq ?_
  refine CW.reg ?_
  refine WL.pure rfl rfl rfl ((by first | exact PV.loadA T.ag44 rfl (by first | exact Cells.up (by assumption) hB | exact Bx.cells (by assumption) | assumption) (Ext.refl _) rfl | exact PV.loadP (ds := [_, _, _, _]) T.ag44 rfl (by first | exact Cells.up (by assumption) hB | exact Bx.cells (by assumption) | assumption) (Ext.refl _) rfl rfl)) ?_
  refine WL.op rfl (OpK.callR rfl T.cf68 rfl (c_impl_ValidPlain (by first | assumption | exact Rd.up (by assumption) hB | exact Osl.rd (by assumption) | exact Osn.rdR (by assumption)) (by first | assumption | exact Rd.up (by assumption) hB | exact Osl.rd (by assumption) | exact Osn.rdR (by assumption))) (fun w3 hXw3 => ?_))
  have hB := hB.trans hXw3
  have hb1 := hb1.up hXw3
  have hb2 := hb2.up hXw3
  refine WL.pure rfl rfl rfl (PV.not rfl) ?_
  refine WL.pure rfl rfl rfl (PV.move rfl) ?_
  refine WL.split (t := 12) rfl (fun hc1 => ?_) (fun hc1 => ?_)
  · skip
    try simp only [decide_eq_true_eq, decide_eq_false_iff_not, Bool.not_eq_true', Bool.not_eq_false', Bool.not_eq_eq_eq_not, Bool.not_true, Bool.not_false, Int.not_lt, Int.not_le, Classical.not_not, beq_iff_eq, beq_eq_false_iff_ne] at hc1
    refine WL.skip rfl rfl rfl rfl rfl ?_
    refine WL.skip rfl rfl rfl rfl rfl ?_
    refine WL.skip rfl rfl rfl rfl rfl ?_
    refine WL.skip rfl rfl rfl rfl rfl ?_
    refine WL.skip rfl rfl rfl rfl rfl ?_
    refine WL.skip rfl rfl rfl rfl rfl ?_
    refine WL.pure rfl rfl rfl (PV.pickT rfl rfl) ?_
    refine WL.nilS ?_
    refine CW.condT rfl ?_
    refine CW.seq ?_
    refine CW.reg ?_
    refine WL.pure rfl rfl rfl (PV.build (ks := []) (os := []) (css := []) (ds := [_, _, _]) T.bu29 rfl rfl trivial rfl) ?_
    refine WL.op rfl (OpK.storeA T.sz29 rfl rfl rfl rfl (by simp [Value.oneCell'] <;> first | done | (repeat' apply And.intro) <;> first | rfl | exact Osl.oneCell (by assumption) | exact Osn.oneCell (by assumption) | exact Rd.oneCell (by assumption) | assumption) hb2 (fun w4 hXw4 hb2 => ?_))
    have hB := hB.updL hXw4 hl2
    have hb1 := hb1.updD hXw4 hd1_2
    refine WL.pure rfl rfl rfl (PV.assign rfl) ?_
    refine WL.nilS ?_
    refine CW.ret ?_
    refine RQ.then ?_
    refine RQ.rc1 T.ag29 rfl (by first | exact Cells.up (by assumption) hB | exact Bx.cells (by assumption) | assumption) rfl rfl ?_
    refine ⟨hB, (.slice none 0 0), none, ?_, osnE (Osn.nil gR_ok _) ?_, Lo.nl _⟩
    · skip
      first | (exact tE2 (by rw [onI_no (by first | exact okG_no1 (by assumption) | exact okG_no2 (by omega) | exact okG_no3 (by unfold allG; assumption)), onI_no (by first | exact okG_no1 (by assumption) | exact okG_no2 (by omega) | exact okG_no3 (by unfold allG; assumption))]) (bE (Bool.eq_false_iff.2 (by first | exact okG_no1 (by assumption) | exact okG_no2 (by omega) | exact okG_no3 (by unfold allG; assumption))).symm)) | (exact tE2 (by rw [onI_yes (okG_yes (by assumption) (by omega) (by unfold allG; assumption)), onI_yes (okG_yes (by assumption) (by omega) (by unfold allG; assumption))]; rfl) (bE (okG_yes (by assumption) (by omega) (by unfold allG; assumption)).symm)) | (exact tE2 (by rw [onI_yes (okG_yes (by assumption) (by omega) (by unfold allG; assumption)), onI_yes (okG_yes (by assumption) (by omega) (by unfold allG; assumption))]) (bE (okG_yes (by assumption) (by omega) (by unfold allG; assumption)).symm))
    · skip
      first | (rw [onT_no (by first | exact okG_no1 (by assumption) | exact okG_no2 (by omega) | exact okG_no3 (by unfold allG; assumption))]; done) | (rw [onT_yes (okG_yes (by assumption) (by omega) (by unfold allG; assumption))]; rfl)
  try simp only [decide_eq_true_eq, decide_eq_false_iff_not, Bool.not_eq_true', Bool.not_eq_false', Bool.not_eq_eq_eq_not, Bool.not_true, Bool.not_false, Int.not_lt, Int.not_le, Classical.not_not, beq_iff_eq, beq_eq_false_iff_ne] at hc1
  refine WL.pureG rfl rfl rfl rfl rfl ((by first | exact PV.fieldAddr T.fl44_0 rfl (by first | assumption | exact Bx.cells (by assumption)) | exact PV.fieldAddrP T.fl44_0 rfl rfl)) ?_
  refine WL.pureG rfl rfl rfl rfl rfl ((by first | exact PV.load0 T.na2 rfl (by first | exact Cells.up (by assumption) hB | exact Bx.cells (by assumption) | assumption) (Ext.refl _) rfl | exact PV.load1 T.na2 rfl (by first | exact Cells.up (by assumption) hB | exact Bx.cells (by assumption) | assumption) (Ext.refl _) rfl)) ?_
  refine WL.pureG rfl rfl rfl rfl rfl ((by first | exact PV.fieldAddr T.fl44_1 rfl (by first | assumption | exact Bx.cells (by assumption)) | exact PV.fieldAddrP T.fl44_1 rfl rfl)) ?_
  refine WL.pureG rfl rfl rfl rfl rfl ((by first | exact PV.load0 T.na2 rfl (by first | exact Cells.up (by assumption) hB | exact Bx.cells (by assumption) | assumption) (Ext.refl _) rfl | exact PV.load1 T.na2 rfl (by first | exact Cells.up (by assumption) hB | exact Bx.cells (by assumption) | assumption) (Ext.refl _) rfl)) ?_
  refine WL.pureG rfl rfl rfl rfl rfl (PV.add rfl rfl (by constructor <;> omega)) ?_
  refine WL.pureG rfl rfl rfl rfl rfl (PV.gtr rfl rfl) ?_
  refine WL.pure rfl rfl rfl (PV.pickF rfl rfl) ?_
  refine WL.nilS ?_
  refine CW.cond rfl (fun hc2 => ?_) (fun hc2 => ?_)
  · skip
    try simp only [decide_eq_true_eq, decide_eq_false_iff_not, Bool.not_eq_true', Bool.not_eq_false', Bool.not_eq_eq_eq_not, Bool.not_true, Bool.not_false, Int.not_lt, Int.not_le, Classical.not_not, beq_iff_eq, beq_eq_false_iff_ne] at hc2
    refine CW.seq ?_
    refine CW.reg ?_
    refine WL.pure rfl rfl rfl (PV.build (ks := []) (os := []) (css := []) (ds := [_, _, _]) T.bu29 rfl rfl trivial rfl) ?_
    refine WL.op rfl (OpK.storeA T.sz29 rfl rfl rfl rfl (by simp [Value.oneCell'] <;> first | done | (repeat' apply And.intro) <;> first | rfl | exact Osl.oneCell (by assumption) | exact Osn.oneCell (by assumption) | exact Rd.oneCell (by assumption) | assumption) hb2 (fun w5 hXw5 hb2 => ?_))
    have hB := hB.updL hXw5 hl2
    have hb1 := hb1.updD hXw5 hd1_2
    refine WL.pure rfl rfl rfl (PV.assign rfl) ?_
    refine WL.nilS ?_
    refine CW.ret ?_
    refine RQ.then ?_
    refine RQ.rc1 T.ag29 rfl (by first | exact Cells.up (by assumption) hB | exact Bx.cells (by assumption) | assumption) rfl rfl ?_
    refine ⟨hB, (.slice none 0 0), none, ?_, osnE (Osn.nil gR_ok _) ?_, Lo.nl _⟩
    · skip
      first | (exact tE2 (by rw [onI_no (by first | exact okG_no1 (by assumption) | exact okG_no2 (by omega) | exact okG_no3 (by unfold allG; assumption)), onI_no (by first | exact okG_no1 (by assumption) | exact okG_no2 (by omega) | exact okG_no3 (by unfold allG; assumption))]) (bE (Bool.eq_false_iff.2 (by first | exact okG_no1 (by assumption) | exact okG_no2 (by omega) | exact okG_no3 (by unfold allG; assumption))).symm)) | (exact tE2 (by rw [onI_yes (okG_yes (by assumption) (by omega) (by unfold allG; assumption)), onI_yes (okG_yes (by assumption) (by omega) (by unfold allG; assumption))]; rfl) (bE (okG_yes (by assumption) (by omega) (by unfold allG; assumption)).symm)) | (exact tE2 (by rw [onI_yes (okG_yes (by assumption) (by omega) (by unfold allG; assumption)), onI_yes (okG_yes (by assumption) (by omega) (by unfold allG; assumption))]) (bE (okG_yes (by assumption) (by omega) (by unfold allG; assumption)).symm))
    · skip
      first | (rw [onT_no (by first | exact okG_no1 (by assumption) | exact okG_no2 (by omega) | exact okG_no3 (by unfold allG; assumption))]; done) | (rw [onT_yes (okG_yes (by assumption) (by omega) (by unfold allG; assumption))]; rfl)
  try simp only [decide_eq_true_eq, decide_eq_false_iff_not, Bool.not_eq_true', Bool.not_eq_false', Bool.not_eq_eq_eq_not, Bool.not_true, Bool.not_false, Int.not_lt, Int.not_le, Classical.not_not, beq_iff_eq, beq_eq_false_iff_ne] at hc2
  refine CW.skipS ?_
  refine CW.seq ?_
  refine CW.reg ?_
  obtain ⟨hp1, hp2, hp3, hp4, hal⟩ := (by assumption : (1 ≤ a0 ∧ a0 ≤ 64) ∧ (1 ≤ a1 ∧ a1 ≤ 4) ∧ (xa2.length : Int) = a0 * a1 ∧ (xa3.length : Int) = a0 ∧ allIn xa2 0 (a0 - 1) = true)
  refine WL.pure rfl rfl rfl ((by first | exact PV.fieldAddr T.fl44_0 rfl (by first | assumption | exact Bx.cells (by assumption)) | exact PV.fieldAddrP T.fl44_0 rfl rfl)) ?_
  refine WL.pure rfl rfl rfl ((by first | exact PV.load0 T.na2 rfl (by first | exact Cells.up (by assumption) hB | exact Bx.cells (by assumption) | assumption) (Ext.refl _) rfl | exact PV.load1 T.na2 rfl (by first | exact Cells.up (by assumption) hB | exact Bx.cells (by assumption) | assumption) (Ext.refl _) rfl)) ?_
  refine WL.pure rfl rfl rfl ((by first | exact PV.fieldAddr T.fl44_1 rfl (by first | assumption | exact Bx.cells (by assumption)) | exact PV.fieldAddrP T.fl44_1 rfl rfl)) ?_
  refine WL.pure rfl rfl rfl ((by first | exact PV.load0 T.na2 rfl (by first | exact Cells.up (by assumption) hB | exact Bx.cells (by assumption) | assumption) (Ext.refl _) rfl | exact PV.load1 T.na2 rfl (by first | exact Cells.up (by assumption) hB | exact Bx.cells (by assumption) | assumption) (Ext.refl _) rfl)) ?_
  refine WL.pure rfl rfl rfl (PV.add rfl rfl (by constructor <;> omega)) ?_
  refine WL.pure rfl rfl rfl ((by first | exact PV.fieldAddr T.fl44_1 rfl (by first | assumption | exact Bx.cells (by assumption)) | exact PV.fieldAddrP T.fl44_1 rfl rfl)) ?_
  refine WL.pure rfl rfl rfl ((by first | exact PV.load0 T.na2 rfl (by first | exact Cells.up (by assumption) hB | exact Bx.cells (by assumption) | assumption) (Ext.refl _) rfl | exact PV.load1 T.na2 rfl (by first | exact Cells.up (by assumption) hB | exact Bx.cells (by assumption) | assumption) (Ext.refl _) rfl)) ?_
  refine WL.pure rfl rfl rfl (PV.build (ks := [0, 1]) (os := [.tmp 25, .tmp 27]) (css := [[_], [_]]) (ds := [_, _, _]) T.bu29 rfl rfl ⟨(by first | rfl | exact Rd.cells1 (by assumption) | exact Osl.cells1 (by assumption) | exact Osn.cells1 (by assumption)), (by first | rfl | exact Rd.cells1 (by assumption) | exact Osl.cells1 (by assumption) | exact Osn.cells1 (by assumption)), trivial⟩ rfl) ?_
  refine WL.op rfl (OpK.alloc rfl T.zv29 rfl (fun b3 w6 hXw6 hb3 hge3 => ?_))
  have hl3 := Lo.new hB hge3
  have hd1_3 := Dj.new hb1.ltO hge3
  have hd2_3 := Dj.new hb2.ltO hge3
  have hB := hB.trans hXw6
  have hb1 := hb1.up hXw6
  have hb2 := hb2.up hXw6
  refine WL.op rfl (OpK.storeA T.sz29 rfl rfl rfl rfl (by simp [Value.oneCell'] <;> first | done | (repeat' apply And.intro) <;> first | rfl | exact Osl.oneCell (by assumption) | exact Osn.oneCell (by assumption) | exact Rd.oneCell (by assumption) | assumption) hb3 (fun w7 hXw7 hb3 => ?_))
  have hB := hB.updL hXw7 hl3
  have hb1 := hb1.updD hXw7 hd1_3
  have hb2 := hb2.updD hXw7 hd2_3
  refine WL.nilS ?_
  refine CW.seq ?_
  refine CW.seq ?_
  refine CW.reg ?_
  refine WL.pure rfl rfl rfl ((by first | exact PV.fieldAddr T.fl44_0 rfl (by first | assumption | exact Bx.cells (by assumption)) | exact PV.fieldAddrP T.fl44_0 rfl rfl)) ?_
  refine WL.pure rfl rfl rfl ((by first | exact PV.load0 T.na2 rfl (by first | exact Cells.up (by assumption) hB | exact Bx.cells (by assumption) | assumption) (Ext.refl _) rfl | exact PV.load1 T.na2 rfl (by first | exact Cells.up (by assumption) hB | exact Bx.cells (by assumption) | assumption) (Ext.refl _) rfl)) ?_
  refine WL.pure rfl rfl rfl (PV.move rfl) ?_
  refine WL.nilS ?_
  refine CW.block ?_
  have ho4 : Osn 4 gR w7 none (.slice none 0 0) [] := (Osn.nil gR_ok _)
  have hl4 : Lo w none := Lo.nl _
  have hd1_4 : Dj (some b1.block) none := Dj.nlR _
  have hd2_4 : Dj (some b2.block) none := Dj.nlR _
  have hd3_4 : Dj (some b3.block) none := Dj.nlR _
  have hlt1 := hb1.ltO
  have hlt2 := hb2.ltO
  have hlt3 := hb3.ltO
  have hlt4 := ho4.ltO
  refine CW.loop (σk := [(1, _), (2, _), (4, _), (30, _)]) (fun ρ wz m => ∃ (v5 : Value) (og5 : Option Nat) (i : Nat), ρ = [(31, .int .i64 (i : Nat))] ∧ m = a0.toNat - i ∧ UpdL [none, (some b3.block)] w7 wz ∧ Osn 4 gR wz og5 v5 (bodyG a0 a1 xa2 xa3 i) ∧ OgR w7 none og5 ∧ Bx wz b3 [.int .i64 (a0 + a1), .int .i64 a1, v5] ∧ ((i : Int) ≤ a0)) (ρ₀ := [(31, _)]) (m₀ := _) ⟨rfl, rfl, rfl, rfl, rfl, trivial⟩ ⟨(.slice none 0 0), none, 0, rfl, rfl, (UpdL.refl _ _), osnE ho4 (by rfl), OgR.refl _ _, bxE hb3 (by first | rfl | (simp_all; done) | (simp_all; omega)), (by first | omega | rfl | (simp; done) | assumption | (simp_all; done))⟩ ?_
  rintro _ wl1 _ ⟨v5, og5, i, rfl, rfl, hU0, ho5, ha5, hb3, hi⟩
  have hb1 := hb1.loop hU0 ⟨hd1_4, hd1_3, trivial⟩
  have hb2 := hb2.loop hU0 ⟨hd2_4, hd2_3, trivial⟩
  have hl5 := Lo.ogr hl4 hB ha5
  have hg0_5 := ha5
  have hk0_5 : OkB [none, (some b3.block)] w7 og5 := OkB.ogr (OkB.mem (by simp)) (Nat.le_refl _) ha5
  have hd1_5 := Dj.ogr hd1_4 hlt1 ha5
  have hd2_5 := Dj.ogr hd2_4 hlt2 ha5
  have hd3_5 := Dj.ogr hd3_4 hlt3 ha5
  have hk0_3 : OkB [none, (some b3.block)] w7 (some b3.block) := OkB.mem (by simp)
  have hB := hB.loop hU0 ⟨hl4, hl3, trivial⟩
  have hbl := bodyG_len (s := a0) (l := a1) (nx := xa2) (en := xa3) (by omega) i
  refine CW.seq ?_
  refine CW.reg ?_
  refine WL.pure rfl rfl rfl (PV.lss rfl rfl) ?_
  refine WL.nilS ?_
  refine CW.seq ?_
  refine CW.cond rfl (fun hc3 => ?_) (fun hc3 => ?_)
  · skip
    try simp only [decide_eq_true_eq, decide_eq_false_iff_not, Bool.not_eq_true', Bool.not_eq_false', Bool.not_eq_eq_eq_not, Bool.not_true, Bool.not_false, Int.not_lt, Int.not_le, Classical.not_not, beq_iff_eq, beq_eq_false_iff_ne] at hc3
    refine CW.skipS ?_
    refine CW.seq ?_
    refine CW.block ?_
    refine CW.seq ?_
    refine CW.reg ?_
    refine WL.pure rfl rfl rfl (PV.move rfl) ?_
    refine WL.pure rfl rfl rfl (PV.assign rfl) ?_
    refine WL.nilS ?_
    refine CW.seq ?_
    refine CW.reg ?_
    refine WL.pure rfl rfl rfl ((by first | exact PV.fieldAddr T.fl44_1 rfl (by first | assumption | exact Bx.cells (by assumption)) | exact PV.fieldAddrP T.fl44_1 rfl rfl)) ?_
    refine WL.pure rfl rfl rfl ((by first | exact PV.load0 T.na2 rfl (by first | exact Cells.up (by assumption) hB | exact Bx.cells (by assumption) | assumption) (Ext.refl _) rfl | exact PV.load1 T.na2 rfl (by first | exact Cells.up (by assumption) hB | exact Bx.cells (by assumption) | assumption) (Ext.refl _) rfl)) ?_
    refine WL.pure rfl rfl rfl (PV.move rfl) ?_
    refine WL.nilS ?_
    refine CW.block ?_
    have hlt1 := hb1.ltO
    have hlt2 := hb2.ltO
    have hlt3 := hb3.ltO
    have hlt5 := ho5.ltO
    refine CW.loop (σk := [(1, _), (2, _), (4, _), (5, _), (30, _), (31, _), (35, _)]) (fun ρ wz m => ∃ (v7 : Value) (og7 : Option Nat) (k : Nat), ρ = [(36, .int .i64 (k : Nat))] ∧ m = a1.toNat - k ∧ UpdL [og5, (some b3.block)] wl1 wz ∧ Osn 4 gR wz og7 v7 (bodyG a0 a1 xa2 xa3 i ++ rowG a0 a1 xa2 xa3 i k) ∧ OgR wl1 og5 og7 ∧ Bx wz b3 [.int .i64 (a0 + a1), .int .i64 a1, v7] ∧ ((k : Int) ≤ a1)) (ρ₀ := [(36, _)]) (m₀ := _) ⟨rfl, rfl, rfl, rfl, rfl, rfl, rfl, rfl, trivial⟩ ⟨v5, og5, 0, rfl, rfl, (UpdL.refl _ _), osnE ho5 (by exact rowG_zero _ _ _ _ _ _), OgR.refl _ _, bxE hb3 (by first | rfl | (simp_all; done) | (simp_all; omega)), (by first | omega | rfl | (simp; done) | assumption | (simp_all; done))⟩ ?_
    rintro _ wl2 _ ⟨v7, og7, k, rfl, rfl, hU1, ho7, ha7, hb3, hk⟩
    have hU0 := hU0.trans hU1 ⟨hk0_5, hk0_3, trivial⟩
    have hb1 := hb1.loop hU1 ⟨hd1_5, hd1_3, trivial⟩
    have hb2 := hb2.loop hU1 ⟨hd2_5, hd2_3, trivial⟩
    have hl7 := Lo.ogr hl5 hB ha7
    have hg1_7 := ha7
    have hk1_7 : OkB [og5, (some b3.block)] wl1 og7 := OkB.ogr (OkB.mem (by simp)) (Nat.le_refl _) ha7
    have hk0_7 := OkB.ogr hk0_5 (by first | assumption | exact UpdL.size (by assumption)) ha7
    have hg0_7 := OgR.trans hg0_5 (by first | assumption | exact UpdL.size (by assumption)) ha7
    have hd1_7 := Dj.ogr hd1_5 hlt1 ha7
    have hd2_7 := Dj.ogr hd2_5 hlt2 ha7
    have hd3_7 := Dj.ogr hd3_5 hlt3 ha7
    have hk1_3 : OkB [og5, (some b3.block)] wl1 (some b3.block) := OkB.mem (by simp)
    have hB := hB.loop hU1 ⟨hl5, hl3, trivial⟩
    have hrl := rowG_len (s := a0) (l := a1) (nx := xa2) (en := xa3) (i := i) k
    refine CW.seq ?_
    refine CW.reg ?_
    refine WL.pure rfl rfl rfl (PV.lss rfl rfl) ?_
    refine WL.nilS ?_
    refine CW.seq ?_
    refine CW.cond rfl (fun hc4 => ?_) (fun hc4 => ?_)
    · skip
      try simp only [decide_eq_true_eq, decide_eq_false_iff_not, Bool.not_eq_true', Bool.not_eq_false', Bool.not_eq_eq_eq_not, Bool.not_true, Bool.not_false, Int.not_lt, Int.not_le, Classical.not_not, beq_iff_eq, beq_eq_false_iff_ne] at hc4
      refine CW.skipS ?_
      refine CW.seq ?_
      refine CW.block ?_
      refine CW.seq ?_
      refine CW.reg ?_
      refine WL.pure rfl rfl rfl (PV.move rfl) ?_
      refine WL.pure rfl rfl rfl (PV.assign rfl) ?_
      refine WL.nilS ?_
      refine CW.seq ?_
      refine CW.reg ?_
      have hix := plain_idx (s := a0) (l := a1) (i := i) (k := k) (n := xa2.length) (by omega) (by omega) (by omega) (by omega) (by assumption); have hng := allIn_get (k := ((i : Int) * a1 + (k : Int)).toNat) hal (by omega)
      refine WL.pure rfl rfl rfl ((by first | exact PV.loadA T.ag44 rfl (by first | exact Cells.up (by assumption) hB | exact Bx.cells (by assumption) | assumption) (Ext.refl _) rfl | exact PV.loadP (ds := [_, _, _, _]) T.ag44 rfl (by first | exact Cells.up (by assumption) hB | exact Bx.cells (by assumption) | assumption) (Ext.refl _) rfl rfl)) ?_
      refine WL.pure rfl rfl rfl (PV.move rfl) ?_
      refine WL.pure rfl rfl rfl (PV.move rfl) ?_
      refine WL.op rfl (OpK.callR rfl T.cf69 rfl (c_impl_Plain_to (by first | assumption | exact Rd.up (by assumption) hB | exact Osl.rd (by assumption) | exact Osn.rdR (by assumption)) (by first | assumption | exact Rd.up (by assumption) hB | exact Osl.rd (by assumption) | exact Osn.rdR (by assumption)) (by first | assumption | omega | (simp only [marks_len, marksB_len, marksR_len]; omega)) (by first | assumption | omega | (simp only [marks_len, marksB_len, marksR_len]; omega)) (by first | assumption | omega | (simp only [marks_len, marksB_len, marksR_len]; omega)) (by first | assumption | omega | (simp only [marks_len, marksB_len, marksR_len]; omega)) (by first | assumption | omega | (simp only [marks_len, marksB_len, marksR_len]; omega))) (fun w8 hXw8 => ?_))
      have hB := hB.trans hXw8
      have hb1 := hb1.up hXw8
      have hb2 := hb2.up hXw8
      have hb3 := hb3.up hXw8
      have ho7 := ho7.up hXw8
      have hU0 := hU0.ext hXw8
      have hU1 := hU1.ext hXw8
      refine WL.pure rfl rfl rfl (PV.assign rfl) ?_
      refine WL.nilS ?_
      refine CW.seq ?_
      refine CW.reg ?_
      refine WL.pure rfl rfl rfl ((by first | exact PV.fieldAddr T.fl29_2 rfl (by first | assumption | exact Bx.cells (by assumption)) | exact PV.fieldAddrP T.fl29_2 rfl rfl)) ?_
      refine WL.pure rfl rfl rfl ((by first | exact PV.load0 T.na27 rfl (by first | exact Cells.up (by assumption) hB | exact Bx.cells (by assumption) | assumption) (Ext.refl _) rfl | exact PV.load1 T.na27 rfl (by first | exact Cells.up (by assumption) hB | exact Bx.cells (by assumption) | assumption) (Ext.refl _) rfl)) ?_
      refine WL.pure rfl rfl rfl (PV.move rfl) ?_
      refine WL.pure rfl rfl rfl ((by first | exact PV.fieldAddr T.fl44_0 rfl (by first | assumption | exact Bx.cells (by assumption)) | exact PV.fieldAddrP T.fl44_0 rfl rfl)) ?_
      refine WL.pure rfl rfl rfl ((by first | exact PV.load0 T.na2 rfl (by first | exact Cells.up (by assumption) hB | exact Bx.cells (by assumption) | assumption) (Ext.refl _) rfl | exact PV.load1 T.na2 rfl (by first | exact Cells.up (by assumption) hB | exact Bx.cells (by assumption) | assumption) (Ext.refl _) rfl)) ?_
      refine WL.pure rfl rfl rfl (PV.move rfl) ?_
      refine WL.pure rfl rfl rfl (PV.add rfl rfl (by constructor <;> omega)) ?_
      refine WL.pure rfl rfl rfl (PV.move rfl) ?_
      refine WL.pure rfl rfl rfl (PV.build (ks := [0, 1, 2]) (os := [.tmp 45, .tmp 49, .tmp 50]) (css := [[_], [_], [_]]) (ds := [_, _, _, _]) T.bu67 rfl rfl ⟨(by first | rfl | exact Rd.cells1 (by assumption) | exact Osl.cells1 (by assumption) | exact Osn.cells1 (by assumption)), (by first | rfl | exact Rd.cells1 (by assumption) | exact Osl.cells1 (by assumption) | exact Osn.cells1 (by assumption)), (by first | rfl | exact Rd.cells1 (by assumption) | exact Osl.cells1 (by assumption) | exact Osn.cells1 (by assumption)), trivial⟩ rfl) ?_
      refine WL.op rfl (OpK.build4 (os := [.tmp 51]) rfl T.sl27 rfl rfl T.zv67 rfl rfl (fun v9 g9 w9 hXw9 ho9 hge9 => ?_))
      have hl9 := Lo.new hB hge9
      have hd1_9 := Dj.new hb1.ltO hge9
      have hd2_9 := Dj.new hb2.ltO hge9
      have hd3_9 := Dj.new hb3.ltO hge9
      have hd7_9 := Dj.new ho7.ltO hge9
      have hk0_9 := OkN.new hU0 hge9
      have hg0_9 := OgR.new hU0.size hge9
      have hk1_9 := OkN.new hU1 hge9
      have hg1_9 := OgR.new hU1.size hge9
      have hB := hB.trans hXw9
      have hb1 := hb1.up hXw9
      have hb2 := hb2.up hXw9
      have hb3 := hb3.up hXw9
      have ho7 := ho7.up hXw9
      have hU0 := hU0.ext hXw9
      have hU1 := hU1.ext hXw9
      refine WL.op rfl (OpK.appendN (g := gR) rfl T.sl27 T.zv67 rfl rfl ho7 rfl (Osn.src ho9) (by first | (simp only [List.length_cons, List.length_nil]; omega) | (simp only [List.length_append, List.length_cons, List.length_nil]; omega)) (fun v10 og10 w10 hXw10 ho10 hap10 => ?_))
      have hl10 := Lo.app hl7 hB hap10
      have hd1_10 := Dj.app hd1_7 hb1.ltO hap10
      have hd2_10 := Dj.app hd2_7 hb2.ltO hap10
      have hd3_10 := Dj.app hd3_7 hb3.ltO hap10
      have hd9_10 := Dj.app (Dj.symm hd7_9) ho9.ltO hap10
      have hk0_10 := OkN.app hU0 hk0_7 hap10
      have hg0_10 := OgR.app hg0_7 hU0.size hap10
      have hk1_10 := OkN.app hU1 hk1_7 hap10
      have hg1_10 := OgR.app hg1_7 hU1.size hap10
      have hB := hB.updL hXw10 hl7
      have hb1 := hb1.updD hXw10 hd1_7
      have hb2 := hb2.updD hXw10 hd2_7
      have hb3 := hb3.updD hXw10 hd3_7
      have ho9 := ho9.updD hXw10 (Dj.symm hd7_9)
      have hU0 := hU0.step hXw10 hk0_7
      have hU1 := hU1.step hXw10 hk1_7
      refine WL.pure rfl rfl rfl ((by first | exact PV.fieldAddr T.fl29_2 rfl (by first | assumption | exact Bx.cells (by assumption)) | exact PV.fieldAddrP T.fl29_2 rfl rfl)) ?_
      first
        | refine WL.op rfl (OpK.storeB T.sz27 rfl rfl (by first | rfl | exact Osl.oneCell (by assumption) | exact Osn.oneCell (by assumption) | exact Rd.oneCell (by assumption) | assumption) hb3 rfl (fun w11 hXw11 hb3 => ?_))
        | refine WL.op rfl (OpK.storeB0 T.sz27 rfl rfl (by first | rfl | exact Osl.oneCell (by assumption) | exact Osn.oneCell (by assumption) | exact Rd.oneCell (by assumption) | assumption) hb3 (fun w11 hXw11 hb3 => ?_))
      have hB := hB.updL hXw11 hl3
      have hb1 := hb1.updD hXw11 hd1_3
      have hb2 := hb2.updD hXw11 hd2_3
      have ho9 := ho9.updD hXw11 (Dj.symm hd3_9)
      have ho10 := ho10.updD hXw11 (Dj.symm hd3_10)
      have hU0 := hU0.step hXw11 hk0_3
      have hU1 := hU1.step hXw11 hk1_3
      refine WL.nilS ?_
      refine CW.seq ?_
      refine CW.reg ?_
      refine WL.pure rfl rfl rfl ((by first | exact PV.fieldAddr T.fl44_3 rfl (by first | assumption | exact Bx.cells (by assumption)) | exact PV.fieldAddrP T.fl44_3 rfl rfl)) ?_
      refine WL.pure rfl rfl rfl ((by first | exact PV.load0 T.na39 rfl (by first | exact Cells.up (by assumption) hB | exact Bx.cells (by assumption) | assumption) (Ext.refl _) rfl | exact PV.load1 T.na39 rfl (by first | exact Cells.up (by assumption) hB | exact Bx.cells (by assumption) | assumption) (Ext.refl _) rfl)) ?_
      refine WL.pure rfl rfl rfl (PV.move rfl) ?_
      first
        | refine WL.at (x := .tmp 56) (y := .tmp 57) (E := EB) (false) rfl rfl (by assumption) (by omega) (fun p1 csp1 hpp1 hcp1 hq => ?_)
        | refine WL.atZ (x := .tmp 56) (y := .tmp 57) (E := EB) (false) rfl rfl (by assumption) (by omega) (fun p1 csp1 hpp1 hzp1 hcp1 hq => ?_)
      cases hq
      refine WL.pure rfl rfl rfl ((by first | exact PV.indexAddr hpp1 rfl rfl T.sl39 | exact PV.indexAddr hpp1 rfl (by rw [← hzp1]; rfl) T.sl39)) ?_
      refine WL.pure rfl rfl rfl ((by first | exact PV.load0 T.na4 rfl (by first | exact Cells.up (by assumption) hB | exact Bx.cells (by assumption) | assumption) (Ext.refl _) rfl | exact PV.load1 T.na4 rfl (by first | exact Cells.up (by assumption) hB | exact Bx.cells (by assumption) | assumption) (Ext.refl _) rfl)) ?_
      refine WL.nilS ?_
      refine CW.cond rfl (fun hc5 => ?_) (fun hc5 => ?_)
      · skip
        try simp only [decide_eq_true_eq, decide_eq_false_iff_not, Bool.not_eq_true', Bool.not_eq_false', Bool.not_eq_eq_eq_not, Bool.not_true, Bool.not_false, Int.not_lt, Int.not_le, Classical.not_not, beq_iff_eq, beq_eq_false_iff_ne] at hc5
        refine CW.reg ?_
        refine WL.pure rfl rfl rfl ((by first | exact PV.fieldAddr T.fl29_2 rfl (by first | assumption | exact Bx.cells (by assumption)) | exact PV.fieldAddrP T.fl29_2 rfl rfl)) ?_
        refine WL.pure rfl rfl rfl ((by first | exact PV.load0 T.na27 rfl (by first | exact Cells.up (by assumption) hB | exact Bx.cells (by assumption) | assumption) (Ext.refl _) rfl | exact PV.load1 T.na27 rfl (by first | exact Cells.up (by assumption) hB | exact Bx.cells (by assumption) | assumption) (Ext.refl _) rfl)) ?_
        refine WL.pure rfl rfl rfl (PV.move rfl) ?_
        refine WL.pure rfl rfl rfl (PV.move rfl) ?_
        refine WL.pure rfl rfl rfl (PV.build (ks := [0, 1, 2]) (os := [.tmp 62, .tmp 63, .const (.int .i64 (-1))]) (css := [[_], [_], [_]]) (ds := [_, _, _, _]) T.bu67 rfl rfl ⟨(by first | rfl | exact Rd.cells1 (by assumption) | exact Osl.cells1 (by assumption) | exact Osn.cells1 (by assumption)), (by first | rfl | exact Rd.cells1 (by assumption) | exact Osl.cells1 (by assumption) | exact Osn.cells1 (by assumption)), (by first | rfl | exact Rd.cells1 (by assumption) | exact Osl.cells1 (by assumption) | exact Osn.cells1 (by assumption)), trivial⟩ rfl) ?_
        refine WL.op rfl (OpK.build4 (os := [.tmp 64]) rfl T.sl27 rfl rfl T.zv67 rfl rfl (fun v11 g11 w12 hXw12 ho11 hge11 => ?_))
        have hl11 := Lo.new hB hge11
        have hd1_11 := Dj.new hb1.ltO hge11
        have hd2_11 := Dj.new hb2.ltO hge11
        have hd3_11 := Dj.new hb3.ltO hge11
        have hd9_11 := Dj.new ho9.ltO hge11
        have hd10_11 := Dj.new ho10.ltO hge11
        have hk0_11 := OkN.new hU0 hge11
        have hg0_11 := OgR.new hU0.size hge11
        have hk1_11 := OkN.new hU1 hge11
        have hg1_11 := OgR.new hU1.size hge11
        have hB := hB.trans hXw12
        have hb1 := hb1.up hXw12
        have hb2 := hb2.up hXw12
        have hb3 := hb3.up hXw12
        have ho9 := ho9.up hXw12
        have ho10 := ho10.up hXw12
        have hU0 := hU0.ext hXw12
        have hU1 := hU1.ext hXw12
        refine WL.op rfl (OpK.appendN (g := gR) rfl T.sl27 T.zv67 rfl rfl ho10 rfl (Osn.src ho11) (by first | (simp only [List.length_cons, List.length_nil]; omega) | (simp only [List.length_append, List.length_cons, List.length_nil]; omega)) (fun v12 og12 w13 hXw13 ho12 hap12 => ?_))
        have hl12 := Lo.app hl10 hB hap12
        have hd1_12 := Dj.app hd1_10 hb1.ltO hap12
        have hd2_12 := Dj.app hd2_10 hb2.ltO hap12
        have hd3_12 := Dj.app hd3_10 hb3.ltO hap12
        have hd9_12 := Dj.app hd9_10 ho9.ltO hap12
        have hd11_12 := Dj.app (Dj.symm hd10_11) ho11.ltO hap12
        have hk0_12 := OkN.app hU0 hk0_10 hap12
        have hg0_12 := OgR.app hg0_10 hU0.size hap12
        have hk1_12 := OkN.app hU1 hk1_10 hap12
        have hg1_12 := OgR.app hg1_10 hU1.size hap12
        have hB := hB.updL hXw13 hl10
        have hb1 := hb1.updD hXw13 hd1_10
        have hb2 := hb2.updD hXw13 hd2_10
        have hb3 := hb3.updD hXw13 hd3_10
        have ho9 := ho9.updD hXw13 hd9_10
        have ho11 := ho11.updD hXw13 (Dj.symm hd10_11)
        have hU0 := hU0.step hXw13 hk0_10
        have hU1 := hU1.step hXw13 hk1_10
        refine WL.pure rfl rfl rfl ((by first | exact PV.fieldAddr T.fl29_2 rfl (by first | assumption | exact Bx.cells (by assumption)) | exact PV.fieldAddrP T.fl29_2 rfl rfl)) ?_
        first
          | refine WL.op rfl (OpK.storeB T.sz27 rfl rfl (by first | rfl | exact Osl.oneCell (by assumption) | exact Osn.oneCell (by assumption) | exact Rd.oneCell (by assumption) | assumption) hb3 rfl (fun w14 hXw14 hb3 => ?_))
          | refine WL.op rfl (OpK.storeB0 T.sz27 rfl rfl (by first | rfl | exact Osl.oneCell (by assumption) | exact Osn.oneCell (by assumption) | exact Rd.oneCell (by assumption) | assumption) hb3 (fun w14 hXw14 hb3 => ?_))
        have hB := hB.updL hXw14 hl3
        have hb1 := hb1.updD hXw14 hd1_3
        have hb2 := hb2.updD hXw14 hd2_3
        have ho9 := ho9.updD hXw14 (Dj.symm hd3_9)
        have ho11 := ho11.updD hXw14 (Dj.symm hd3_11)
        have ho12 := ho12.updD hXw14 (Dj.symm hd3_12)
        have hU0 := hU0.step hXw14 hk0_3
        have hU1 := hU1.step hXw14 hk1_3
        refine WL.nil ?_
        refine NQ.block ?_
        refine NQ.then ?_
        refine CW.reg ?_
        refine WL.pure rfl rfl rfl (PV.add rfl rfl (by constructor <;> omega)) ?_
        refine WL.pure rfl rfl rfl (PV.move rfl) ?_
        refine WL.nil ?_
        refine NQ.next (ρ := [(36, _)]) ⟨rfl, rfl, rfl, rfl, rfl, rfl, rfl, rfl, trivial⟩ ?_
        exact ⟨_, ⟨v12, og12, k + 1, rfl, rfl, hU1, osnE ho12 (by first | exact rowG_two (by assumption) | exact rowG_none (by assumption)), (by first | exact hg1_12 | exact OgR.weak hg1_12), bxE hb3 (by first | rfl | (simp_all; done) | (simp_all; omega)), (by first | omega | assumption | (simp_all; done) | (simp_all; omega))⟩, by omega⟩
      try simp only [decide_eq_true_eq, decide_eq_false_iff_not, Bool.not_eq_true', Bool.not_eq_false', Bool.not_eq_eq_eq_not, Bool.not_true, Bool.not_false, Int.not_lt, Int.not_le, Classical.not_not, beq_iff_eq, beq_eq_false_iff_ne] at hc5
      refine CW.skip ?_
      refine NQ.block ?_
      refine NQ.then ?_
      refine CW.reg ?_
      refine WL.pure rfl rfl rfl (PV.add rfl rfl (by constructor <;> omega)) ?_
      refine WL.pure rfl rfl rfl (PV.move rfl) ?_
      refine WL.nil ?_
      refine NQ.next (ρ := [(36, _)]) ⟨rfl, rfl, rfl, rfl, rfl, rfl, rfl, rfl, trivial⟩ ?_
      exact ⟨_, ⟨v10, og10, k + 1, rfl, rfl, hU1, osnE ho10 (by first | exact rowG_two (by assumption) | exact rowG_none (by assumption)), (by first | exact hg1_10 | exact OgR.weak hg1_10), bxE hb3 (by first | rfl | (simp_all; done) | (simp_all; omega)), (by first | omega | assumption | (simp_all; done) | (simp_all; omega))⟩, by omega⟩
    try simp only [decide_eq_true_eq, decide_eq_false_iff_not, Bool.not_eq_true', Bool.not_eq_false', Bool.not_eq_eq_eq_not, Bool.not_true, Bool.not_false, Int.not_lt, Int.not_le, Classical.not_not, beq_iff_eq, beq_eq_false_iff_ne] at hc4
    refine CW.exit ?_
    refine XQ.then ?_
    refine XQ.then ?_
    refine XQ.here ?_
    refine NQ.block ?_
    refine NQ.then ?_
    refine CW.reg ?_
    refine WL.pure rfl rfl rfl (PV.add rfl rfl (by constructor <;> omega)) ?_
    refine WL.pure rfl rfl rfl (PV.move rfl) ?_
    refine WL.nil ?_
    refine NQ.next (ρ := [(31, _)]) ⟨rfl, rfl, rfl, rfl, rfl, trivial⟩ ?_
    exact ⟨_, ⟨v7, og7, i + 1, rfl, rfl, hU0, osnE ho7 (by exact bodyG_succ (by omega)), (by first | exact hg0_7 | exact OgR.weak hg0_7), bxE hb3 (by first | rfl | (simp_all; done) | (simp_all; omega)), (by first | omega | assumption | (simp_all; done) | (simp_all; omega))⟩, by omega⟩
  try simp only [decide_eq_true_eq, decide_eq_false_iff_not, Bool.not_eq_true', Bool.not_eq_false', Bool.not_eq_eq_eq_not, Bool.not_true, Bool.not_false, Int.not_lt, Int.not_le, Classical.not_not, beq_iff_eq, beq_eq_false_iff_ne] at hc3
  refine CW.exit ?_
  refine XQ.then ?_
  refine XQ.then ?_
  refine XQ.here ?_
  refine NQ.then ?_
  refine CW.seq ?_
  refine CW.seq ?_
  refine CW.reg ?_
  refine WL.pure rfl rfl rfl ((by first | exact PV.fieldAddr T.fl44_1 rfl (by first | assumption | exact Bx.cells (by assumption)) | exact PV.fieldAddrP T.fl44_1 rfl rfl)) ?_
  refine WL.pure rfl rfl rfl ((by first | exact PV.load0 T.na2 rfl (by first | exact Cells.up (by assumption) hB | exact Bx.cells (by assumption) | assumption) (Ext.refl _) rfl | exact PV.load1 T.na2 rfl (by first | exact Cells.up (by assumption) hB | exact Bx.cells (by assumption) | assumption) (Ext.refl _) rfl)) ?_
  refine WL.pure rfl rfl rfl (PV.move rfl) ?_
  refine WL.nilS ?_
  refine CW.block ?_
  have hlt1 := hb1.ltO
  have hlt2 := hb2.ltO
  have hlt3 := hb3.ltO
  have hlt5 := ho5.ltO
  refine CW.loop (σk := [(1, _), (2, _), (4, _), (71, _)]) (fun ρ wz m => ∃ (v13 : Value) (og13 : Option Nat) (k : Nat), ρ = [(72, .int .i64 (k : Nat))] ∧ m = a1.toNat - k ∧ UpdL [og5, (some b3.block)] wl1 wz ∧ Osn 4 gR wz og13 v13 (bodyG a0 a1 xa2 xa3 a0.toNat ++ tailG a0 k) ∧ OgR wl1 og5 og13 ∧ Bx wz b3 [.int .i64 (a0 + a1), .int .i64 a1, v13] ∧ ((k : Int) ≤ a1)) (ρ₀ := [(72, _)]) (m₀ := _) ⟨rfl, rfl, rfl, rfl, rfl, trivial⟩ ⟨v5, og5, 0, rfl, rfl, (UpdL.refl _ _), osnE ho5 (by rw [show i = a0.toNat from (by omega)]; exact tailG_zero _ _), OgR.refl _ _, bxE hb3 (by first | rfl | (simp_all; done) | (simp_all; omega)), (by first | omega | rfl | (simp; done) | assumption | (simp_all; done))⟩ ?_
  rintro _ wl3 _ ⟨v13, og13, k, rfl, rfl, hU2, ho13, ha13, hb3, hk⟩
  have hb1 := hb1.loop hU2 ⟨hd1_5, hd1_3, trivial⟩
  have hb2 := hb2.loop hU2 ⟨hd2_5, hd2_3, trivial⟩
  have hl13 := Lo.ogr hl5 hB ha13
  have hg2_13 := ha13
  have hk2_13 : OkB [og5, (some b3.block)] wl1 og13 := OkB.ogr (OkB.mem (by simp)) (Nat.le_refl _) ha13
  have hd1_13 := Dj.ogr hd1_5 hlt1 ha13
  have hd2_13 := Dj.ogr hd2_5 hlt2 ha13
  have hd3_13 := Dj.ogr hd3_5 hlt3 ha13
  have hk2_3 : OkB [og5, (some b3.block)] wl1 (some b3.block) := OkB.mem (by simp)
  have hB := hB.loop hU2 ⟨hl5, hl3, trivial⟩
  have hbl2 := bodyG_len (s := a0) (l := a1) (nx := xa2) (en := xa3) (by omega) a0.toNat; have htl := tailG_len a0 k
  refine CW.seq ?_
  refine CW.reg ?_
  refine WL.pure rfl rfl rfl (PV.lss rfl rfl) ?_
  refine WL.nilS ?_
  refine CW.seq ?_
  refine CW.cond rfl (fun hc6 => ?_) (fun hc6 => ?_)
  · skip
    try simp only [decide_eq_true_eq, decide_eq_false_iff_not, Bool.not_eq_true', Bool.not_eq_false', Bool.not_eq_eq_eq_not, Bool.not_true, Bool.not_false, Int.not_lt, Int.not_le, Classical.not_not, beq_iff_eq, beq_eq_false_iff_ne] at hc6
    refine CW.skipS ?_
    refine CW.seq ?_
    refine CW.block ?_
    refine CW.seq ?_
    refine CW.reg ?_
    refine WL.pure rfl rfl rfl (PV.move rfl) ?_
    refine WL.pure rfl rfl rfl (PV.assign rfl) ?_
    refine WL.nilS ?_
    refine CW.reg ?_
    refine WL.pure rfl rfl rfl ((by first | exact PV.fieldAddr T.fl29_2 rfl (by first | assumption | exact Bx.cells (by assumption)) | exact PV.fieldAddrP T.fl29_2 rfl rfl)) ?_
    refine WL.pure rfl rfl rfl ((by first | exact PV.load0 T.na27 rfl (by first | exact Cells.up (by assumption) hB | exact Bx.cells (by assumption) | assumption) (Ext.refl _) rfl | exact PV.load1 T.na27 rfl (by first | exact Cells.up (by assumption) hB | exact Bx.cells (by assumption) | assumption) (Ext.refl _) rfl)) ?_
    refine WL.pure rfl rfl rfl ((by first | exact PV.fieldAddr T.fl44_0 rfl (by first | assumption | exact Bx.cells (by assumption)) | exact PV.fieldAddrP T.fl44_0 rfl rfl)) ?_
    refine WL.pure rfl rfl rfl ((by first | exact PV.load0 T.na2 rfl (by first | exact Cells.up (by assumption) hB | exact Bx.cells (by assumption) | assumption) (Ext.refl _) rfl | exact PV.load1 T.na2 rfl (by first | exact Cells.up (by assumption) hB | exact Bx.cells (by assumption) | assumption) (Ext.refl _) rfl)) ?_
    refine WL.pure rfl rfl rfl (PV.move rfl) ?_
    refine WL.pure rfl rfl rfl (PV.add rfl rfl (by constructor <;> omega)) ?_
    refine WL.pure rfl rfl rfl (PV.move rfl) ?_
    refine WL.pure rfl rfl rfl (PV.build (ks := [0, 1, 2]) (os := [.tmp 80, .tmp 81, .const (.int .i64 (-1))]) (css := [[_], [_], [_]]) (ds := [_, _, _, _]) T.bu67 rfl rfl ⟨(by first | rfl | exact Rd.cells1 (by assumption) | exact Osl.cells1 (by assumption) | exact Osn.cells1 (by assumption)), (by first | rfl | exact Rd.cells1 (by assumption) | exact Osl.cells1 (by assumption) | exact Osn.cells1 (by assumption)), (by first | rfl | exact Rd.cells1 (by assumption) | exact Osl.cells1 (by assumption) | exact Osn.cells1 (by assumption)), trivial⟩ rfl) ?_
    refine WL.op rfl (OpK.build4 (os := [.tmp 82]) rfl T.sl27 rfl rfl T.zv67 rfl rfl (fun v15 g15 w15 hXw15 ho15 hge15 => ?_))
    have hl15 := Lo.new hB hge15
    have hd1_15 := Dj.new hb1.ltO hge15
    have hd2_15 := Dj.new hb2.ltO hge15
    have hd3_15 := Dj.new hb3.ltO hge15
    have hd13_15 := Dj.new ho13.ltO hge15
    have hk2_15 := OkN.new hU2 hge15
    have hg2_15 := OgR.new hU2.size hge15
    have hB := hB.trans hXw15
    have hb1 := hb1.up hXw15
    have hb2 := hb2.up hXw15
    have hb3 := hb3.up hXw15
    have ho13 := ho13.up hXw15
    have hU2 := hU2.ext hXw15
    refine WL.op rfl (OpK.appendN (g := gR) rfl T.sl27 T.zv67 rfl rfl ho13 rfl (Osn.src ho15) (by first | (simp only [List.length_cons, List.length_nil]; omega) | (simp only [List.length_append, List.length_cons, List.length_nil]; omega)) (fun v16 og16 w16 hXw16 ho16 hap16 => ?_))
    have hl16 := Lo.app hl13 hB hap16
    have hd1_16 := Dj.app hd1_13 hb1.ltO hap16
    have hd2_16 := Dj.app hd2_13 hb2.ltO hap16
    have hd3_16 := Dj.app hd3_13 hb3.ltO hap16
    have hd15_16 := Dj.app (Dj.symm hd13_15) ho15.ltO hap16
    have hk2_16 := OkN.app hU2 hk2_13 hap16
    have hg2_16 := OgR.app hg2_13 hU2.size hap16
    have hB := hB.updL hXw16 hl13
    have hb1 := hb1.updD hXw16 hd1_13
    have hb2 := hb2.updD hXw16 hd2_13
    have hb3 := hb3.updD hXw16 hd3_13
    have ho15 := ho15.updD hXw16 (Dj.symm hd13_15)
    have hU2 := hU2.step hXw16 hk2_13
    refine WL.pure rfl rfl rfl ((by first | exact PV.fieldAddr T.fl29_2 rfl (by first | assumption | exact Bx.cells (by assumption)) | exact PV.fieldAddrP T.fl29_2 rfl rfl)) ?_
    first
      | refine WL.op rfl (OpK.storeB T.sz27 rfl rfl (by first | rfl | exact Osl.oneCell (by assumption) | exact Osn.oneCell (by assumption) | exact Rd.oneCell (by assumption) | assumption) hb3 rfl (fun w17 hXw17 hb3 => ?_))
      | refine WL.op rfl (OpK.storeB0 T.sz27 rfl rfl (by first | rfl | exact Osl.oneCell (by assumption) | exact Osn.oneCell (by assumption) | exact Rd.oneCell (by assumption) | assumption) hb3 (fun w17 hXw17 hb3 => ?_))
    have hB := hB.updL hXw17 hl3
    have hb1 := hb1.updD hXw17 hd1_3
    have hb2 := hb2.updD hXw17 hd2_3
    have ho15 := ho15.updD hXw17 (Dj.symm hd3_15)
    have ho16 := ho16.updD hXw17 (Dj.symm hd3_16)
    have hU2 := hU2.step hXw17 hk2_3
    refine WL.nil ?_
    refine NQ.block ?_
    refine NQ.then ?_
    refine CW.reg ?_
    refine WL.pure rfl rfl rfl (PV.add rfl rfl (by constructor <;> omega)) ?_
    refine WL.pure rfl rfl rfl (PV.move rfl) ?_
    refine WL.nil ?_
    refine NQ.next (ρ := [(72, _)]) ⟨rfl, rfl, rfl, rfl, rfl, trivial⟩ ?_
    exact ⟨_, ⟨v16, og16, k + 1, rfl, rfl, hU2, osnE ho16 (by exact tailG_put _ _ _), (by first | exact hg2_16 | exact OgR.weak hg2_16), bxE hb3 (by first | rfl | (simp_all; done) | (simp_all; omega)), (by first | omega | assumption | (simp_all; done) | (simp_all; omega))⟩, by omega⟩
  try simp only [decide_eq_true_eq, decide_eq_false_iff_not, Bool.not_eq_true', Bool.not_eq_false', Bool.not_eq_eq_eq_not, Bool.not_true, Bool.not_false, Int.not_lt, Int.not_le, Classical.not_not, beq_iff_eq, beq_eq_false_iff_ne] at hc6
  refine CW.exit ?_
  refine XQ.then ?_
  refine XQ.then ?_
  refine XQ.here ?_
  refine NQ.then ?_
  refine CW.seq ?_
  refine CW.reg ?_
  obtain rfl : k = a1.toNat := (by omega)
  refine WL.pure rfl rfl rfl ((by first | exact PV.loadA T.ag29 rfl (by first | exact Cells.up (by assumption) hB | exact Bx.cells (by assumption) | assumption) (Ext.refl _) rfl | exact PV.loadP (ds := [_, _, _]) T.ag29 rfl (by first | exact Cells.up (by assumption) hB | exact Bx.cells (by assumption) | assumption) (Ext.refl _) rfl rfl)) ?_
  refine WL.op rfl (OpK.call rfl T.cf63 rfl (c_impl_validGrammar (by first | assumption | exact Rd.up (by assumption) hB | exact Osl.rd (by assumption) | exact Osn.rdR (by assumption))) (fun rv1 w18 hR => ?_))
  rcases hR with ⟨hXw18, ⟨hal, rfl⟩ | ⟨hal, rfl⟩⟩
  · skip
    have hB := hB.trans hXw18
    have hb1 := hb1.up hXw18
    have hb2 := hb2.up hXw18
    have hb3 := hb3.up hXw18
    have ho13 := ho13.up hXw18
    refine WL.pure rfl rfl rfl (PV.extract rfl rfl) ?_
    refine WL.pure rfl rfl rfl (PV.extract rfl rfl) ?_
    refine WL.op rfl (OpK.storeA T.sz29 rfl rfl rfl rfl (by simp [Value.oneCell'] <;> first | done | (repeat' apply And.intro) <;> first | rfl | exact Osl.oneCell (by assumption) | exact Osn.oneCell (by assumption) | exact Rd.oneCell (by assumption) | assumption) hb2 (fun w19 hXw19 hb2 => ?_))
    have hB := hB.updL hXw19 hl2
    have hb1 := hb1.updD hXw19 hd1_2
    have hb3 := hb3.updD hXw19 (Dj.symm hd2_3)
    have ho13 := ho13.updD hXw19 (Dj.symm hd2_13)
    refine WL.pure rfl rfl rfl (PV.assign rfl) ?_
    refine WL.nilS ?_
    refine CW.ret ?_
    refine RQ.rc1 T.ag29 rfl (by first | exact Cells.up (by assumption) hB | exact Bx.cells (by assumption) | assumption) rfl rfl ?_
    refine ⟨hB, v13, og13, ?_, osnE ho13 ?_, hl13⟩
    · skip
      first | (exact tE2 (by rw [onI_no (by first | exact okG_no1 (by assumption) | exact okG_no2 (by omega) | exact okG_no3 (by unfold allG; assumption)), onI_no (by first | exact okG_no1 (by assumption) | exact okG_no2 (by omega) | exact okG_no3 (by unfold allG; assumption))]) (bE (Bool.eq_false_iff.2 (by first | exact okG_no1 (by assumption) | exact okG_no2 (by omega) | exact okG_no3 (by unfold allG; assumption))).symm)) | (exact tE2 (by rw [onI_yes (okG_yes (by assumption) (by omega) (by unfold allG; assumption)), onI_yes (okG_yes (by assumption) (by omega) (by unfold allG; assumption))]; rfl) (bE (okG_yes (by assumption) (by omega) (by unfold allG; assumption)).symm)) | (exact tE2 (by rw [onI_yes (okG_yes (by assumption) (by omega) (by unfold allG; assumption)), onI_yes (okG_yes (by assumption) (by omega) (by unfold allG; assumption))]) (bE (okG_yes (by assumption) (by omega) (by unfold allG; assumption)).symm))
    · skip
      first | (rw [onT_no (by first | exact okG_no1 (by assumption) | exact okG_no2 (by omega) | exact okG_no3 (by unfold allG; assumption))]; done) | (rw [onT_yes (okG_yes (by assumption) (by omega) (by unfold allG; assumption))]; rfl)
  · skip
    have hB := hB.trans hXw18
    have hb1 := hb1.up hXw18
    have hb2 := hb2.up hXw18
    have hb3 := hb3.up hXw18
    have ho13 := ho13.up hXw18
    refine WL.pure rfl rfl rfl (PV.extract rfl rfl) ?_
    refine WL.pure rfl rfl rfl (PV.extract rfl rfl) ?_
    refine WL.op rfl (OpK.storeA T.sz29 rfl rfl rfl rfl (by simp [Value.oneCell'] <;> first | done | (repeat' apply And.intro) <;> first | rfl | exact Osl.oneCell (by assumption) | exact Osn.oneCell (by assumption) | exact Rd.oneCell (by assumption) | assumption) hb2 (fun w20 hXw20 hb2 => ?_))
    have hB := hB.updL hXw20 hl2
    have hb1 := hb1.updD hXw20 hd1_2
    have hb3 := hb3.updD hXw20 (Dj.symm hd2_3)
    have ho13 := ho13.updD hXw20 (Dj.symm hd2_13)
    refine WL.pure rfl rfl rfl (PV.assign rfl) ?_
    refine WL.nilS ?_
    refine CW.ret ?_
    refine RQ.rc1 T.ag29 rfl (by first | exact Cells.up (by assumption) hB | exact Bx.cells (by assumption) | assumption) rfl rfl ?_
    refine ⟨hB, (.slice none 0 0), none, ?_, osnE (Osn.nil gR_ok _) ?_, Lo.nl _⟩
    · skip
      first | (exact tE2 (by rw [onI_no (by first | exact okG_no1 (by assumption) | exact okG_no2 (by omega) | exact okG_no3 (by unfold allG; assumption)), onI_no (by first | exact okG_no1 (by assumption) | exact okG_no2 (by omega) | exact okG_no3 (by unfold allG; assumption))]) (bE (Bool.eq_false_iff.2 (by first | exact okG_no1 (by assumption) | exact okG_no2 (by omega) | exact okG_no3 (by unfold allG; assumption))).symm)) | (exact tE2 (by rw [onI_yes (okG_yes (by assumption) (by omega) (by unfold allG; assumption)), onI_yes (okG_yes (by assumption) (by omega) (by unfold allG; assumption))]; rfl) (bE (okG_yes (by assumption) (by omega) (by unfold allG; assumption)).symm)) | (exact tE2 (by rw [onI_yes (okG_yes (by assumption) (by omega) (by unfold allG; assumption)), onI_yes (okG_yes (by assumption) (by omega) (by unfold allG; assumption))]) (bE (okG_yes (by assumption) (by omega) (by unfold allG; assumption)).symm))
    · skip
      first | (rw [onT_no (by first | exact okG_no1 (by assumption) | exact okG_no2 (by omega) | exact okG_no3 (by unfold allG; assumption))]; done) | (rw [onT_yes (okG_yes (by assumption) (by omega) (by unfold allG; assumption))]; rfl)
theorem c_laws_eqRule {w : World} {a0 a1 a2 a3 b0 b1 b2 b3 : Int} : Calls Try.prog 88 #[.agg #[.int .i64 a0, .int .i64 a1, .int .i64 a2, .int .i64 a3], .agg #[.int .i64 b0, .int .i64 b1, .int .i64 b2, .int .i64 b3]] w (Ret1 (RQt (.bool (decide (a0 = b0 ∧ a1 = b1 ∧ a2 = b2 ∧ a3 = b3))) w)) := by
  have hB : Ext w w := Ext.refl w
  refine callsOf (vs := [_, _]) Try.func88 rfl Try.ntmps88 rfl rfl ?_
  refine CW.seq ?_
  refine CW.reg ?_
  refine WL.op rfl (OpK.box rfl rfl (by first | rfl | exact Rd.cells1 (by assumption) | exact Osl.cells1 (by assumption) | exact Osn.cells1 (by assumption)) (fun b1 w1 hXw1 hb1 hge1 => ?_))
  have hl1 := Lo.new hB hge1
  have hB := hB.trans hXw1
  refine WL.op rfl (OpK.box rfl rfl (by first | rfl | exact Rd.cells1 (by assumption) | exact Osl.cells1 (by assumption) | exact Osn.cells1 (by assumption)) (fun b2 w2 hXw2 hb2 hge2 => ?_))
  have hl2 := Lo.new hB hge2
  have hd1_2 := Dj.new hb1.ltO hge2
  have hB := hB.trans hXw2
  have hb1 := hb1.up hXw2
  refine WL.pure rfl rfl rfl (PV.assign rfl) ?_
  refine WL.nilS ?_
  refine CW.seq ?_
  refine CW.seq ?_
  refine CW.reg ?_
  refine WL.pure rfl rfl rfl ((by first | exact PV.fieldAddr T.fl67_0 rfl (by first | assumption | exact Bx.cells (by assumption)) | exact PV.fieldAddrP T.fl67_0 rfl rfl)) ?_
  refine WL.pure rfl rfl rfl ((by first | exact PV.load0 T.na2 rfl (by first | exact Cells.up (by assumption) hB | exact Bx.cells (by assumption) | assumption) (Ext.refl _) rfl | exact PV.load1 T.na2 rfl (by first | exact Cells.up (by assumption) hB | exact Bx.cells (by assumption) | assumption) (Ext.refl _) rfl)) ?_
  refine WL.pure rfl rfl rfl ((by first | exact PV.fieldAddr T.fl67_0 rfl (by first | assumption | exact Bx.cells (by assumption)) | exact PV.fieldAddrP T.fl67_0 rfl rfl)) ?_
  refine WL.pure rfl rfl rfl ((by first | exact PV.load0 T.na2 rfl (by first | exact Cells.up (by assumption) hB | exact Bx.cells (by assumption) | assumption) (Ext.refl _) rfl | exact PV.load1 T.na2 rfl (by first | exact Cells.up (by assumption) hB | exact Bx.cells (by assumption) | assumption) (Ext.refl _) rfl)) ?_
  refine WL.pure rfl rfl rfl (PV.neq rfl rfl) ?_
  refine WL.nilS ?_
  refine CW.cond rfl (fun hc1 => ?_) (fun hc1 => ?_)
  · skip
    try simp only [decide_eq_true_eq, decide_eq_false_iff_not, Bool.not_eq_true', Bool.not_eq_false', Bool.not_eq_eq_eq_not, Bool.not_true, Bool.not_false, Int.not_lt, Int.not_le, Classical.not_not, beq_iff_eq, beq_eq_false_iff_ne] at hc1
    refine CW.seq ?_
    refine CW.reg ?_
    refine WL.pure rfl rfl rfl (PV.assign rfl) ?_
    refine WL.nilS ?_
    refine CW.ret ?_
    refine RQ.then ?_
    refine RQ.r1 rfl ?_
    refine ⟨?_, hB⟩
    first | rfl | exact bT (by omega) | exact bF (by omega) | exact bD (by omega) | exact iE (by omega) | (simp_all; done) | (simp_all; omega) | (simp_all; intros; omega)
  try simp only [decide_eq_true_eq, decide_eq_false_iff_not, Bool.not_eq_true', Bool.not_eq_false', Bool.not_eq_eq_eq_not, Bool.not_true, Bool.not_false, Int.not_lt, Int.not_le, Classical.not_not, beq_iff_eq, beq_eq_false_iff_ne] at hc1
  refine CW.skipS ?_
  refine CW.seq ?_
  refine CW.seq ?_
  refine CW.reg ?_
  refine WL.pure rfl rfl rfl ((by first | exact PV.fieldAddr T.fl67_1 rfl (by first | assumption | exact Bx.cells (by assumption)) | exact PV.fieldAddrP T.fl67_1 rfl rfl)) ?_
  refine WL.pure rfl rfl rfl ((by first | exact PV.load0 T.na2 rfl (by first | exact Cells.up (by assumption) hB | exact Bx.cells (by assumption) | assumption) (Ext.refl _) rfl | exact PV.load1 T.na2 rfl (by first | exact Cells.up (by assumption) hB | exact Bx.cells (by assumption) | assumption) (Ext.refl _) rfl)) ?_
  refine WL.pure rfl rfl rfl ((by first | exact PV.fieldAddr T.fl67_1 rfl (by first | assumption | exact Bx.cells (by assumption)) | exact PV.fieldAddrP T.fl67_1 rfl rfl)) ?_
  refine WL.pure rfl rfl rfl ((by first | exact PV.load0 T.na2 rfl (by first | exact Cells.up (by assumption) hB | exact Bx.cells (by assumption) | assumption) (Ext.refl _) rfl | exact PV.load1 T.na2 rfl (by first | exact Cells.up (by assumption) hB | exact Bx.cells (by assumption) | assumption) (Ext.refl _) rfl)) ?_
  refine WL.pure rfl rfl rfl (PV.neq rfl rfl) ?_
  refine WL.nilS ?_
  refine CW.cond rfl (fun hc2 => ?_) (fun hc2 => ?_)
  · skip
    try simp only [decide_eq_true_eq, decide_eq_false_iff_not, Bool.not_eq_true', Bool.not_eq_false', Bool.not_eq_eq_eq_not, Bool.not_true, Bool.not_false, Int.not_lt, Int.not_le, Classical.not_not, beq_iff_eq, beq_eq_false_iff_ne] at hc2
    refine CW.seq ?_
    refine CW.reg ?_
    refine WL.pure rfl rfl rfl (PV.assign rfl) ?_
    refine WL.nilS ?_
    refine CW.ret ?_
    refine RQ.then ?_
    refine RQ.r1 rfl ?_
    refine ⟨?_, hB⟩
    first | rfl | exact bT (by omega) | exact bF (by omega) | exact bD (by omega) | exact iE (by omega) | (simp_all; done) | (simp_all; omega) | (simp_all; intros; omega)
  try simp only [decide_eq_true_eq, decide_eq_false_iff_not, Bool.not_eq_true', Bool.not_eq_false', Bool.not_eq_eq_eq_not, Bool.not_true, Bool.not_false, Int.not_lt, Int.not_le, Classical.not_not, beq_iff_eq, beq_eq_false_iff_ne] at hc2
  refine CW.skipS ?_
  refine CW.seq ?_
  refine CW.seq ?_
  refine CW.reg ?_
  refine WL.pure rfl rfl rfl ((by first | exact PV.fieldAddr T.fl67_2 rfl (by first | assumption | exact Bx.cells (by assumption)) | exact PV.fieldAddrP T.fl67_2 rfl rfl)) ?_
  refine WL.pure rfl rfl rfl ((by first | exact PV.load0 T.na2 rfl (by first | exact Cells.up (by assumption) hB | exact Bx.cells (by assumption) | assumption) (Ext.refl _) rfl | exact PV.load1 T.na2 rfl (by first | exact Cells.up (by assumption) hB | exact Bx.cells (by assumption) | assumption) (Ext.refl _) rfl)) ?_
  refine WL.pure rfl rfl rfl ((by first | exact PV.fieldAddr T.fl67_2 rfl (by first | assumption | exact Bx.cells (by assumption)) | exact PV.fieldAddrP T.fl67_2 rfl rfl)) ?_
  refine WL.pure rfl rfl rfl ((by first | exact PV.load0 T.na2 rfl (by first | exact Cells.up (by assumption) hB | exact Bx.cells (by assumption) | assumption) (Ext.refl _) rfl | exact PV.load1 T.na2 rfl (by first | exact Cells.up (by assumption) hB | exact Bx.cells (by assumption) | assumption) (Ext.refl _) rfl)) ?_
  refine WL.pure rfl rfl rfl (PV.neq rfl rfl) ?_
  refine WL.nilS ?_
  refine CW.cond rfl (fun hc3 => ?_) (fun hc3 => ?_)
  · skip
    try simp only [decide_eq_true_eq, decide_eq_false_iff_not, Bool.not_eq_true', Bool.not_eq_false', Bool.not_eq_eq_eq_not, Bool.not_true, Bool.not_false, Int.not_lt, Int.not_le, Classical.not_not, beq_iff_eq, beq_eq_false_iff_ne] at hc3
    refine CW.seq ?_
    refine CW.reg ?_
    refine WL.pure rfl rfl rfl (PV.assign rfl) ?_
    refine WL.nilS ?_
    refine CW.ret ?_
    refine RQ.then ?_
    refine RQ.r1 rfl ?_
    refine ⟨?_, hB⟩
    first | rfl | exact bT (by omega) | exact bF (by omega) | exact bD (by omega) | exact iE (by omega) | (simp_all; done) | (simp_all; omega) | (simp_all; intros; omega)
  try simp only [decide_eq_true_eq, decide_eq_false_iff_not, Bool.not_eq_true', Bool.not_eq_false', Bool.not_eq_eq_eq_not, Bool.not_true, Bool.not_false, Int.not_lt, Int.not_le, Classical.not_not, beq_iff_eq, beq_eq_false_iff_ne] at hc3
  refine CW.skipS ?_
  refine CW.seq ?_
  refine CW.seq ?_
  refine CW.reg ?_
  refine WL.pure rfl rfl rfl ((by first | exact PV.fieldAddr T.fl67_3 rfl (by first | assumption | exact Bx.cells (by assumption)) | exact PV.fieldAddrP T.fl67_3 rfl rfl)) ?_
  refine WL.pure rfl rfl rfl ((by first | exact PV.load0 T.na2 rfl (by first | exact Cells.up (by assumption) hB | exact Bx.cells (by assumption) | assumption) (Ext.refl _) rfl | exact PV.load1 T.na2 rfl (by first | exact Cells.up (by assumption) hB | exact Bx.cells (by assumption) | assumption) (Ext.refl _) rfl)) ?_
  refine WL.pure rfl rfl rfl ((by first | exact PV.fieldAddr T.fl67_3 rfl (by first | assumption | exact Bx.cells (by assumption)) | exact PV.fieldAddrP T.fl67_3 rfl rfl)) ?_
  refine WL.pure rfl rfl rfl ((by first | exact PV.load0 T.na2 rfl (by first | exact Cells.up (by assumption) hB | exact Bx.cells (by assumption) | assumption) (Ext.refl _) rfl | exact PV.load1 T.na2 rfl (by first | exact Cells.up (by assumption) hB | exact Bx.cells (by assumption) | assumption) (Ext.refl _) rfl)) ?_
  refine WL.pure rfl rfl rfl (PV.neq rfl rfl) ?_
  refine WL.nilS ?_
  refine CW.cond rfl (fun hc4 => ?_) (fun hc4 => ?_)
  · skip
    try simp only [decide_eq_true_eq, decide_eq_false_iff_not, Bool.not_eq_true', Bool.not_eq_false', Bool.not_eq_eq_eq_not, Bool.not_true, Bool.not_false, Int.not_lt, Int.not_le, Classical.not_not, beq_iff_eq, beq_eq_false_iff_ne] at hc4
    refine CW.seq ?_
    refine CW.reg ?_
    refine WL.pure rfl rfl rfl (PV.assign rfl) ?_
    refine WL.nilS ?_
    refine CW.ret ?_
    refine RQ.then ?_
    refine RQ.r1 rfl ?_
    refine ⟨?_, hB⟩
    first | rfl | exact bT (by omega) | exact bF (by omega) | exact bD (by omega) | exact iE (by omega) | (simp_all; done) | (simp_all; omega) | (simp_all; intros; omega)
  try simp only [decide_eq_true_eq, decide_eq_false_iff_not, Bool.not_eq_true', Bool.not_eq_false', Bool.not_eq_eq_eq_not, Bool.not_true, Bool.not_false, Int.not_lt, Int.not_le, Classical.not_not, beq_iff_eq, beq_eq_false_iff_ne] at hc4
  refine CW.skipS ?_
  refine CW.seq ?_
  refine CW.reg ?_
  refine WL.pure rfl rfl rfl (PV.assign rfl) ?_
  refine WL.nilS ?_
  refine CW.ret ?_
  refine RQ.r1 rfl ?_
  refine ⟨?_, hB⟩
  first | rfl | exact bT (by omega) | exact bF (by omega) | exact bD (by omega) | exact iE (by omega) | (simp_all; done) | (simp_all; omega) | (simp_all; intros; omega)
theorem c_laws_eqRuleS {w : World} {va vb : Value} {xs ys : List R4} (ha : Rd ER w va xs) (hb : Rd ER w vb ys) : Calls Try.prog 56 #[va, vb] w (Ret1 (RQt (.bool (decide (xs = ys))) w)) := by
  have hB : Ext w w := Ext.refl w
  have hla := ha.leI; have hlb := hb.leI
  refine callsOf (vs := [_, _]) Try.func56 rfl Try.ntmps56 rfl rfl ?_
  refine CW.seq ?_
  refine CW.reg ?_
  refine WL.pure rfl rfl rfl (PV.assign rfl) ?_
  refine WL.nilS ?_
  refine CW.seq ?_
  refine CW.seq ?_
  refine CW.reg ?_
  refine WL.pure rfl rfl rfl (PV.move rfl) ?_
  refine WL.pure rfl rfl rfl ((by first | exact PV.len rfl (by assumption) T.sl27 | exact PV.lenOs rfl (by assumption) T.sl27)) ?_
  refine WL.pure rfl rfl rfl (PV.move rfl) ?_
  refine WL.pure rfl rfl rfl ((by first | exact PV.len rfl (by assumption) T.sl27 | exact PV.lenOs rfl (by assumption) T.sl27)) ?_
  refine WL.pure rfl rfl rfl (PV.neq rfl rfl) ?_
  refine WL.nilS ?_
  refine CW.cond rfl (fun hc1 => ?_) (fun hc1 => ?_)
  · skip
    try simp only [decide_eq_true_eq, decide_eq_false_iff_not, Bool.not_eq_true', Bool.not_eq_false', Bool.not_eq_eq_eq_not, Bool.not_true, Bool.not_false, Int.not_lt, Int.not_le, Classical.not_not, beq_iff_eq, beq_eq_false_iff_ne] at hc1
    refine CW.seq ?_
    refine CW.reg ?_
    refine WL.pure rfl rfl rfl (PV.assign rfl) ?_
    refine WL.nilS ?_
    refine CW.ret ?_
    refine RQ.then ?_
    refine RQ.r1 rfl ?_
    refine ⟨?_, hB⟩
    first | exact bT (eq_of_takes (by omega) (by omega) he) | exact bF (by rintro rfl; first | omega | exact (r4_no (by assumption)).elim)
  try simp only [decide_eq_true_eq, decide_eq_false_iff_not, Bool.not_eq_true', Bool.not_eq_false', Bool.not_eq_eq_eq_not, Bool.not_true, Bool.not_false, Int.not_lt, Int.not_le, Classical.not_not, beq_iff_eq, beq_eq_false_iff_ne] at hc1
  refine CW.skipS ?_
  refine CW.seq ?_
  refine CW.seq ?_
  refine CW.reg ?_
  refine WL.pure rfl rfl rfl (PV.assign rfl) ?_
  refine WL.nilS ?_
  refine CW.block ?_
  refine CW.loop (σk := [(0, _), (1, _)]) (fun ρ wz m => ∃ (k : Nat), ρ = [(5, .int .i64 (k : Nat))] ∧ m = xs.length - k ∧ UpdL [] w wz ∧ (k ≤ xs.length) ∧ (xs.take k = ys.take k)) (ρ₀ := [(5, _)]) (m₀ := _) ⟨rfl, rfl, rfl, trivial⟩ ⟨0, rfl, rfl, (UpdL.refl _ _), (by first | omega | rfl | (simp; done) | assumption | (simp_all; done)), (by first | omega | rfl | (simp; done) | assumption | (simp_all; done))⟩ ?_
  rintro _ wl1 _ ⟨k, rfl, rfl, hU0, hk, he⟩
  have hB := hB.loop hU0 trivial
  refine CW.seq ?_
  refine CW.seq ?_
  refine CW.reg ?_
  refine WL.pure rfl rfl rfl (PV.move rfl) ?_
  refine WL.pure rfl rfl rfl (PV.move rfl) ?_
  refine WL.pure rfl rfl rfl ((by first | exact PV.len rfl (by assumption) T.sl27 | exact PV.lenOs rfl (by assumption) T.sl27)) ?_
  refine WL.pure rfl rfl rfl (PV.lss rfl rfl) ?_
  refine WL.nilS ?_
  refine CW.cond rfl (fun hc2 => ?_) (fun hc2 => ?_)
  · skip
    try simp only [decide_eq_true_eq, decide_eq_false_iff_not, Bool.not_eq_true', Bool.not_eq_false', Bool.not_eq_eq_eq_not, Bool.not_true, Bool.not_false, Int.not_lt, Int.not_le, Classical.not_not, beq_iff_eq, beq_eq_false_iff_ne] at hc2
    refine CW.skipS ?_
    refine CW.seq ?_
    refine CW.block ?_
    refine CW.seq ?_
    refine CW.draw T.mixed (by kernel_rfl) (fun _ _ _ _ _ h => h) (fun w8 w9 => Upd none w8 w9) 10 (.take 0 (.take 1 (.take 2 (.take 3 (.take 4 (.take 5 (.take 6 (.take 7 (.must 8 (.take 9 .done)))))))))) (by kernel_rfl) (fun w1 hXd => ?_)
    have hB := hB.trans hXd
    have hU0 := hU0.ext hXd
    have hBr := hB
    have hS : Upd none w1 w1 := Ext.toUpd (Ext.refl _)
    refine HP.take rfl rfl rfl rfl hS (fun wS hS1 => PV.move rfl) ?_
    refine HP.take rfl rfl rfl rfl hS (fun wS hS1 => PV.move rfl) ?_
    first
      | refine HP.at (x := .tmp 17) (y := .tmp 18) (E := ER) ((0, 0, 0, 0)) rfl rfl (by assumption) (by first | omega | (simp; omega) | (simp_all; omega)) (fun p1 csp1 hpp1 hcp1 hq => ?_)
      | refine HP.atZ (x := .tmp 17) (y := .tmp 18) (E := ER) ((0, 0, 0, 0)) rfl rfl (by assumption) (by first | omega | (simp; omega) | (simp_all; omega)) (fun p1 csp1 hpp1 hzp1 hcp1 hq => ?_)
    cases hq
    refine HP.take rfl rfl rfl rfl hS (fun wS hS1 => (by first | exact PV.indexAddr hpp1 rfl rfl T.sl27 | exact PV.indexAddr hpp1 rfl (by rw [← hzp1]; rfl) T.sl27)) ?_
    refine HP.take rfl rfl rfl rfl hS (fun wS hS1 => (by first | exact PV.loadA T.ag67 rfl (by first | exact Cells.up (by assumption) (hBr.trans hS1) | exact Bx.cells (Bx.updD (by assumption) hS1 (Dj.nlR _)) | exact Cells.upd (by assumption) hS1 (by simp)) (Ext.refl _) rfl | exact PV.loadP (ds := [_, _, _, _]) T.ag67 rfl (by first | exact Cells.up (by assumption) (hBr.trans hS1) | exact Bx.cells (Bx.updD (by assumption) hS1 (Dj.nlR _)) | exact Cells.upd (by assumption) hS1 (by simp)) (Ext.refl _) rfl rfl)) ?_
    refine HP.take rfl rfl rfl rfl hS (fun wS hS1 => PV.move rfl) ?_
    refine HP.take rfl rfl rfl rfl hS (fun wS hS1 => PV.move rfl) ?_
    first
      | refine HP.at (x := .tmp 21) (y := .tmp 22) (E := ER) ((0, 0, 0, 0)) rfl rfl (by assumption) (by first | omega | (simp; omega) | (simp_all; omega)) (fun p2 csp2 hpp2 hcp2 hq => ?_)
      | refine HP.atZ (x := .tmp 21) (y := .tmp 22) (E := ER) ((0, 0, 0, 0)) rfl rfl (by assumption) (by first | omega | (simp; omega) | (simp_all; omega)) (fun p2 csp2 hpp2 hzp2 hcp2 hq => ?_)
    cases hq
    refine HP.take rfl rfl rfl rfl hS (fun wS hS1 => (by first | exact PV.indexAddr hpp2 rfl rfl T.sl27 | exact PV.indexAddr hpp2 rfl (by rw [← hzp2]; rfl) T.sl27)) ?_
    refine HP.take rfl rfl rfl rfl hS (fun wS hS1 => (by first | exact PV.loadA T.ag67 rfl (by first | exact Cells.up (by assumption) (hBr.trans hS1) | exact Bx.cells (Bx.updD (by assumption) hS1 (Dj.nlR _)) | exact Cells.upd (by assumption) hS1 (by simp)) (Ext.refl _) rfl | exact PV.loadP (ds := [_, _, _, _]) T.ag67 rfl (by first | exact Cells.up (by assumption) (hBr.trans hS1) | exact Bx.cells (Bx.updD (by assumption) hS1 (Dj.nlR _)) | exact Cells.upd (by assumption) hS1 (by simp)) (Ext.refl _) rfl rfl)) ?_
    refine HP.must rfl rfl (OpK.callR rfl T.cf88 rfl (c_laws_eqRule) (fun w2 hXw2 => ?_))
    refine ⟨Upd.trans hS hXw2, ?_⟩
    have hS := Upd.trans hS hXw2
    have hB := hB.trans hXw2
    have hU0 := hU0.ext hXw2
    refine HP.take rfl rfl rfl rfl hS (fun wS hS1 => PV.not rfl) ?_
    refine HP.doneS ?_
    refine CW.cond rfl (fun hc3 => ?_) (fun hc3 => ?_)
    · skip
      try simp only [decide_eq_true_eq, decide_eq_false_iff_not, Bool.not_eq_true', Bool.not_eq_false', Bool.not_eq_eq_eq_not, Bool.not_true, Bool.not_false, Int.not_lt, Int.not_le, Classical.not_not, beq_iff_eq, beq_eq_false_iff_ne] at hc3
      refine CW.seq ?_
      refine CW.reg ?_
      refine WL.pure rfl rfl rfl (PV.assign rfl) ?_
      refine WL.nilS ?_
      refine CW.ret ?_
      refine RQ.block ?_
      refine RQ.then ?_
      refine RQ.then ?_
      refine RQ.block ?_
      refine RQ.then ?_
      refine RQ.r1 rfl ?_
      refine ⟨?_, hB⟩
      first | exact bT (eq_of_takes (by omega) (by omega) he) | exact bF (by rintro rfl; first | omega | exact (r4_no (by assumption)).elim)
    try simp only [decide_eq_true_eq, decide_eq_false_iff_not, Bool.not_eq_true', Bool.not_eq_false', Bool.not_eq_eq_eq_not, Bool.not_true, Bool.not_false, Int.not_lt, Int.not_le, Classical.not_not, beq_iff_eq, beq_eq_false_iff_ne] at hc3
    refine CW.skip ?_
    refine NQ.block ?_
    refine NQ.then ?_
    refine CW.reg ?_
    refine WL.pure rfl rfl rfl (PV.move rfl) ?_
    refine WL.pure rfl rfl rfl (PV.add rfl rfl (by constructor <;> omega)) ?_
    refine WL.pure rfl rfl rfl (PV.assign rfl) ?_
    refine WL.nil ?_
    refine NQ.next (ρ := [(5, _)]) ⟨rfl, rfl, rfl, trivial⟩ ?_
    exact ⟨_, ⟨k + 1, rfl, rfl, hU0, (by first | omega | assumption | (simp_all; done) | (simp_all; omega)), (by exact take_eq_succ (by omega) (by omega) he (r4_ext (by assumption)))⟩, by omega⟩
  try simp only [decide_eq_true_eq, decide_eq_false_iff_not, Bool.not_eq_true', Bool.not_eq_false', Bool.not_eq_eq_eq_not, Bool.not_true, Bool.not_false, Int.not_lt, Int.not_le, Classical.not_not, beq_iff_eq, beq_eq_false_iff_ne] at hc2
  refine CW.exit ?_
  refine XQ.then ?_
  refine XQ.then ?_
  refine XQ.here ?_
  refine NQ.then ?_
  refine CW.seq ?_
  refine CW.reg ?_
  refine WL.pure rfl rfl rfl (PV.assign rfl) ?_
  refine WL.nilS ?_
  refine CW.ret ?_
  refine RQ.r1 rfl ?_
  refine ⟨?_, hB⟩
  first | exact bT (eq_of_takes (by omega) (by omega) he) | exact bF (by rintro rfl; first | omega | exact (r4_no (by assumption)).elim)
theorem c_laws_eqGrammar {w : World} {a0 : Int} {a1 : Int} {va2 : Value} {xa2 : List R4} {b0 : Int} {b1 : Int} {vb2 : Value} {xb2 : List R4}  (ha2 : Rd ER w va2 xa2) (hb2 : Rd ER w vb2 xb2) : Calls Try.prog 19 #[.agg #[.int .i64 a0, .int .i64 a1, va2], .agg #[.int .i64 b0, .int .i64 b1, vb2]] w (Ret1 (RQt (.bool (decide (a0 = b0 ∧ a1 = b1 ∧ xa2 = xb2))) w)) := by
  have hB : Ext w w := Ext.refl w
  have hla2 := ha2.leI; have hlb2 := hb2.leI
  refine callsOf (vs := [_, _]) Try.func19 rfl Try.ntmps19 rfl rfl ?_
  refine CW.seq ?_
  refine CW.reg ?_
  refine WL.op rfl (OpK.box rfl rfl (by first | rfl | exact Rd.cells1 (by assumption) | exact Osl.cells1 (by assumption) | exact Osn.cells1 (by assumption)) (fun b1 w1 hXw1 hb1 hge1 => ?_))
  have hl1 := Lo.new hB hge1
  have hB := hB.trans hXw1
  refine WL.op rfl (OpK.box rfl rfl (by first | rfl | exact Rd.cells1 (by assumption) | exact Osl.cells1 (by assumption) | exact Osn.cells1 (by assumption)) (fun b2 w2 hXw2 hb2 hge2 => ?_))
  have hl2 := Lo.new hB hge2
  have hd1_2 := Dj.new hb1.ltO hge2
  have hB := hB.trans hXw2
  have hb1 := hb1.up hXw2
  refine WL.pure rfl rfl rfl (PV.assign rfl) ?_
  refine WL.nilS ?_
  refine CW.seq ?_
  refine CW.seq ?_
  refine CW.reg ?_
  refine WL.pure rfl rfl rfl ((by first | exact PV.fieldAddr T.fl29_0 rfl (by first | assumption | exact Bx.cells (by assumption)) | exact PV.fieldAddrP T.fl29_0 rfl rfl)) ?_
  refine WL.pure rfl rfl rfl ((by first | exact PV.load0 T.na2 rfl (by first | exact Cells.up (by assumption) hB | exact Bx.cells (by assumption) | assumption) (Ext.refl _) rfl | exact PV.load1 T.na2 rfl (by first | exact Cells.up (by assumption) hB | exact Bx.cells (by assumption) | assumption) (Ext.refl _) rfl)) ?_
  refine WL.pure rfl rfl rfl ((by first | exact PV.fieldAddr T.fl29_0 rfl (by first | assumption | exact Bx.cells (by assumption)) | exact PV.fieldAddrP T.fl29_0 rfl rfl)) ?_
  refine WL.pure rfl rfl rfl ((by first | exact PV.load0 T.na2 rfl (by first | exact Cells.up (by assumption) hB | exact Bx.cells (by assumption) | assumption) (Ext.refl _) rfl | exact PV.load1 T.na2 rfl (by first | exact Cells.up (by assumption) hB | exact Bx.cells (by assumption) | assumption) (Ext.refl _) rfl)) ?_
  refine WL.pure rfl rfl rfl (PV.neq rfl rfl) ?_
  refine WL.nilS ?_
  refine CW.cond rfl (fun hc1 => ?_) (fun hc1 => ?_)
  · skip
    try simp only [decide_eq_true_eq, decide_eq_false_iff_not, Bool.not_eq_true', Bool.not_eq_false', Bool.not_eq_eq_eq_not, Bool.not_true, Bool.not_false, Int.not_lt, Int.not_le, Classical.not_not, beq_iff_eq, beq_eq_false_iff_ne] at hc1
    refine CW.seq ?_
    refine CW.reg ?_
    refine WL.pure rfl rfl rfl (PV.assign rfl) ?_
    refine WL.nilS ?_
    refine CW.ret ?_
    refine RQ.then ?_
    refine RQ.r1 rfl ?_
    refine ⟨?_, hB⟩
    first | rfl | exact bT (by omega) | exact bF (by omega) | exact bD (by omega) | exact iE (by omega) | (simp_all; done) | (simp_all; omega) | (simp_all; intros; omega)
  try simp only [decide_eq_true_eq, decide_eq_false_iff_not, Bool.not_eq_true', Bool.not_eq_false', Bool.not_eq_eq_eq_not, Bool.not_true, Bool.not_false, Int.not_lt, Int.not_le, Classical.not_not, beq_iff_eq, beq_eq_false_iff_ne] at hc1
  refine CW.skipS ?_
  refine CW.seq ?_
  refine CW.seq ?_
  refine CW.reg ?_
  refine WL.pure rfl rfl rfl ((by first | exact PV.fieldAddr T.fl29_1 rfl (by first | assumption | exact Bx.cells (by assumption)) | exact PV.fieldAddrP T.fl29_1 rfl rfl)) ?_
  refine WL.pure rfl rfl rfl ((by first | exact PV.load0 T.na2 rfl (by first | exact Cells.up (by assumption) hB | exact Bx.cells (by assumption) | assumption) (Ext.refl _) rfl | exact PV.load1 T.na2 rfl (by first | exact Cells.up (by assumption) hB | exact Bx.cells (by assumption) | assumption) (Ext.refl _) rfl)) ?_
  refine WL.pure rfl rfl rfl ((by first | exact PV.fieldAddr T.fl29_1 rfl (by first | assumption | exact Bx.cells (by assumption)) | exact PV.fieldAddrP T.fl29_1 rfl rfl)) ?_
  refine WL.pure rfl rfl rfl ((by first | exact PV.load0 T.na2 rfl (by first | exact Cells.up (by assumption) hB | exact Bx.cells (by assumption) | assumption) (Ext.refl _) rfl | exact PV.load1 T.na2 rfl (by first | exact Cells.up (by assumption) hB | exact Bx.cells (by assumption) | assumption) (Ext.refl _) rfl)) ?_
  refine WL.pure rfl rfl rfl (PV.neq rfl rfl) ?_
  refine WL.nilS ?_
  refine CW.cond rfl (fun hc2 => ?_) (fun hc2 => ?_)
  · skip
    try simp only [decide_eq_true_eq, decide_eq_false_iff_not, Bool.not_eq_true', Bool.not_eq_false', Bool.not_eq_eq_eq_not, Bool.not_true, Bool.not_false, Int.not_lt, Int.not_le, Classical.not_not, beq_iff_eq, beq_eq_false_iff_ne] at hc2
    refine CW.seq ?_
    refine CW.reg ?_
    refine WL.pure rfl rfl rfl (PV.assign rfl) ?_
    refine WL.nilS ?_
    refine CW.ret ?_
    refine RQ.then ?_
    refine RQ.r1 rfl ?_
    refine ⟨?_, hB⟩
    first | rfl | exact bT (by omega) | exact bF (by omega) | exact bD (by omega) | exact iE (by omega) | (simp_all; done) | (simp_all; omega) | (simp_all; intros; omega)
  try simp only [decide_eq_true_eq, decide_eq_false_iff_not, Bool.not_eq_true', Bool.not_eq_false', Bool.not_eq_eq_eq_not, Bool.not_true, Bool.not_false, Int.not_lt, Int.not_le, Classical.not_not, beq_iff_eq, beq_eq_false_iff_ne] at hc2
  refine CW.skipS ?_
  refine CW.seq ?_
  refine CW.seq ?_
  refine CW.reg ?_
  refine WL.pure rfl rfl rfl ((by first | exact PV.fieldAddr T.fl29_2 rfl (by first | assumption | exact Bx.cells (by assumption)) | exact PV.fieldAddrP T.fl29_2 rfl rfl)) ?_
  refine WL.pure rfl rfl rfl ((by first | exact PV.load0 T.na27 rfl (by first | exact Cells.up (by assumption) hB | exact Bx.cells (by assumption) | assumption) (Ext.refl _) rfl | exact PV.load1 T.na27 rfl (by first | exact Cells.up (by assumption) hB | exact Bx.cells (by assumption) | assumption) (Ext.refl _) rfl)) ?_
  refine WL.pure rfl rfl rfl ((by first | exact PV.fieldAddr T.fl29_2 rfl (by first | assumption | exact Bx.cells (by assumption)) | exact PV.fieldAddrP T.fl29_2 rfl rfl)) ?_
  refine WL.pure rfl rfl rfl ((by first | exact PV.load0 T.na27 rfl (by first | exact Cells.up (by assumption) hB | exact Bx.cells (by assumption) | assumption) (Ext.refl _) rfl | exact PV.load1 T.na27 rfl (by first | exact Cells.up (by assumption) hB | exact Bx.cells (by assumption) | assumption) (Ext.refl _) rfl)) ?_
  refine WL.op rfl (OpK.callR rfl T.cf56 rfl (c_laws_eqRuleS (by first | assumption | exact Rd.up (by assumption) hB | exact Osl.rd (by assumption) | exact Osn.rdR (by assumption)) (by first | assumption | exact Rd.up (by assumption) hB | exact Osl.rd (by assumption) | exact Osn.rdR (by assumption))) (fun w3 hXw3 => ?_))
  have hB := hB.trans hXw3
  have hb1 := hb1.up hXw3
  have hb2 := hb2.up hXw3
  refine WL.pure rfl rfl rfl (PV.not rfl) ?_
  refine WL.nilS ?_
  refine CW.cond rfl (fun hc3 => ?_) (fun hc3 => ?_)
  · skip
    try simp only [decide_eq_true_eq, decide_eq_false_iff_not, Bool.not_eq_true', Bool.not_eq_false', Bool.not_eq_eq_eq_not, Bool.not_true, Bool.not_false, Int.not_lt, Int.not_le, Classical.not_not, beq_iff_eq, beq_eq_false_iff_ne] at hc3
    refine CW.seq ?_
    refine CW.reg ?_
    refine WL.pure rfl rfl rfl (PV.assign rfl) ?_
    refine WL.nilS ?_
    refine CW.ret ?_
    refine RQ.then ?_
    refine RQ.r1 rfl ?_
    refine ⟨?_, hB⟩
    first | rfl | exact bT (by omega) | exact bF (by omega) | exact bD (by omega) | exact iE (by omega) | (simp_all; done) | (simp_all; omega) | (simp_all; intros; omega)
  try simp only [decide_eq_true_eq, decide_eq_false_iff_not, Bool.not_eq_true', Bool.not_eq_false', Bool.not_eq_eq_eq_not, Bool.not_true, Bool.not_false, Int.not_lt, Int.not_le, Classical.not_not, beq_iff_eq, beq_eq_false_iff_ne] at hc3
  refine CW.skipS ?_
  refine CW.seq ?_
  refine CW.reg ?_
  refine WL.pure rfl rfl rfl (PV.assign rfl) ?_
  refine WL.nilS ?_
  refine CW.ret ?_
  refine RQ.r1 rfl ?_
  refine ⟨?_, hB⟩
  first | rfl | exact bT (by omega) | exact bF (by omega) | exact bD (by omega) | exact iE (by omega) | (simp_all; done) | (simp_all; omega) | (simp_all; intros; omega)
theorem c_laws_eqInt64S {w : World} {va vb : Value} {xs ys : List Int} (ha : Rd EI w va xs) (hb : Rd EI w vb ys) : Calls Try.prog 37 #[va, vb] w (Ret1 (RQt (.bool (decide (xs = ys))) w)) := by
  have hB : Ext w w := Ext.refl w
  have hla := ha.leI; have hlb := hb.leI
  refine callsOf (vs := [_, _]) Try.func37 rfl Try.ntmps37 rfl rfl ?_
  refine CW.seq ?_
  refine CW.reg ?_
  refine WL.pure rfl rfl rfl (PV.assign rfl) ?_
  refine WL.nilS ?_
  refine CW.seq ?_
  refine CW.seq ?_
  refine CW.reg ?_
  refine WL.pure rfl rfl rfl (PV.move rfl) ?_
  refine WL.pure rfl rfl rfl ((by first | exact PV.len rfl (by assumption) T.sl38 | exact PV.lenOs rfl (by assumption) T.sl38)) ?_
  refine WL.pure rfl rfl rfl (PV.move rfl) ?_
  refine WL.pure rfl rfl rfl ((by first | exact PV.len rfl (by assumption) T.sl38 | exact PV.lenOs rfl (by assumption) T.sl38)) ?_
  refine WL.pure rfl rfl rfl (PV.neq rfl rfl) ?_
  refine WL.nilS ?_
  refine CW.cond rfl (fun hc1 => ?_) (fun hc1 => ?_)
  · skip
    try simp only [decide_eq_true_eq, decide_eq_false_iff_not, Bool.not_eq_true', Bool.not_eq_false', Bool.not_eq_eq_eq_not, Bool.not_true, Bool.not_false, Int.not_lt, Int.not_le, Classical.not_not, beq_iff_eq, beq_eq_false_iff_ne] at hc1
    refine CW.seq ?_
    refine CW.reg ?_
    refine WL.pure rfl rfl rfl (PV.assign rfl) ?_
    refine WL.nilS ?_
    refine CW.ret ?_
    refine RQ.then ?_
    refine RQ.r1 rfl ?_
    refine ⟨?_, hB⟩
    first | exact bT (eq_of_takes (by omega) (by omega) he) | exact bF (by rintro rfl; simp_all)
  try simp only [decide_eq_true_eq, decide_eq_false_iff_not, Bool.not_eq_true', Bool.not_eq_false', Bool.not_eq_eq_eq_not, Bool.not_true, Bool.not_false, Int.not_lt, Int.not_le, Classical.not_not, beq_iff_eq, beq_eq_false_iff_ne] at hc1
  refine CW.skipS ?_
  refine CW.seq ?_
  refine CW.seq ?_
  refine CW.reg ?_
  refine WL.pure rfl rfl rfl (PV.assign rfl) ?_
  refine WL.nilS ?_
  refine CW.block ?_
  refine CW.loop (σk := [(0, _), (1, _)]) (fun ρ wz m => ∃ (k : Nat), ρ = [(5, .int .i64 (k : Nat))] ∧ m = xs.length - k ∧ UpdL [] w wz ∧ (k ≤ xs.length) ∧ (xs.take k = ys.take k)) (ρ₀ := [(5, _)]) (m₀ := _) ⟨rfl, rfl, rfl, trivial⟩ ⟨0, rfl, rfl, (UpdL.refl _ _), (by first | omega | rfl | (simp; done) | assumption | (simp_all; done)), (by first | omega | rfl | (simp; done) | assumption | (simp_all; done))⟩ ?_
  rintro _ wl1 _ ⟨k, rfl, rfl, hU0, hk, he⟩
  have hB := hB.loop hU0 trivial
  refine CW.seq ?_
  refine CW.seq ?_
  refine CW.reg ?_
  refine WL.pure rfl rfl rfl (PV.move rfl) ?_
  refine WL.pure rfl rfl rfl (PV.move rfl) ?_
  refine WL.pure rfl rfl rfl ((by first | exact PV.len rfl (by assumption) T.sl38 | exact PV.lenOs rfl (by assumption) T.sl38)) ?_
  refine WL.pure rfl rfl rfl (PV.lss rfl rfl) ?_
  refine WL.nilS ?_
  refine CW.cond rfl (fun hc2 => ?_) (fun hc2 => ?_)
  · skip
    try simp only [decide_eq_true_eq, decide_eq_false_iff_not, Bool.not_eq_true', Bool.not_eq_false', Bool.not_eq_eq_eq_not, Bool.not_true, Bool.not_false, Int.not_lt, Int.not_le, Classical.not_not, beq_iff_eq, beq_eq_false_iff_ne] at hc2
    refine CW.skipS ?_
    refine CW.seq ?_
    refine CW.block ?_
    refine CW.seq ?_
    refine CW.draw T.mixed (by kernel_rfl) (fun _ _ _ _ _ h => h) (fun w8 w9 => Upd none w8 w9) 9 (.take 0 (.take 1 (.take 2 (.take 3 (.take 4 (.take 5 (.take 6 (.take 7 (.take 8 .done))))))))) (by kernel_rfl) (fun w1 hXd => ?_)
    have hB := hB.trans hXd
    have hU0 := hU0.ext hXd
    have hBr := hB
    have hS : Upd none w1 w1 := Ext.toUpd (Ext.refl _)
    refine HP.take rfl rfl rfl rfl hS (fun wS hS1 => PV.move rfl) ?_
    refine HP.take rfl rfl rfl rfl hS (fun wS hS1 => PV.move rfl) ?_
    first
      | refine HP.at (x := .tmp 17) (y := .tmp 18) (E := EI) (0) rfl rfl (by assumption) (by first | omega | (simp; omega) | (simp_all; omega)) (fun p1 csp1 hpp1 hcp1 hq => ?_)
      | refine HP.atZ (x := .tmp 17) (y := .tmp 18) (E := EI) (0) rfl rfl (by assumption) (by first | omega | (simp; omega) | (simp_all; omega)) (fun p1 csp1 hpp1 hzp1 hcp1 hq => ?_)
    cases hq
    refine HP.take rfl rfl rfl rfl hS (fun wS hS1 => (by first | exact PV.indexAddr hpp1 rfl rfl T.sl38 | exact PV.indexAddr hpp1 rfl (by rw [← hzp1]; rfl) T.sl38)) ?_
    refine HP.take rfl rfl rfl rfl hS (fun wS hS1 => (by first | exact PV.load0 T.na2 rfl (by first | exact Cells.up (by assumption) (hBr.trans hS1) | exact Bx.cells (Bx.updD (by assumption) hS1 (Dj.nlR _)) | exact Cells.upd (by assumption) hS1 (by simp)) (Ext.refl _) rfl | exact PV.load1 T.na2 rfl (by first | exact Cells.up (by assumption) (hBr.trans hS1) | exact Bx.cells (Bx.updD (by assumption) hS1 (Dj.nlR _)) | exact Cells.upd (by assumption) hS1 (by simp)) (Ext.refl _) rfl)) ?_
    refine HP.take rfl rfl rfl rfl hS (fun wS hS1 => PV.move rfl) ?_
    refine HP.take rfl rfl rfl rfl hS (fun wS hS1 => PV.move rfl) ?_
    first
      | refine HP.at (x := .tmp 21) (y := .tmp 22) (E := EI) (0) rfl rfl (by assumption) (by first | omega | (simp; omega) | (simp_all; omega)) (fun p2 csp2 hpp2 hcp2 hq => ?_)
      | refine HP.atZ (x := .tmp 21) (y := .tmp 22) (E := EI) (0) rfl rfl (by assumption) (by first | omega | (simp; omega) | (simp_all; omega)) (fun p2 csp2 hpp2 hzp2 hcp2 hq => ?_)
    cases hq
    refine HP.take rfl rfl rfl rfl hS (fun wS hS1 => (by first | exact PV.indexAddr hpp2 rfl rfl T.sl38 | exact PV.indexAddr hpp2 rfl (by rw [← hzp2]; rfl) T.sl38)) ?_
    refine HP.take rfl rfl rfl rfl hS (fun wS hS1 => (by first | exact PV.load0 T.na2 rfl (by first | exact Cells.up (by assumption) (hBr.trans hS1) | exact Bx.cells (Bx.updD (by assumption) hS1 (Dj.nlR _)) | exact Cells.upd (by assumption) hS1 (by simp)) (Ext.refl _) rfl | exact PV.load1 T.na2 rfl (by first | exact Cells.up (by assumption) (hBr.trans hS1) | exact Bx.cells (Bx.updD (by assumption) hS1 (Dj.nlR _)) | exact Cells.upd (by assumption) hS1 (by simp)) (Ext.refl _) rfl)) ?_
    refine HP.take rfl rfl rfl rfl hS (fun wS hS1 => PV.neq rfl rfl) ?_
    refine HP.doneS ?_
    refine CW.cond rfl (fun hc3 => ?_) (fun hc3 => ?_)
    · skip
      try simp only [decide_eq_true_eq, decide_eq_false_iff_not, Bool.not_eq_true', Bool.not_eq_false', Bool.not_eq_eq_eq_not, Bool.not_true, Bool.not_false, Int.not_lt, Int.not_le, Classical.not_not, beq_iff_eq, beq_eq_false_iff_ne] at hc3
      refine CW.seq ?_
      refine CW.reg ?_
      refine WL.pure rfl rfl rfl (PV.assign rfl) ?_
      refine WL.nilS ?_
      refine CW.ret ?_
      refine RQ.block ?_
      refine RQ.then ?_
      refine RQ.then ?_
      refine RQ.block ?_
      refine RQ.then ?_
      refine RQ.r1 rfl ?_
      refine ⟨?_, hB⟩
      first | exact bT (eq_of_takes (by omega) (by omega) he) | exact bF (by rintro rfl; simp_all)
    try simp only [decide_eq_true_eq, decide_eq_false_iff_not, Bool.not_eq_true', Bool.not_eq_false', Bool.not_eq_eq_eq_not, Bool.not_true, Bool.not_false, Int.not_lt, Int.not_le, Classical.not_not, beq_iff_eq, beq_eq_false_iff_ne] at hc3
    refine CW.skip ?_
    refine NQ.block ?_
    refine NQ.then ?_
    refine CW.reg ?_
    refine WL.pure rfl rfl rfl (PV.move rfl) ?_
    refine WL.pure rfl rfl rfl (PV.add rfl rfl (by constructor <;> omega)) ?_
    refine WL.pure rfl rfl rfl (PV.assign rfl) ?_
    refine WL.nil ?_
    refine NQ.next (ρ := [(5, _)]) ⟨rfl, rfl, rfl, trivial⟩ ?_
    exact ⟨_, ⟨k + 1, rfl, rfl, hU0, (by first | omega | assumption | (simp_all; done) | (simp_all; omega)), (by exact take_eq_succ (by omega) (by omega) he (by assumption))⟩, by omega⟩
  try simp only [decide_eq_true_eq, decide_eq_false_iff_not, Bool.not_eq_true', Bool.not_eq_false', Bool.not_eq_eq_eq_not, Bool.not_true, Bool.not_false, Int.not_lt, Int.not_le, Classical.not_not, beq_iff_eq, beq_eq_false_iff_ne] at hc2
  refine CW.exit ?_
  refine XQ.then ?_
  refine XQ.then ?_
  refine XQ.here ?_
  refine NQ.then ?_
  refine CW.seq ?_
  refine CW.reg ?_
  refine WL.pure rfl rfl rfl (PV.assign rfl) ?_
  refine WL.nilS ?_
  refine CW.ret ?_
  refine RQ.r1 rfl ?_
  refine ⟨?_, hB⟩
  first | exact bT (eq_of_takes (by omega) (by omega) he) | exact bF (by rintro rfl; simp_all)
theorem c_laws_eqBoolS {w : World} {va vb : Value} {xs ys : List Bool} (ha : Rd EB w va xs) (hb : Rd EB w vb ys) : Calls Try.prog 70 #[va, vb] w (Ret1 (RQt (.bool (decide (xs = ys))) w)) := by
  have hB : Ext w w := Ext.refl w
  have hla := ha.leI; have hlb := hb.leI
  refine callsOf (vs := [_, _]) Try.func70 rfl Try.ntmps70 rfl rfl ?_
  refine CW.seq ?_
  refine CW.reg ?_
  refine WL.pure rfl rfl rfl (PV.assign rfl) ?_
  refine WL.nilS ?_
  refine CW.seq ?_
  refine CW.seq ?_
  refine CW.reg ?_
  refine WL.pure rfl rfl rfl (PV.move rfl) ?_
  refine WL.pure rfl rfl rfl ((by first | exact PV.len rfl (by assumption) T.sl39 | exact PV.lenOs rfl (by assumption) T.sl39)) ?_
  refine WL.pure rfl rfl rfl (PV.move rfl) ?_
  refine WL.pure rfl rfl rfl ((by first | exact PV.len rfl (by assumption) T.sl39 | exact PV.lenOs rfl (by assumption) T.sl39)) ?_
  refine WL.pure rfl rfl rfl (PV.neq rfl rfl) ?_
  refine WL.nilS ?_
  refine CW.cond rfl (fun hc1 => ?_) (fun hc1 => ?_)
  · skip
    try simp only [decide_eq_true_eq, decide_eq_false_iff_not, Bool.not_eq_true', Bool.not_eq_false', Bool.not_eq_eq_eq_not, Bool.not_true, Bool.not_false, Int.not_lt, Int.not_le, Classical.not_not, beq_iff_eq, beq_eq_false_iff_ne] at hc1
    refine CW.seq ?_
    refine CW.reg ?_
    refine WL.pure rfl rfl rfl (PV.assign rfl) ?_
    refine WL.nilS ?_
    refine CW.ret ?_
    refine RQ.then ?_
    refine RQ.r1 rfl ?_
    refine ⟨?_, hB⟩
    first | exact bT (eq_of_takes (by omega) (by omega) he) | exact bF (by rintro rfl; simp_all)
  try simp only [decide_eq_true_eq, decide_eq_false_iff_not, Bool.not_eq_true', Bool.not_eq_false', Bool.not_eq_eq_eq_not, Bool.not_true, Bool.not_false, Int.not_lt, Int.not_le, Classical.not_not, beq_iff_eq, beq_eq_false_iff_ne] at hc1
  refine CW.skipS ?_
  refine CW.seq ?_
  refine CW.seq ?_
  refine CW.reg ?_
  refine WL.pure rfl rfl rfl (PV.assign rfl) ?_
  refine WL.nilS ?_
  refine CW.block ?_
  refine CW.loop (σk := [(0, _), (1, _)]) (fun ρ wz m => ∃ (k : Nat), ρ = [(5, .int .i64 (k : Nat))] ∧ m = xs.length - k ∧ UpdL [] w wz ∧ (k ≤ xs.length) ∧ (xs.take k = ys.take k)) (ρ₀ := [(5, _)]) (m₀ := _) ⟨rfl, rfl, rfl, trivial⟩ ⟨0, rfl, rfl, (UpdL.refl _ _), (by first | omega | rfl | (simp; done) | assumption | (simp_all; done)), (by first | omega | rfl | (simp; done) | assumption | (simp_all; done))⟩ ?_
  rintro _ wl1 _ ⟨k, rfl, rfl, hU0, hk, he⟩
  have hB := hB.loop hU0 trivial
  refine CW.seq ?_
  refine CW.seq ?_
  refine CW.reg ?_
  refine WL.pure rfl rfl rfl (PV.move rfl) ?_
  refine WL.pure rfl rfl rfl (PV.move rfl) ?_
  refine WL.pure rfl rfl rfl ((by first | exact PV.len rfl (by assumption) T.sl39 | exact PV.lenOs rfl (by assumption) T.sl39)) ?_
  refine WL.pure rfl rfl rfl (PV.lss rfl rfl) ?_
  refine WL.nilS ?_
  refine CW.cond rfl (fun hc2 => ?_) (fun hc2 => ?_)
  · skip
    try simp only [decide_eq_true_eq, decide_eq_false_iff_not, Bool.not_eq_true', Bool.not_eq_false', Bool.not_eq_eq_eq_not, Bool.not_true, Bool.not_false, Int.not_lt, Int.not_le, Classical.not_not, beq_iff_eq, beq_eq_false_iff_ne] at hc2
    refine CW.skipS ?_
    refine CW.seq ?_
    refine CW.block ?_
    refine CW.seq ?_
    refine CW.draw T.mixed (by kernel_rfl) (fun _ _ _ _ _ h => h) (fun w8 w9 => Upd none w8 w9) 9 (.take 0 (.take 1 (.take 2 (.take 3 (.take 4 (.take 5 (.take 6 (.take 7 (.take 8 .done))))))))) (by kernel_rfl) (fun w1 hXd => ?_)
    have hB := hB.trans hXd
    have hU0 := hU0.ext hXd
    have hBr := hB
    have hS : Upd none w1 w1 := Ext.toUpd (Ext.refl _)
    refine HP.take rfl rfl rfl rfl hS (fun wS hS1 => PV.move rfl) ?_
    refine HP.take rfl rfl rfl rfl hS (fun wS hS1 => PV.move rfl) ?_
    first
      | refine HP.at (x := .tmp 17) (y := .tmp 18) (E := EB) (false) rfl rfl (by assumption) (by first | omega | (simp; omega) | (simp_all; omega)) (fun p1 csp1 hpp1 hcp1 hq => ?_)
      | refine HP.atZ (x := .tmp 17) (y := .tmp 18) (E := EB) (false) rfl rfl (by assumption) (by first | omega | (simp; omega) | (simp_all; omega)) (fun p1 csp1 hpp1 hzp1 hcp1 hq => ?_)
    cases hq
    refine HP.take rfl rfl rfl rfl hS (fun wS hS1 => (by first | exact PV.indexAddr hpp1 rfl rfl T.sl39 | exact PV.indexAddr hpp1 rfl (by rw [← hzp1]; rfl) T.sl39)) ?_
    refine HP.take rfl rfl rfl rfl hS (fun wS hS1 => (by first | exact PV.load0 T.na4 rfl (by first | exact Cells.up (by assumption) (hBr.trans hS1) | exact Bx.cells (Bx.updD (by assumption) hS1 (Dj.nlR _)) | exact Cells.upd (by assumption) hS1 (by simp)) (Ext.refl _) rfl | exact PV.load1 T.na4 rfl (by first | exact Cells.up (by assumption) (hBr.trans hS1) | exact Bx.cells (Bx.updD (by assumption) hS1 (Dj.nlR _)) | exact Cells.upd (by assumption) hS1 (by simp)) (Ext.refl _) rfl)) ?_
    refine HP.take rfl rfl rfl rfl hS (fun wS hS1 => PV.move rfl) ?_
    refine HP.take rfl rfl rfl rfl hS (fun wS hS1 => PV.move rfl) ?_
    first
      | refine HP.at (x := .tmp 21) (y := .tmp 22) (E := EB) (false) rfl rfl (by assumption) (by first | omega | (simp; omega) | (simp_all; omega)) (fun p2 csp2 hpp2 hcp2 hq => ?_)
      | refine HP.atZ (x := .tmp 21) (y := .tmp 22) (E := EB) (false) rfl rfl (by assumption) (by first | omega | (simp; omega) | (simp_all; omega)) (fun p2 csp2 hpp2 hzp2 hcp2 hq => ?_)
    cases hq
    refine HP.take rfl rfl rfl rfl hS (fun wS hS1 => (by first | exact PV.indexAddr hpp2 rfl rfl T.sl39 | exact PV.indexAddr hpp2 rfl (by rw [← hzp2]; rfl) T.sl39)) ?_
    refine HP.take rfl rfl rfl rfl hS (fun wS hS1 => (by first | exact PV.load0 T.na4 rfl (by first | exact Cells.up (by assumption) (hBr.trans hS1) | exact Bx.cells (Bx.updD (by assumption) hS1 (Dj.nlR _)) | exact Cells.upd (by assumption) hS1 (by simp)) (Ext.refl _) rfl | exact PV.load1 T.na4 rfl (by first | exact Cells.up (by assumption) (hBr.trans hS1) | exact Bx.cells (Bx.updD (by assumption) hS1 (Dj.nlR _)) | exact Cells.upd (by assumption) hS1 (by simp)) (Ext.refl _) rfl)) ?_
    refine HP.take rfl rfl rfl rfl hS (fun wS hS1 => PV.neqB T.bl4 rfl rfl) ?_
    refine HP.doneS ?_
    refine CW.cond rfl (fun hc3 => ?_) (fun hc3 => ?_)
    · skip
      try simp only [decide_eq_true_eq, decide_eq_false_iff_not, Bool.not_eq_true', Bool.not_eq_false', Bool.not_eq_eq_eq_not, Bool.not_true, Bool.not_false, Int.not_lt, Int.not_le, Classical.not_not, beq_iff_eq, beq_eq_false_iff_ne] at hc3
      refine CW.seq ?_
      refine CW.reg ?_
      refine WL.pure rfl rfl rfl (PV.assign rfl) ?_
      refine WL.nilS ?_
      refine CW.ret ?_
      refine RQ.block ?_
      refine RQ.then ?_
      refine RQ.then ?_
      refine RQ.block ?_
      refine RQ.then ?_
      refine RQ.r1 rfl ?_
      refine ⟨?_, hB⟩
      first | exact bT (eq_of_takes (by omega) (by omega) he) | exact bF (by rintro rfl; simp_all)
    try simp only [decide_eq_true_eq, decide_eq_false_iff_not, Bool.not_eq_true', Bool.not_eq_false', Bool.not_eq_eq_eq_not, Bool.not_true, Bool.not_false, Int.not_lt, Int.not_le, Classical.not_not, beq_iff_eq, beq_eq_false_iff_ne] at hc3
    refine CW.skip ?_
    refine NQ.block ?_
    refine NQ.then ?_
    refine CW.reg ?_
    refine WL.pure rfl rfl rfl (PV.move rfl) ?_
    refine WL.pure rfl rfl rfl (PV.add rfl rfl (by constructor <;> omega)) ?_
    refine WL.pure rfl rfl rfl (PV.assign rfl) ?_
    refine WL.nil ?_
    refine NQ.next (ρ := [(5, _)]) ⟨rfl, rfl, rfl, trivial⟩ ?_
    exact ⟨_, ⟨k + 1, rfl, rfl, hU0, (by first | omega | assumption | (simp_all; done) | (simp_all; omega)), (by exact take_eq_succ (by omega) (by omega) he (by assumption))⟩, by omega⟩
  try simp only [decide_eq_true_eq, decide_eq_false_iff_not, Bool.not_eq_true', Bool.not_eq_false', Bool.not_eq_eq_eq_not, Bool.not_true, Bool.not_false, Int.not_lt, Int.not_le, Classical.not_not, beq_iff_eq, beq_eq_false_iff_ne] at hc2
  refine CW.exit ?_
  refine XQ.then ?_
  refine XQ.then ?_
  refine XQ.here ?_
  refine NQ.then ?_
  refine CW.seq ?_
  refine CW.reg ?_
  refine WL.pure rfl rfl rfl (PV.assign rfl) ?_
  refine WL.nilS ?_
  refine CW.ret ?_
  refine RQ.r1 rfl ?_
  refine ⟨?_, hB⟩
  first | exact bT (eq_of_takes (by omega) (by omega) he) | exact bF (by rintro rfl; simp_all)
theorem c_laws_eqPlain {w : World} {a0 : Int} {a1 : Int} {va2 : Value} {xa2 : List Int} {va3 : Value} {xa3 : List Bool} {b0 : Int} {b1 : Int} {vb2 : Value} {xb2 : List Int} {vb3 : Value} {xb3 : List Bool}  (ha2 : Rd EI w va2 xa2) (ha3 : Rd EB w va3 xa3) (hb2 : Rd EI w vb2 xb2) (hb3 : Rd EB w vb3 xb3) : Calls Try.prog 32 #[.agg #[.int .i64 a0, .int .i64 a1, va2, va3], .agg #[.int .i64 b0, .int .i64 b1, vb2, vb3]] w (Ret1 (RQt (.bool (decide (a0 = b0 ∧ a1 = b1 ∧ xa2 = xb2 ∧ xa3 = xb3))) w)) := by
  have hB : Ext w w := Ext.refl w
  have hla2 := ha2.leI; have hla3 := ha3.leI; have hlb2 := hb2.leI; have hlb3 := hb3.leI
  refine callsOf (vs := [_, _]) Try.func32 rfl Try.ntmps32 rfl rfl ?_
  refine CW.seq ?_
  refine CW.reg ?_
  refine WL.op rfl (OpK.box rfl rfl (by first | rfl | exact Rd.cells1 (by assumption) | exact Osl.cells1 (by assumption) | exact Osn.cells1 (by assumption)) (fun b1 w1 hXw1 hb1 hge1 => ?_))
  have hl1 := Lo.new hB hge1
  have hB := hB.trans hXw1
  refine WL.op rfl (OpK.box rfl rfl (by first | rfl | exact Rd.cells1 (by assumption) | exact Osl.cells1 (by assumption) | exact Osn.cells1 (by assumption)) (fun b2 w2 hXw2 hb2 hge2 => ?_))
  have hl2 := Lo.new hB hge2
  have hd1_2 := Dj.new hb1.ltO hge2
  have hB := hB.trans hXw2
  have hb1 := hb1.up hXw2
  refine WL.pure rfl rfl rfl (PV.assign rfl) ?_
  refine WL.nilS ?_
  refine CW.seq ?_
  refine CW.seq ?_
  refine CW.reg ?_
  refine WL.pure rfl rfl rfl ((by first | exact PV.fieldAddr T.fl44_0 rfl (by first | assumption | exact Bx.cells (by assumption)) | exact PV.fieldAddrP T.fl44_0 rfl rfl)) ?_
  refine WL.pure rfl rfl rfl ((by first | exact PV.load0 T.na2 rfl (by first | exact Cells.up (by assumption) hB | exact Bx.cells (by assumption) | assumption) (Ext.refl _) rfl | exact PV.load1 T.na2 rfl (by first | exact Cells.up (by assumption) hB | exact Bx.cells (by assumption) | assumption) (Ext.refl _) rfl)) ?_
  refine WL.pure rfl rfl rfl ((by first | exact PV.fieldAddr T.fl44_0 rfl (by first | assumption | exact Bx.cells (by assumption)) | exact PV.fieldAddrP T.fl44_0 rfl rfl)) ?_
  refine WL.pure rfl rfl rfl ((by first | exact PV.load0 T.na2 rfl (by first | exact Cells.up (by assumption) hB | exact Bx.cells (by assumption) | assumption) (Ext.refl _) rfl | exact PV.load1 T.na2 rfl (by first | exact Cells.up (by assumption) hB | exact Bx.cells (by assumption) | assumption) (Ext.refl _) rfl)) ?_
  refine WL.pure rfl rfl rfl (PV.neq rfl rfl) ?_
  refine WL.nilS ?_
  refine CW.cond rfl (fun hc1 => ?_) (fun hc1 => ?_)
  · skip
    try simp only [decide_eq_true_eq, decide_eq_false_iff_not, Bool.not_eq_true', Bool.not_eq_false', Bool.not_eq_eq_eq_not, Bool.not_true, Bool.not_false, Int.not_lt, Int.not_le, Classical.not_not, beq_iff_eq, beq_eq_false_iff_ne] at hc1
    refine CW.seq ?_
    refine CW.reg ?_
    refine WL.pure rfl rfl rfl (PV.assign rfl) ?_
    refine WL.nilS ?_
    refine CW.ret ?_
    refine RQ.then ?_
    refine RQ.r1 rfl ?_
    refine ⟨?_, hB⟩
    first | rfl | exact bT (by omega) | exact bF (by omega) | exact bD (by omega) | exact iE (by omega) | (simp_all; done) | (simp_all; omega) | (simp_all; intros; omega)
  try simp only [decide_eq_true_eq, decide_eq_false_iff_not, Bool.not_eq_true', Bool.not_eq_false', Bool.not_eq_eq_eq_not, Bool.not_true, Bool.not_false, Int.not_lt, Int.not_le, Classical.not_not, beq_iff_eq, beq_eq_false_iff_ne] at hc1
  refine CW.skipS ?_
  refine CW.seq ?_
  refine CW.seq ?_
  refine CW.reg ?_
  refine WL.pure rfl rfl rfl ((by first | exact PV.fieldAddr T.fl44_1 rfl (by first | assumption | exact Bx.cells (by assumption)) | exact PV.fieldAddrP T.fl44_1 rfl rfl)) ?_
  refine WL.pure rfl rfl rfl ((by first | exact PV.load0 T.na2 rfl (by first | exact Cells.up (by assumption) hB | exact Bx.cells (by assumption) | assumption) (Ext.refl _) rfl | exact PV.load1 T.na2 rfl (by first | exact Cells.up (by assumption) hB | exact Bx.cells (by assumption) | assumption) (Ext.refl _) rfl)) ?_
  refine WL.pure rfl rfl rfl ((by first | exact PV.fieldAddr T.fl44_1 rfl (by first | assumption | exact Bx.cells (by assumption)) | exact PV.fieldAddrP T.fl44_1 rfl rfl)) ?_
  refine WL.pure rfl rfl rfl ((by first | exact PV.load0 T.na2 rfl (by first | exact Cells.up (by assumption) hB | exact Bx.cells (by assumption) | assumption) (Ext.refl _) rfl | exact PV.load1 T.na2 rfl (by first | exact Cells.up (by assumption) hB | exact Bx.cells (by assumption) | assumption) (Ext.refl _) rfl)) ?_
  refine WL.pure rfl rfl rfl (PV.neq rfl rfl) ?_
  refine WL.nilS ?_
  refine CW.cond rfl (fun hc2 => ?_) (fun hc2 => ?_)
  · skip
    try simp only [decide_eq_true_eq, decide_eq_false_iff_not, Bool.not_eq_true', Bool.not_eq_false', Bool.not_eq_eq_eq_not, Bool.not_true, Bool.not_false, Int.not_lt, Int.not_le, Classical.not_not, beq_iff_eq, beq_eq_false_iff_ne] at hc2
    refine CW.seq ?_
    refine CW.reg ?_
    refine WL.pure rfl rfl rfl (PV.assign rfl) ?_
    refine WL.nilS ?_
    refine CW.ret ?_
    refine RQ.then ?_
    refine RQ.r1 rfl ?_
    refine ⟨?_, hB⟩
    first | rfl | exact bT (by omega) | exact bF (by omega) | exact bD (by omega) | exact iE (by omega) | (simp_all; done) | (simp_all; omega) | (simp_all; intros; omega)
  try simp only [decide_eq_true_eq, decide_eq_false_iff_not, Bool.not_eq_true', Bool.not_eq_false', Bool.not_eq_eq_eq_not, Bool.not_true, Bool.not_false, Int.not_lt, Int.not_le, Classical.not_not, beq_iff_eq, beq_eq_false_iff_ne] at hc2
  refine CW.skipS ?_
  refine CW.seq ?_
  refine CW.seq ?_
  refine CW.reg ?_
  refine WL.pure rfl rfl rfl ((by first | exact PV.fieldAddr T.fl44_2 rfl (by first | assumption | exact Bx.cells (by assumption)) | exact PV.fieldAddrP T.fl44_2 rfl rfl)) ?_
  refine WL.pure rfl rfl rfl ((by first | exact PV.load0 T.na38 rfl (by first | exact Cells.up (by assumption) hB | exact Bx.cells (by assumption) | assumption) (Ext.refl _) rfl | exact PV.load1 T.na38 rfl (by first | exact Cells.up (by assumption) hB | exact Bx.cells (by assumption) | assumption) (Ext.refl _) rfl)) ?_
  refine WL.pure rfl rfl rfl ((by first | exact PV.fieldAddr T.fl44_2 rfl (by first | assumption | exact Bx.cells (by assumption)) | exact PV.fieldAddrP T.fl44_2 rfl rfl)) ?_
  refine WL.pure rfl rfl rfl ((by first | exact PV.load0 T.na38 rfl (by first | exact Cells.up (by assumption) hB | exact Bx.cells (by assumption) | assumption) (Ext.refl _) rfl | exact PV.load1 T.na38 rfl (by first | exact Cells.up (by assumption) hB | exact Bx.cells (by assumption) | assumption) (Ext.refl _) rfl)) ?_
  refine WL.op rfl (OpK.callR rfl T.cf37 rfl (c_laws_eqInt64S (by first | assumption | exact Rd.up (by assumption) hB | exact Osl.rd (by assumption) | exact Osn.rdR (by assumption)) (by first | assumption | exact Rd.up (by assumption) hB | exact Osl.rd (by assumption) | exact Osn.rdR (by assumption))) (fun w3 hXw3 => ?_))
  have hB := hB.trans hXw3
  have hb1 := hb1.up hXw3
  have hb2 := hb2.up hXw3
  refine WL.pure rfl rfl rfl (PV.not rfl) ?_
  refine WL.nilS ?_
  refine CW.cond rfl (fun hc3 => ?_) (fun hc3 => ?_)
  · skip
    try simp only [decide_eq_true_eq, decide_eq_false_iff_not, Bool.not_eq_true', Bool.not_eq_false', Bool.not_eq_eq_eq_not, Bool.not_true, Bool.not_false, Int.not_lt, Int.not_le, Classical.not_not, beq_iff_eq, beq_eq_false_iff_ne] at hc3
    refine CW.seq ?_
    refine CW.reg ?_
    refine WL.pure rfl rfl rfl (PV.assign rfl) ?_
    refine WL.nilS ?_
    refine CW.ret ?_
    refine RQ.then ?_
    refine RQ.r1 rfl ?_
    refine ⟨?_, hB⟩
    first | rfl | exact bT (by omega) | exact bF (by omega) | exact bD (by omega) | exact iE (by omega) | (simp_all; done) | (simp_all; omega) | (simp_all; intros; omega)
  try simp only [decide_eq_true_eq, decide_eq_false_iff_not, Bool.not_eq_true', Bool.not_eq_false', Bool.not_eq_eq_eq_not, Bool.not_true, Bool.not_false, Int.not_lt, Int.not_le, Classical.not_not, beq_iff_eq, beq_eq_false_iff_ne] at hc3
  refine CW.skipS ?_
  refine CW.seq ?_
  refine CW.seq ?_
  refine CW.reg ?_
  refine WL.pure rfl rfl rfl ((by first | exact PV.fieldAddr T.fl44_3 rfl (by first | assumption | exact Bx.cells (by assumption)) | exact PV.fieldAddrP T.fl44_3 rfl rfl)) ?_
  refine WL.pure rfl rfl rfl ((by first | exact PV.load0 T.na39 rfl (by first | exact Cells.up (by assumption) hB | exact Bx.cells (by assumption) | assumption) (Ext.refl _) rfl | exact PV.load1 T.na39 rfl (by first | exact Cells.up (by assumption) hB | exact Bx.cells (by assumption) | assumption) (Ext.refl _) rfl)) ?_
  refine WL.pure rfl rfl rfl ((by first | exact PV.fieldAddr T.fl44_3 rfl (by first | assumption | exact Bx.cells (by assumption)) | exact PV.fieldAddrP T.fl44_3 rfl rfl)) ?_
  refine WL.pure rfl rfl rfl ((by first | exact PV.load0 T.na39 rfl (by first | exact Cells.up (by assumption) hB | exact Bx.cells (by assumption) | assumption) (Ext.refl _) rfl | exact PV.load1 T.na39 rfl (by first | exact Cells.up (by assumption) hB | exact Bx.cells (by assumption) | assumption) (Ext.refl _) rfl)) ?_
  refine WL.op rfl (OpK.callR rfl T.cf70 rfl (c_laws_eqBoolS (by first | assumption | exact Rd.up (by assumption) hB | exact Osl.rd (by assumption) | exact Osn.rdR (by assumption)) (by first | assumption | exact Rd.up (by assumption) hB | exact Osl.rd (by assumption) | exact Osn.rdR (by assumption))) (fun w4 hXw4 => ?_))
  have hB := hB.trans hXw4
  have hb1 := hb1.up hXw4
  have hb2 := hb2.up hXw4
  refine WL.pure rfl rfl rfl (PV.not rfl) ?_
  refine WL.nilS ?_
  refine CW.cond rfl (fun hc4 => ?_) (fun hc4 => ?_)
  · skip
    try simp only [decide_eq_true_eq, decide_eq_false_iff_not, Bool.not_eq_true', Bool.not_eq_false', Bool.not_eq_eq_eq_not, Bool.not_true, Bool.not_false, Int.not_lt, Int.not_le, Classical.not_not, beq_iff_eq, beq_eq_false_iff_ne] at hc4
    refine CW.seq ?_
    refine CW.reg ?_
    refine WL.pure rfl rfl rfl (PV.assign rfl) ?_
    refine WL.nilS ?_
    refine CW.ret ?_
    refine RQ.then ?_
    refine RQ.r1 rfl ?_
    refine ⟨?_, hB⟩
    first | rfl | exact bT (by omega) | exact bF (by omega) | exact bD (by omega) | exact iE (by omega) | (simp_all; done) | (simp_all; omega) | (simp_all; intros; omega)
  try simp only [decide_eq_true_eq, decide_eq_false_iff_not, Bool.not_eq_true', Bool.not_eq_false', Bool.not_eq_eq_eq_not, Bool.not_true, Bool.not_false, Int.not_lt, Int.not_le, Classical.not_not, beq_iff_eq, beq_eq_false_iff_ne] at hc4
  refine CW.skipS ?_
  refine CW.seq ?_
  refine CW.reg ?_
  refine WL.pure rfl rfl rfl (PV.assign rfl) ?_
  refine WL.nilS ?_
  refine CW.ret ?_
  refine RQ.r1 rfl ?_
  refine ⟨?_, hB⟩
  first | rfl | exact bT (by omega) | exact bF (by omega) | exact bD (by omega) | exact iE (by omega) | (simp_all; done) | (simp_all; omega) | (simp_all; intros; omega)
theorem c_laws_markInt64S {w : World} {va : Value} {og : Option Nat} {xs : List Int} {k : Int} (ho : Osl VI w og va xs) (hk : 0 ≤ k ∧ k + xs.length ≤ 9223372036854775807) : Calls Try.prog 38 #[va, .int .i64 k] w (Ret1 (fun v w' => v = .int .i64 (k + xs.length) ∧ UpdL [og] w w' ∧ Osl VI w' og va (marks k xs.length))) := by
  refine callsOf (vs := [_, _]) Try.func38 rfl Try.ntmps38 rfl rfl ?_
  have hUB : UpdL [og] w w := UpdL.refl _ _
  have ho1 : Osl VI w og va (xs) := by assumption
  have hkB_1 : OkB [og] w og := OkB.mem (by simp)
  have hgB_1 := OgR.refl w og
  refine CW.seq ?_
  refine CW.reg ?_
  refine WL.pure rfl rfl rfl (PV.assign rfl) ?_
  refine WL.nilS ?_
  refine CW.seq ?_
  refine CW.seq ?_
  refine CW.reg ?_
  refine WL.pure rfl rfl rfl (PV.assign rfl) ?_
  refine WL.nilS ?_
  refine CW.block ?_
  have hlt1 := ho1.ltO
  refine CW.loop (σk := [(0, _)]) (fun ρ wz m => ∃ (i : Nat), ρ = [(1, .int .i64 (k + (i : Nat))), (5, .int .i64 (i : Nat))] ∧ m = xs.length - i ∧ UpdL [og] w wz ∧ Osl VI wz og va (marks k i ++ xs.drop i) ∧ (i ≤ xs.length)) (ρ₀ := [(1, _), (5, _)]) (m₀ := _) ⟨rfl, rfl, rfl, trivial⟩ ⟨0, (by simp), rfl, (UpdL.refl _ _), osE ho1 (by exact marks_zero _ _), (by first | omega | rfl | (simp; done) | assumption | (simp_all; done))⟩ ?_
  rintro _ wl1 _ ⟨i, rfl, rfl, hU0, ho1, hi⟩
  have hUB := hUB.trans hU0 ⟨hkB_1, trivial⟩
  have hk0_1 : OkB [og] w og := OkB.mem (by simp)
  have hll : (marks k i ++ xs.drop i).length = xs.length := by rw [List.length_append, marks_len, List.length_drop]; omega
  refine CW.seq ?_
  refine CW.seq ?_
  refine CW.reg ?_
  refine WL.pure rfl rfl rfl (PV.move rfl) ?_
  refine WL.pure rfl rfl rfl (PV.move rfl) ?_
  refine WL.pure rfl rfl rfl ((PV.lenOs rfl ho1 T.sl38)) ?_
  refine WL.pure rfl rfl rfl (PV.lss rfl rfl) ?_
  refine WL.nilS ?_
  refine CW.cond rfl (fun hc1 => ?_) (fun hc1 => ?_)
  · skip
    try simp only [decide_eq_true_eq, decide_eq_false_iff_not, Bool.not_eq_true', Bool.not_eq_false', Bool.not_eq_eq_eq_not, Bool.not_true, Bool.not_false, Int.not_lt, Int.not_le, Classical.not_not, beq_iff_eq, beq_eq_false_iff_ne] at hc1
    refine CW.skipS ?_
    refine CW.seq ?_
    refine CW.block ?_
    refine CW.seq ?_
    refine CW.reg ?_
    refine WL.pure rfl rfl rfl (PV.move rfl) ?_
    refine WL.pure rfl rfl rfl (PV.move rfl) ?_
    refine WL.pure rfl rfl rfl (PV.move rfl) ?_
    first
      | refine WL.atO (x := .tmp 12) (y := .tmp 13) (f := VI) (0) rfl rfl ho1 (by first | omega | (simp; omega) | (simp_all; omega)) (fun p1 hpp1 hcp1 => ?_)
      | refine WL.atOZ (x := .tmp 12) (y := .tmp 13) (f := VI) (0) rfl rfl ho1 (by first | omega | (simp; omega) | (simp_all; omega)) (fun p1 hpp1 hzp1 hcp1 => ?_)
    refine WL.pure rfl rfl rfl ((by first | exact PV.indexAddr hpp1 rfl rfl T.sl38 | exact PV.indexAddr hpp1 rfl (by rw [← hzp1]; rfl) T.sl38)) ?_
    refine WL.op rfl (OpK.storeS VI T.sz2 rfl rfl rfl hpp1 ho1 (fun w1 hXw1 ho1 => ?_))
    have hUB := hUB.step hXw1 hkB_1
    have hU0 := hU0.step hXw1 hk0_1
    refine WL.nilS ?_
    refine CW.reg ?_
    refine WL.pure rfl rfl rfl (PV.move rfl) ?_
    refine WL.pure rfl rfl rfl (PV.add rfl rfl (by constructor <;> omega)) ?_
    refine WL.pure rfl rfl rfl (PV.assign rfl) ?_
    refine WL.nil ?_
    refine NQ.block ?_
    refine NQ.then ?_
    refine CW.reg ?_
    refine WL.pure rfl rfl rfl (PV.move rfl) ?_
    refine WL.pure rfl rfl rfl (PV.add rfl rfl (by constructor <;> omega)) ?_
    refine WL.pure rfl rfl rfl (PV.assign rfl) ?_
    refine WL.nil ?_
    refine NQ.next (ρ := [(1, _), (5, _)]) ⟨rfl, rfl, rfl, trivial⟩ ?_
    exact ⟨_, ⟨i + 1, (by simp; omega), rfl, hU0, osE ho1 (by exact marks_set (by omega)), (by first | omega | assumption | (simp_all; done) | (simp_all; omega))⟩, by omega⟩
  try simp only [decide_eq_true_eq, decide_eq_false_iff_not, Bool.not_eq_true', Bool.not_eq_false', Bool.not_eq_eq_eq_not, Bool.not_true, Bool.not_false, Int.not_lt, Int.not_le, Classical.not_not, beq_iff_eq, beq_eq_false_iff_ne] at hc1
  refine CW.exit ?_
  refine XQ.then ?_
  refine XQ.then ?_
  refine XQ.here ?_
  refine NQ.then ?_
  refine CW.seq ?_
  refine CW.reg ?_
  refine WL.pure rfl rfl rfl (PV.move rfl) ?_
  refine WL.pure rfl rfl rfl (PV.assign rfl) ?_
  refine WL.nilS ?_
  refine CW.ret ?_
  refine RQ.r1 rfl ?_
  refine ⟨?_, hUB, osE ho1 ?_⟩
  · skip
    exact iE (by omega)
  · skip
    exact marks_done (by omega) hi
theorem c_laws_markBoolS {w : World} {va : Value} {og : Option Nat} {xs : List Bool} {k : Int} (ho : Osl VB w og va xs) (hk : 0 ≤ k ∧ k + xs.length ≤ 9223372036854775807) : Calls Try.prog 71 #[va, .int .i64 k] w (Ret1 (fun v w' => v = .int .i64 (k + xs.length) ∧ UpdL [og] w w' ∧ Osl VB w' og va (marksB k xs.length))) := by
  refine callsOf (vs := [_, _]) Try.func71 rfl Try.ntmps71 rfl rfl ?_
  have hUB : UpdL [og] w w := UpdL.refl _ _
  have ho1 : Osl VB w og va (xs) := by assumption
  have hkB_1 : OkB [og] w og := OkB.mem (by simp)
  have hgB_1 := OgR.refl w og
  refine CW.seq ?_
  refine CW.reg ?_
  refine WL.pure rfl rfl rfl (PV.assign rfl) ?_
  refine WL.nilS ?_
  refine CW.seq ?_
  refine CW.seq ?_
  refine CW.reg ?_
  refine WL.pure rfl rfl rfl (PV.assign rfl) ?_
  refine WL.nilS ?_
  refine CW.block ?_
  have hlt1 := ho1.ltO
  refine CW.loop (σk := [(0, _)]) (fun ρ wz m => ∃ (i : Nat), ρ = [(1, .int .i64 (k + (i : Nat))), (5, .int .i64 (i : Nat))] ∧ m = xs.length - i ∧ UpdL [og] w wz ∧ Osl VB wz og va (marksB k i ++ xs.drop i) ∧ (i ≤ xs.length)) (ρ₀ := [(1, _), (5, _)]) (m₀ := _) ⟨rfl, rfl, rfl, trivial⟩ ⟨0, (by simp), rfl, (UpdL.refl _ _), osE ho1 (by exact marksB_zero _ _), (by first | omega | rfl | (simp; done) | assumption | (simp_all; done))⟩ ?_
  rintro _ wl1 _ ⟨i, rfl, rfl, hU0, ho1, hi⟩
  have hUB := hUB.trans hU0 ⟨hkB_1, trivial⟩
  have hk0_1 : OkB [og] w og := OkB.mem (by simp)
  have hll : (marksB k i ++ xs.drop i).length = xs.length := by rw [List.length_append, marksB_len, List.length_drop]; omega
  refine CW.seq ?_
  refine CW.seq ?_
  refine CW.reg ?_
  refine WL.pure rfl rfl rfl (PV.move rfl) ?_
  refine WL.pure rfl rfl rfl (PV.move rfl) ?_
  refine WL.pure rfl rfl rfl ((PV.lenOs rfl ho1 T.sl39)) ?_
  refine WL.pure rfl rfl rfl (PV.lss rfl rfl) ?_
  refine WL.nilS ?_
  refine CW.cond rfl (fun hc1 => ?_) (fun hc1 => ?_)
  · skip
    try simp only [decide_eq_true_eq, decide_eq_false_iff_not, Bool.not_eq_true', Bool.not_eq_false', Bool.not_eq_eq_eq_not, Bool.not_true, Bool.not_false, Int.not_lt, Int.not_le, Classical.not_not, beq_iff_eq, beq_eq_false_iff_ne] at hc1
    refine CW.skipS ?_
    refine CW.seq ?_
    refine CW.block ?_
    refine CW.seq ?_
    refine CW.reg ?_
    refine WL.pure rfl rfl rfl (PV.move rfl) ?_
    refine WL.pure rfl rfl rfl (PV.move rfl) ?_
    refine WL.pure rfl rfl rfl (PV.move rfl) ?_
    refine WL.pure rfl rfl rfl (PV.rem rfl rfl (by omega) rfl) ?_
    refine WL.pure rfl rfl rfl (PV.eql rfl rfl) ?_
    first
      | refine WL.atO (x := .tmp 12) (y := .tmp 13) (f := VB) (false) rfl rfl ho1 (by first | omega | (simp; omega) | (simp_all; omega)) (fun p1 hpp1 hcp1 => ?_)
      | refine WL.atOZ (x := .tmp 12) (y := .tmp 13) (f := VB) (false) rfl rfl ho1 (by first | omega | (simp; omega) | (simp_all; omega)) (fun p1 hpp1 hzp1 hcp1 => ?_)
    refine WL.pure rfl rfl rfl ((by first | exact PV.indexAddr hpp1 rfl rfl T.sl39 | exact PV.indexAddr hpp1 rfl (by rw [← hzp1]; rfl) T.sl39)) ?_
    refine WL.op rfl (OpK.storeS VB T.sz4 rfl rfl rfl hpp1 ho1 (fun w1 hXw1 ho1 => ?_))
    have hUB := hUB.step hXw1 hkB_1
    have hU0 := hU0.step hXw1 hk0_1
    refine WL.nilS ?_
    refine CW.reg ?_
    refine WL.pure rfl rfl rfl (PV.move rfl) ?_
    refine WL.pure rfl rfl rfl (PV.add rfl rfl (by constructor <;> omega)) ?_
    refine WL.pure rfl rfl rfl (PV.assign rfl) ?_
    refine WL.nil ?_
    refine NQ.block ?_
    refine NQ.then ?_
    refine CW.reg ?_
    refine WL.pure rfl rfl rfl (PV.move rfl) ?_
    refine WL.pure rfl rfl rfl (PV.add rfl rfl (by constructor <;> omega)) ?_
    refine WL.pure rfl rfl rfl (PV.assign rfl) ?_
    refine WL.nil ?_
    refine NQ.next (ρ := [(1, _), (5, _)]) ⟨rfl, rfl, rfl, trivial⟩ ?_
    exact ⟨_, ⟨i + 1, (by simp; omega), rfl, hU0, osE ho1 (by exact marksB_set (by omega)), (by first | omega | assumption | (simp_all; done) | (simp_all; omega))⟩, by omega⟩
  try simp only [decide_eq_true_eq, decide_eq_false_iff_not, Bool.not_eq_true', Bool.not_eq_false', Bool.not_eq_eq_eq_not, Bool.not_true, Bool.not_false, Int.not_lt, Int.not_le, Classical.not_not, beq_iff_eq, beq_eq_false_iff_ne] at hc1
  refine CW.exit ?_
  refine XQ.then ?_
  refine XQ.then ?_
  refine XQ.here ?_
  refine NQ.then ?_
  refine CW.seq ?_
  refine CW.reg ?_
  refine WL.pure rfl rfl rfl (PV.move rfl) ?_
  refine WL.pure rfl rfl rfl (PV.assign rfl) ?_
  refine WL.nilS ?_
  refine CW.ret ?_
  refine RQ.r1 rfl ?_
  refine ⟨?_, hUB, osE ho1 ?_⟩
  · skip
    exact iE (by omega)
  · skip
    exact marksB_done (by omega) hi
theorem c_laws_markPlain {w : World} {a0 : Int} {a1 : Int} {va2 : Value} {xa2 : List Int} {va3 : Value} {xa3 : List Bool} {oga2 : Option Nat} {oga3 : Option Nat} {k : Int} (ho2 : Osl VI w oga2 va2 xa2) (ho3 : Osl VB w oga3 va3 xa3) (hdd2_3 : Dj oga2 oga3) (hk : 0 ≤ k ∧ k + xa2.length + xa3.length ≤ 9223372036854775807) : Calls Try.prog 33 #[.agg #[.int .i64 a0, .int .i64 a1, va2, va3], .int .i64 k] w (Ret1 (fun v w' => v = .int .i64 (k + xa2.length + xa3.length) ∧ UpdL [oga2, oga3] w w' ∧ Osl VI w' oga2 va2 (marks (k) xa2.length) ∧ Osl VB w' oga3 va3 (marksB (k + xa2.length) xa3.length))) := by
  refine callsOf (vs := [_, _]) Try.func33 rfl Try.ntmps33 rfl rfl ?_
  have hUB : UpdL [oga2, oga3] w w := UpdL.refl _ _
  have ho1 : Osl VI w oga2 va2 (xa2) := by assumption
  have hkB_1 : OkB [oga2, oga3] w oga2 := OkB.mem (by simp)
  have hgB_1 := OgR.refl w oga2
  have ho2 : Osl VB w oga3 va3 (xa3) := by assumption
  have hkB_2 : OkB [oga2, oga3] w oga3 := OkB.mem (by simp)
  have hgB_2 := OgR.refl w oga3
  have hd1_2 : Dj oga2 oga3 := by assumption
  refine CW.seq ?_
  refine CW.reg ?_
  refine WL.op rfl (OpK.box rfl rfl (by first | rfl | exact Rd.cells1 (by assumption) | exact Osl.cells1 (by assumption) | exact Osn.cells1 (by assumption)) (fun b3 w1 hXw1 hb3 hge3 => ?_))
  have hd1_3 := Dj.new ho1.ltO hge3
  have hd2_3 := Dj.new ho2.ltO hge3
  have hkB_3 := OkN.new hUB hge3
  have hgB_3 := OgR.new hUB.size hge3
  have ho1 := ho1.up hXw1
  have ho2 := ho2.up hXw1
  have hUB := hUB.ext hXw1
  refine WL.pure rfl rfl rfl (PV.assign rfl) ?_
  refine WL.nilS ?_
  refine CW.seq ?_
  refine CW.reg ?_
  refine WL.pure rfl rfl rfl ((by first | exact PV.fieldAddr T.fl44_2 rfl (by first | assumption | exact Bx.cells (by assumption)) | exact PV.fieldAddrP T.fl44_2 rfl rfl)) ?_
  refine WL.pure rfl rfl rfl ((by first | exact PV.load0 T.na38 rfl (by first | exact Cells.up (by assumption) hB | exact Bx.cells (by assumption) | assumption) (Ext.refl _) rfl | exact PV.load1 T.na38 rfl (by first | exact Cells.up (by assumption) hB | exact Bx.cells (by assumption) | assumption) (Ext.refl _) rfl)) ?_
  refine WL.pure rfl rfl rfl (PV.move rfl) ?_
  refine WL.op rfl (OpK.call rfl T.cf38 rfl (c_laws_markInt64S (by first | assumption | exact Dj.symm (by assumption)) (by first | assumption | omega | (simp only [marks_len, marksB_len, marksR_len]; omega))) (fun rv1 w2 hR => ?_))
  obtain ⟨rfl, hUC4, ho1⟩ := hR
  have hUB := hUB.trans hUC4 ⟨hkB_1, trivial⟩
  have ho2 := ho2.loop hUC4 ⟨(Dj.symm hd1_2), trivial⟩
  have hb3 := hb3.loop hUC4 ⟨(Dj.symm hd1_3), trivial⟩
  refine WL.pure rfl rfl rfl (PV.assign rfl) ?_
  refine WL.nilS ?_
  refine CW.seq ?_
  refine CW.reg ?_
  refine WL.pure rfl rfl rfl ((by first | exact PV.fieldAddr T.fl44_3 rfl (by first | assumption | exact Bx.cells (by assumption)) | exact PV.fieldAddrP T.fl44_3 rfl rfl)) ?_
  refine WL.pure rfl rfl rfl ((by first | exact PV.load0 T.na39 rfl (by first | exact Cells.up (by assumption) hB | exact Bx.cells (by assumption) | assumption) (Ext.refl _) rfl | exact PV.load1 T.na39 rfl (by first | exact Cells.up (by assumption) hB | exact Bx.cells (by assumption) | assumption) (Ext.refl _) rfl)) ?_
  refine WL.pure rfl rfl rfl (PV.move rfl) ?_
  refine WL.op rfl (OpK.call rfl T.cf71 rfl (c_laws_markBoolS (by first | assumption | exact Dj.symm (by assumption)) (by first | assumption | omega | (simp only [marks_len, marksB_len, marksR_len]; omega))) (fun rv2 w3 hR => ?_))
  obtain ⟨rfl, hUC5, ho2⟩ := hR
  have hUB := hUB.trans hUC5 ⟨hkB_2, trivial⟩
  have ho1 := ho1.loop hUC5 ⟨hd1_2, trivial⟩
  have hb3 := hb3.loop hUC5 ⟨(Dj.symm hd2_3), trivial⟩
  refine WL.pure rfl rfl rfl (PV.assign rfl) ?_
  refine WL.nilS ?_
  refine CW.seq ?_
  refine CW.reg ?_
  refine WL.pure rfl rfl rfl (PV.move rfl) ?_
  refine WL.pure rfl rfl rfl (PV.assign rfl) ?_
  refine WL.nilS ?_
  refine CW.ret ?_
  refine RQ.r1 rfl ?_
  refine ⟨?_, hUB, osE ho1 ?_, osE ho2 ?_⟩
  · skip
    rfl
  · skip
    rfl
  · skip
    rfl
theorem c_laws_markRuleS {w : World} {va : Value} {og : Option Nat} {xs : List R4} {k : Int} (ho : Osn 4 gR w og va xs) (hk : 0 ≤ k ∧ k + 4 * xs.length ≤ 9223372036854775807) : Calls Try.prog 59 #[va, .int .i64 k] w (Ret1 (fun v w' => v = .int .i64 (k + 4 * xs.length) ∧ UpdL [og] w w' ∧ Osn 4 gR w' og va (marksR k xs.length))) := by
  refine callsOf (vs := [_, _]) Try.func59 rfl Try.ntmps59 rfl rfl ?_
  have hUB : UpdL [og] w w := UpdL.refl _ _
  have ho1 : Osn 4 gR w og va (xs) := by assumption
  have hkB_1 : OkB [og] w og := OkB.mem (by simp)
  have hgB_1 := OgR.refl w og
  refine CW.seq ?_
  refine CW.reg ?_
  refine WL.pure rfl rfl rfl (PV.assign rfl) ?_
  refine WL.nilS ?_
  refine CW.seq ?_
  refine CW.seq ?_
  refine CW.reg ?_
  refine WL.pure rfl rfl rfl (PV.assign rfl) ?_
  refine WL.nilS ?_
  refine CW.block ?_
  have hlt1 := ho1.ltO
  refine CW.loop (σk := [(0, _)]) (fun ρ wz m => ∃ (i : Nat), ρ = [(1, .int .i64 (k + 4 * (i : Nat))), (5, .int .i64 (i : Nat))] ∧ m = xs.length - i ∧ UpdL [og] w wz ∧ Osn 4 gR wz og va (marksR k i ++ xs.drop i) ∧ (i ≤ xs.length)) (ρ₀ := [(1, _), (5, _)]) (m₀ := _) ⟨rfl, rfl, rfl, trivial⟩ ⟨0, (by simp), rfl, (UpdL.refl _ _), osnE ho1 (by exact marksR_zero _ _), (by first | omega | rfl | (simp; done) | assumption | (simp_all; done))⟩ ?_
  rintro _ wl1 _ ⟨i, rfl, rfl, hU0, ho1, hi⟩
  have hUB := hUB.trans hU0 ⟨hkB_1, trivial⟩
  have hk0_1 : OkB [og] w og := OkB.mem (by simp)
  have hll : (marksR k i ++ xs.drop i).length = xs.length := by rw [List.length_append, marksR_len, List.length_drop]; omega
  refine CW.seq ?_
  refine CW.seq ?_
  refine CW.reg ?_
  refine WL.pure rfl rfl rfl (PV.move rfl) ?_
  refine WL.pure rfl rfl rfl (PV.move rfl) ?_
  refine WL.pure rfl rfl rfl ((PV.lenOsn rfl ho1 T.sl27)) ?_
  refine WL.pure rfl rfl rfl (PV.lss rfl rfl) ?_
  refine WL.nilS ?_
  refine CW.cond rfl (fun hc1 => ?_) (fun hc1 => ?_)
  · skip
    try simp only [decide_eq_true_eq, decide_eq_false_iff_not, Bool.not_eq_true', Bool.not_eq_false', Bool.not_eq_eq_eq_not, Bool.not_true, Bool.not_false, Int.not_lt, Int.not_le, Classical.not_not, beq_iff_eq, beq_eq_false_iff_ne] at hc1
    refine CW.skipS ?_
    refine CW.seq ?_
    refine CW.block ?_
    refine CW.seq ?_
    refine CW.reg ?_
    refine WL.pure rfl rfl rfl (PV.move rfl) ?_
    refine WL.pure rfl rfl rfl (PV.move rfl) ?_
    refine WL.pure rfl rfl rfl (PV.move rfl) ?_
    have hrdp1 := ho1.rdR
    first
      | refine WL.at (x := .tmp 12) (y := .tmp 13) (E := ER) ((0, 0, 0, 0)) rfl rfl hrdp1 (by first | omega | (simp; omega) | (simp_all; omega)) (fun p1 csp1 hpp1 hcp1 hq => ?_)
      | refine WL.atZ (x := .tmp 12) (y := .tmp 13) (E := ER) ((0, 0, 0, 0)) rfl rfl hrdp1 (by first | omega | (simp; omega) | (simp_all; omega)) (fun p1 csp1 hpp1 hzp1 hcp1 hq => ?_)
    cases hq
    refine WL.pure rfl rfl rfl ((by first | exact PV.indexAddr hpp1 rfl rfl T.sl27 | exact PV.indexAddr hpp1 rfl (by rw [← hzp1]; rfl) T.sl27)) ?_
    refine WL.pure rfl rfl rfl ((by first | exact PV.fieldAddr T.fl67_0 rfl (by first | assumption | exact Bx.cells (by assumption)) | exact PV.fieldAddrP T.fl67_0 rfl rfl)) ?_
    refine WL.op rfl (OpK.storeF (g := gR) (setR0 _ _) (0, 0, 0, 0) T.sz2 rfl rfl rfl rfl (gR_set0 _ _) hpp1 ho1 (fun w1 hXw1 ho1 => ?_))
    have hUB := hUB.step hXw1 hkB_1
    have hU0 := hU0.step hXw1 hk0_1
    refine WL.nilS ?_
    refine CW.seq ?_
    refine CW.reg ?_
    refine WL.pure rfl rfl rfl (PV.move rfl) ?_
    refine WL.pure rfl rfl rfl (PV.add rfl rfl (by constructor <;> omega)) ?_
    refine WL.pure rfl rfl rfl (PV.assign rfl) ?_
    refine WL.nilS ?_
    refine CW.seq ?_
    refine CW.reg ?_
    refine WL.pure rfl rfl rfl (PV.move rfl) ?_
    refine WL.pure rfl rfl rfl (PV.move rfl) ?_
    refine WL.pure rfl rfl rfl (PV.move rfl) ?_
    have hrdp2 := ho1.rdR
    first
      | refine WL.at (x := .tmp 19) (y := .tmp 20) (E := ER) ((0, 0, 0, 0)) rfl rfl hrdp2 (by rw [List.length_set]; omega) (fun p2 csp2 hpp2 hcp2 hq => ?_)
      | refine WL.atZ (x := .tmp 19) (y := .tmp 20) (E := ER) ((0, 0, 0, 0)) rfl rfl hrdp2 (by rw [List.length_set]; omega) (fun p2 csp2 hpp2 hzp2 hcp2 hq => ?_)
    cases hq
    refine WL.pure rfl rfl rfl ((by first | exact PV.indexAddr hpp2 rfl rfl T.sl27 | exact PV.indexAddr hpp2 rfl (by rw [← hzp2]; rfl) T.sl27)) ?_
    refine WL.pure rfl rfl rfl ((by first | exact PV.fieldAddr T.fl67_1 rfl (by first | assumption | exact Bx.cells (by assumption)) | exact PV.fieldAddrP T.fl67_1 rfl rfl)) ?_
    refine WL.op rfl (OpK.storeF (g := gR) (setR1 _ _) (0, 0, 0, 0) T.sz2 rfl rfl rfl rfl (gR_set1 _ _) hpp2 ho1 (fun w2 hXw2 ho1 => ?_))
    have hUB := hUB.step hXw2 hkB_1
    have hU0 := hU0.step hXw2 hk0_1
    refine WL.nilS ?_
    refine CW.seq ?_
    refine CW.reg ?_
    refine WL.pure rfl rfl rfl (PV.move rfl) ?_
    refine WL.pure rfl rfl rfl (PV.add rfl rfl (by constructor <;> omega)) ?_
    refine WL.pure rfl rfl rfl (PV.assign rfl) ?_
    refine WL.nilS ?_
    refine CW.seq ?_
    refine CW.reg ?_
    refine WL.pure rfl rfl rfl (PV.move rfl) ?_
    refine WL.pure rfl rfl rfl (PV.move rfl) ?_
    refine WL.pure rfl rfl rfl (PV.move rfl) ?_
    have hrdp3 := ho1.rdR
    first
      | refine WL.at (x := .tmp 26) (y := .tmp 27) (E := ER) ((0, 0, 0, 0)) rfl rfl hrdp3 (by rw [List.length_set, List.length_set]; omega) (fun p3 csp3 hpp3 hcp3 hq => ?_)
      | refine WL.atZ (x := .tmp 26) (y := .tmp 27) (E := ER) ((0, 0, 0, 0)) rfl rfl hrdp3 (by rw [List.length_set, List.length_set]; omega) (fun p3 csp3 hpp3 hzp3 hcp3 hq => ?_)
    cases hq
    refine WL.pure rfl rfl rfl ((by first | exact PV.indexAddr hpp3 rfl rfl T.sl27 | exact PV.indexAddr hpp3 rfl (by rw [← hzp3]; rfl) T.sl27)) ?_
    refine WL.pure rfl rfl rfl ((by first | exact PV.fieldAddr T.fl67_2 rfl (by first | assumption | exact Bx.cells (by assumption)) | exact PV.fieldAddrP T.fl67_2 rfl rfl)) ?_
    refine WL.op rfl (OpK.storeF (g := gR) (setR2 _ _) (0, 0, 0, 0) T.sz2 rfl rfl rfl rfl (gR_set2 _ _) hpp3 ho1 (fun w3 hXw3 ho1 => ?_))
    have hUB := hUB.step hXw3 hkB_1
    have hU0 := hU0.step hXw3 hk0_1
    refine WL.nilS ?_
    refine CW.seq ?_
    refine CW.reg ?_
    refine WL.pure rfl rfl rfl (PV.move rfl) ?_
    refine WL.pure rfl rfl rfl (PV.add rfl rfl (by constructor <;> omega)) ?_
    refine WL.pure rfl rfl rfl (PV.assign rfl) ?_
    refine WL.nilS ?_
    refine CW.seq ?_
    refine CW.reg ?_
    refine WL.pure rfl rfl rfl (PV.move rfl) ?_
    refine WL.pure rfl rfl rfl (PV.move rfl) ?_
    refine WL.pure rfl rfl rfl (PV.move rfl) ?_
    have hrdp4 := ho1.rdR
    first
      | refine WL.at (x := .tmp 33) (y := .tmp 34) (E := ER) ((0, 0, 0, 0)) rfl rfl hrdp4 (by rw [List.length_set, List.length_set, List.length_set]; omega) (fun p4 csp4 hpp4 hcp4 hq => ?_)
      | refine WL.atZ (x := .tmp 33) (y := .tmp 34) (E := ER) ((0, 0, 0, 0)) rfl rfl hrdp4 (by rw [List.length_set, List.length_set, List.length_set]; omega) (fun p4 csp4 hpp4 hzp4 hcp4 hq => ?_)
    cases hq
    refine WL.pure rfl rfl rfl ((by first | exact PV.indexAddr hpp4 rfl rfl T.sl27 | exact PV.indexAddr hpp4 rfl (by rw [← hzp4]; rfl) T.sl27)) ?_
    refine WL.pure rfl rfl rfl ((by first | exact PV.fieldAddr T.fl67_3 rfl (by first | assumption | exact Bx.cells (by assumption)) | exact PV.fieldAddrP T.fl67_3 rfl rfl)) ?_
    refine WL.op rfl (OpK.storeF (g := gR) (setR3 _ _) (0, 0, 0, 0) T.sz2 rfl rfl rfl rfl (gR_set3 _ _) hpp4 ho1 (fun w4 hXw4 ho1 => ?_))
    have hUB := hUB.step hXw4 hkB_1
    have hU0 := hU0.step hXw4 hk0_1
    refine WL.nilS ?_
    refine CW.reg ?_
    refine WL.pure rfl rfl rfl (PV.move rfl) ?_
    refine WL.pure rfl rfl rfl (PV.add rfl rfl (by constructor <;> omega)) ?_
    refine WL.pure rfl rfl rfl (PV.assign rfl) ?_
    refine WL.nil ?_
    refine NQ.block ?_
    refine NQ.then ?_
    refine CW.reg ?_
    refine WL.pure rfl rfl rfl (PV.move rfl) ?_
    refine WL.pure rfl rfl rfl (PV.add rfl rfl (by constructor <;> omega)) ?_
    refine WL.pure rfl rfl rfl (PV.assign rfl) ?_
    refine WL.nil ?_
    refine NQ.next (ρ := [(1, _), (5, _)]) ⟨rfl, rfl, rfl, trivial⟩ ?_
    exact ⟨_, ⟨i + 1, (by simp; omega), rfl, hU0, osnE ho1 (by rw [set4 (by omega)]; exact marksR_put (by omega)), (by first | omega | assumption | (simp_all; done) | (simp_all; omega))⟩, by omega⟩
  try simp only [decide_eq_true_eq, decide_eq_false_iff_not, Bool.not_eq_true', Bool.not_eq_false', Bool.not_eq_eq_eq_not, Bool.not_true, Bool.not_false, Int.not_lt, Int.not_le, Classical.not_not, beq_iff_eq, beq_eq_false_iff_ne] at hc1
  refine CW.exit ?_
  refine XQ.then ?_
  refine XQ.then ?_
  refine XQ.here ?_
  refine NQ.then ?_
  refine CW.seq ?_
  refine CW.reg ?_
  refine WL.pure rfl rfl rfl (PV.move rfl) ?_
  refine WL.pure rfl rfl rfl (PV.assign rfl) ?_
  refine WL.nilS ?_
  refine CW.ret ?_
  refine RQ.r1 rfl ?_
  refine ⟨?_, hUB, osnE ho1 ?_⟩
  · skip
    exact iE (by omega)
  · skip
    exact marksR_done (by omega) hi
theorem c_laws_markGrammar {w : World} {a0 : Int} {a1 : Int} {va2 : Value} {xa2 : List R4} {oga2 : Option Nat} {k : Int} (ho2 : Osn 4 gR w oga2 va2 xa2) (hk : 0 ≤ k ∧ k + 4 * xa2.length ≤ 9223372036854775807) : Calls Try.prog 24 #[.agg #[.int .i64 a0, .int .i64 a1, va2], .int .i64 k] w (Ret1 (fun v w' => v = .int .i64 (k + 4 * xa2.length) ∧ UpdL [oga2] w w' ∧ Osn 4 gR w' oga2 va2 (marksR k xa2.length))) := by
  refine callsOf (vs := [_, _]) Try.func24 rfl Try.ntmps24 rfl rfl ?_
  have hUB : UpdL [oga2] w w := UpdL.refl _ _
  have ho1 : Osn 4 gR w oga2 va2 (xa2) := by assumption
  have hkB_1 : OkB [oga2] w oga2 := OkB.mem (by simp)
  have hgB_1 := OgR.refl w oga2
  refine CW.seq ?_
  refine CW.reg ?_
  refine WL.op rfl (OpK.box rfl rfl (by first | rfl | exact Rd.cells1 (by assumption) | exact Osl.cells1 (by assumption) | exact Osn.cells1 (by assumption)) (fun b2 w1 hXw1 hb2 hge2 => ?_))
  have hd1_2 := Dj.new ho1.ltO hge2
  have hkB_2 := OkN.new hUB hge2
  have hgB_2 := OgR.new hUB.size hge2
  have ho1 := ho1.up hXw1
  have hUB := hUB.ext hXw1
  refine WL.pure rfl rfl rfl (PV.assign rfl) ?_
  refine WL.nilS ?_
  refine CW.seq ?_
  refine CW.reg ?_
  refine WL.pure rfl rfl rfl ((by first | exact PV.fieldAddr T.fl29_2 rfl (by first | assumption | exact Bx.cells (by assumption)) | exact PV.fieldAddrP T.fl29_2 rfl rfl)) ?_
  refine WL.pure rfl rfl rfl ((by first | exact PV.load0 T.na27 rfl (by first | exact Cells.up (by assumption) hB | exact Bx.cells (by assumption) | assumption) (Ext.refl _) rfl | exact PV.load1 T.na27 rfl (by first | exact Cells.up (by assumption) hB | exact Bx.cells (by assumption) | assumption) (Ext.refl _) rfl)) ?_
  refine WL.pure rfl rfl rfl (PV.move rfl) ?_
  refine WL.op rfl (OpK.call rfl T.cf59 rfl (c_laws_markRuleS (by first | assumption | exact Dj.symm (by assumption)) (by first | assumption | omega | (simp only [marks_len, marksB_len, marksR_len]; omega))) (fun rv1 w2 hR => ?_))
  obtain ⟨rfl, hUC3, ho1⟩ := hR
  have hUB := hUB.trans hUC3 ⟨hkB_1, trivial⟩
  have hb2 := hb2.loop hUC3 ⟨(Dj.symm hd1_2), trivial⟩
  refine WL.pure rfl rfl rfl (PV.assign rfl) ?_
  refine WL.nilS ?_
  refine CW.seq ?_
  refine CW.reg ?_
  refine WL.pure rfl rfl rfl (PV.move rfl) ?_
  refine WL.pure rfl rfl rfl (PV.assign rfl) ?_
  refine WL.nilS ?_
  refine CW.ret ?_
  refine RQ.r1 rfl ?_
  refine ⟨?_, hUB, osnE ho1 ?_⟩
  · skip
    rfl
  · skip
    rfl
theorem c_laws_heldRuleS {w : World} {va : Value} {xs : List R4} {k : Int} (ha : Rd ER w va xs) (hk : 0 ≤ k ∧ k + 4 * xs.length ≤ 9223372036854775807) : Calls Try.prog 60 #[va, .int .i64 k] w (Ret1 (RQt (.int .i64 (if xs = marksR k xs.length then k + 4 * xs.length else -1)) w)) := by
  have hB : Ext w w := Ext.refl w
  have hla := ha.leI
  refine callsOf (vs := [_, _]) Try.func60 rfl Try.ntmps60 rfl rfl ?_
  refine CW.seq ?_
  refine CW.reg ?_
  refine WL.pure rfl rfl rfl (PV.assign rfl) ?_
  refine WL.nilS ?_
  refine CW.seq ?_
  refine CW.seq ?_
  refine CW.reg ?_
  refine WL.pure rfl rfl rfl (PV.assign rfl) ?_
  refine WL.nilS ?_
  refine CW.block ?_
  refine CW.loop (σk := [(0, _)]) (fun ρ wz m => ∃ (i : Nat), ρ = [(1, .int .i64 (k + 4 * (i : Nat))), (5, .int .i64 (i : Nat))] ∧ m = xs.length - i ∧ UpdL [] w wz ∧ (i ≤ xs.length) ∧ (xs.take i = marksR k i)) (ρ₀ := [(1, _), (5, _)]) (m₀ := _) ⟨rfl, rfl, rfl, trivial⟩ ⟨0, (by simp), rfl, (UpdL.refl _ _), (by first | omega | rfl | (simp; done) | assumption | (simp_all; done)), (by simp [marksR])⟩ ?_
  rintro _ wl1 _ ⟨i, rfl, rfl, hU0, hi, he⟩
  have hB := hB.loop hU0 trivial
  refine CW.seq ?_
  refine CW.seq ?_
  refine CW.reg ?_
  refine WL.pure rfl rfl rfl (PV.move rfl) ?_
  refine WL.pure rfl rfl rfl (PV.move rfl) ?_
  refine WL.pure rfl rfl rfl ((by first | exact PV.len rfl (by assumption) T.sl27 | exact PV.lenOs rfl (by assumption) T.sl27)) ?_
  refine WL.pure rfl rfl rfl (PV.lss rfl rfl) ?_
  refine WL.nilS ?_
  refine CW.cond rfl (fun hc1 => ?_) (fun hc1 => ?_)
  · skip
    try simp only [decide_eq_true_eq, decide_eq_false_iff_not, Bool.not_eq_true', Bool.not_eq_false', Bool.not_eq_eq_eq_not, Bool.not_true, Bool.not_false, Int.not_lt, Int.not_le, Classical.not_not, beq_iff_eq, beq_eq_false_iff_ne] at hc1
    refine CW.skipS ?_
    refine CW.seq ?_
    refine CW.block ?_
    refine CW.seq ?_
    refine CW.seq ?_
    refine CW.reg ?_
    refine WL.pure rfl rfl rfl (PV.move rfl) ?_
    refine WL.pure rfl rfl rfl (PV.move rfl) ?_
    first
      | refine WL.at (x := .tmp 12) (y := .tmp 13) (E := ER) ((0, 0, 0, 0)) rfl rfl (by assumption) (by first | omega | (simp; omega) | (simp_all; omega)) (fun p1 csp1 hpp1 hcp1 hq => ?_)
      | refine WL.atZ (x := .tmp 12) (y := .tmp 13) (E := ER) ((0, 0, 0, 0)) rfl rfl (by assumption) (by first | omega | (simp; omega) | (simp_all; omega)) (fun p1 csp1 hpp1 hzp1 hcp1 hq => ?_)
    cases hq
    refine WL.pure rfl rfl rfl ((by first | exact PV.indexAddr hpp1 rfl rfl T.sl27 | exact PV.indexAddr hpp1 rfl (by rw [← hzp1]; rfl) T.sl27)) ?_
    refine WL.pure rfl rfl rfl ((by first | exact PV.fieldAddr T.fl67_0 rfl (by first | assumption | exact Bx.cells (by assumption)) | exact PV.fieldAddrP T.fl67_0 rfl rfl)) ?_
    refine WL.pure rfl rfl rfl ((by first | exact PV.load0 T.na2 rfl (by first | exact Cells.up (by assumption) hB | exact Bx.cells (by assumption) | assumption) (Ext.refl _) rfl | exact PV.load1 T.na2 rfl (by first | exact Cells.up (by assumption) hB | exact Bx.cells (by assumption) | assumption) (Ext.refl _) rfl)) ?_
    refine WL.pure rfl rfl rfl (PV.move rfl) ?_
    refine WL.pure rfl rfl rfl (PV.neq rfl rfl) ?_
    refine WL.nilS ?_
    refine CW.cond rfl (fun hc2 => ?_) (fun hc2 => ?_)
    · skip
      try simp only [decide_eq_true_eq, decide_eq_false_iff_not, Bool.not_eq_true', Bool.not_eq_false', Bool.not_eq_eq_eq_not, Bool.not_true, Bool.not_false, Int.not_lt, Int.not_le, Classical.not_not, beq_iff_eq, beq_eq_false_iff_ne] at hc2
      refine CW.seq ?_
      refine CW.reg ?_
      refine WL.pure rfl rfl rfl (PV.assign rfl) ?_
      refine WL.nilS ?_
      refine CW.ret ?_
      refine RQ.then ?_
      refine RQ.block ?_
      refine RQ.then ?_
      refine RQ.then ?_
      refine RQ.block ?_
      refine RQ.then ?_
      refine RQ.r1 rfl ?_
      refine ⟨?_, hB⟩
      first | (rw [if_neg (marksR_bad (i := i) (by omega) (fun h9 => by first | exact absurd (congrArg (fun r : R4 => r.1) h9) (by assumption) | exact absurd (congrArg (fun r : R4 => r.2.1) h9) (by assumption) | exact absurd (congrArg (fun r : R4 => r.2.2.1) h9) (by assumption) | exact absurd (congrArg (fun r : R4 => r.2.2.2) h9) (by assumption)))]) | (rw [if_pos (marksR_eq (i := i) (by omega) (by omega) he)]; exact iE (by omega))
    try simp only [decide_eq_true_eq, decide_eq_false_iff_not, Bool.not_eq_true', Bool.not_eq_false', Bool.not_eq_eq_eq_not, Bool.not_true, Bool.not_false, Int.not_lt, Int.not_le, Classical.not_not, beq_iff_eq, beq_eq_false_iff_ne] at hc2
    refine CW.skipS ?_
    refine CW.seq ?_
    refine CW.reg ?_
    refine WL.pure rfl rfl rfl (PV.move rfl) ?_
    refine WL.pure rfl rfl rfl (PV.add rfl rfl (by constructor <;> omega)) ?_
    refine WL.pure rfl rfl rfl (PV.assign rfl) ?_
    refine WL.nilS ?_
    refine CW.seq ?_
    refine CW.seq ?_
    refine CW.reg ?_
    refine WL.pure rfl rfl rfl (PV.move rfl) ?_
    refine WL.pure rfl rfl rfl (PV.move rfl) ?_
    first
      | refine WL.at (x := .tmp 21) (y := .tmp 22) (E := ER) ((0, 0, 0, 0)) rfl rfl (by assumption) (by first | omega | (simp; omega) | (simp_all; omega)) (fun p2 csp2 hpp2 hcp2 hq => ?_)
      | refine WL.atZ (x := .tmp 21) (y := .tmp 22) (E := ER) ((0, 0, 0, 0)) rfl rfl (by assumption) (by first | omega | (simp; omega) | (simp_all; omega)) (fun p2 csp2 hpp2 hzp2 hcp2 hq => ?_)
    cases hq
    refine WL.pure rfl rfl rfl ((by first | exact PV.indexAddr hpp2 rfl rfl T.sl27 | exact PV.indexAddr hpp2 rfl (by rw [← hzp2]; rfl) T.sl27)) ?_
    refine WL.pure rfl rfl rfl ((by first | exact PV.fieldAddr T.fl67_1 rfl (by first | assumption | exact Bx.cells (by assumption)) | exact PV.fieldAddrP T.fl67_1 rfl rfl)) ?_
    refine WL.pure rfl rfl rfl ((by first | exact PV.load0 T.na2 rfl (by first | exact Cells.up (by assumption) hB | exact Bx.cells (by assumption) | assumption) (Ext.refl _) rfl | exact PV.load1 T.na2 rfl (by first | exact Cells.up (by assumption) hB | exact Bx.cells (by assumption) | assumption) (Ext.refl _) rfl)) ?_
    refine WL.pure rfl rfl rfl (PV.move rfl) ?_
    refine WL.pure rfl rfl rfl (PV.neq rfl rfl) ?_
    refine WL.nilS ?_
    refine CW.cond rfl (fun hc3 => ?_) (fun hc3 => ?_)
    · skip
      try simp only [decide_eq_true_eq, decide_eq_false_iff_not, Bool.not_eq_true', Bool.not_eq_false', Bool.not_eq_eq_eq_not, Bool.not_true, Bool.not_false, Int.not_lt, Int.not_le, Classical.not_not, beq_iff_eq, beq_eq_false_iff_ne] at hc3
      refine CW.seq ?_
      refine CW.reg ?_
      refine WL.pure rfl rfl rfl (PV.assign rfl) ?_
      refine WL.nilS ?_
      refine CW.ret ?_
      refine RQ.then ?_
      refine RQ.block ?_
      refine RQ.then ?_
      refine RQ.then ?_
      refine RQ.block ?_
      refine RQ.then ?_
      refine RQ.r1 rfl ?_
      refine ⟨?_, hB⟩
      first | (rw [if_neg (marksR_bad (i := i) (by omega) (fun h9 => by first | exact absurd (congrArg (fun r : R4 => r.1) h9) (by assumption) | exact absurd (congrArg (fun r : R4 => r.2.1) h9) (by assumption) | exact absurd (congrArg (fun r : R4 => r.2.2.1) h9) (by assumption) | exact absurd (congrArg (fun r : R4 => r.2.2.2) h9) (by assumption)))]) | (rw [if_pos (marksR_eq (i := i) (by omega) (by omega) he)]; exact iE (by omega))
    try simp only [decide_eq_true_eq, decide_eq_false_iff_not, Bool.not_eq_true', Bool.not_eq_false', Bool.not_eq_eq_eq_not, Bool.not_true, Bool.not_false, Int.not_lt, Int.not_le, Classical.not_not, beq_iff_eq, beq_eq_false_iff_ne] at hc3
    refine CW.skipS ?_
    refine CW.seq ?_
    refine CW.reg ?_
    refine WL.pure rfl rfl rfl (PV.move rfl) ?_
    refine WL.pure rfl rfl rfl (PV.add rfl rfl (by constructor <;> omega)) ?_
    refine WL.pure rfl rfl rfl (PV.assign rfl) ?_
    refine WL.nilS ?_
    refine CW.seq ?_
    refine CW.seq ?_
    refine CW.reg ?_
    refine WL.pure rfl rfl rfl (PV.move rfl) ?_
    refine WL.pure rfl rfl rfl (PV.move rfl) ?_
    first
      | refine WL.at (x := .tmp 30) (y := .tmp 31) (E := ER) ((0, 0, 0, 0)) rfl rfl (by assumption) (by first | omega | (simp; omega) | (simp_all; omega)) (fun p3 csp3 hpp3 hcp3 hq => ?_)
      | refine WL.atZ (x := .tmp 30) (y := .tmp 31) (E := ER) ((0, 0, 0, 0)) rfl rfl (by assumption) (by first | omega | (simp; omega) | (simp_all; omega)) (fun p3 csp3 hpp3 hzp3 hcp3 hq => ?_)
    cases hq
    refine WL.pure rfl rfl rfl ((by first | exact PV.indexAddr hpp3 rfl rfl T.sl27 | exact PV.indexAddr hpp3 rfl (by rw [← hzp3]; rfl) T.sl27)) ?_
    refine WL.pure rfl rfl rfl ((by first | exact PV.fieldAddr T.fl67_2 rfl (by first | assumption | exact Bx.cells (by assumption)) | exact PV.fieldAddrP T.fl67_2 rfl rfl)) ?_
    refine WL.pure rfl rfl rfl ((by first | exact PV.load0 T.na2 rfl (by first | exact Cells.up (by assumption) hB | exact Bx.cells (by assumption) | assumption) (Ext.refl _) rfl | exact PV.load1 T.na2 rfl (by first | exact Cells.up (by assumption) hB | exact Bx.cells (by assumption) | assumption) (Ext.refl _) rfl)) ?_
    refine WL.pure rfl rfl rfl (PV.move rfl) ?_
    refine WL.pure rfl rfl rfl (PV.neq rfl rfl) ?_
    refine WL.nilS ?_
    refine CW.cond rfl (fun hc4 => ?_) (fun hc4 => ?_)
    · skip
      try simp only [decide_eq_true_eq, decide_eq_false_iff_not, Bool.not_eq_true', Bool.not_eq_false', Bool.not_eq_eq_eq_not, Bool.not_true, Bool.not_false, Int.not_lt, Int.not_le, Classical.not_not, beq_iff_eq, beq_eq_false_iff_ne] at hc4
      refine CW.seq ?_
      refine CW.reg ?_
      refine WL.pure rfl rfl rfl (PV.assign rfl) ?_
      refine WL.nilS ?_
      refine CW.ret ?_
      refine RQ.then ?_
      refine RQ.block ?_
      refine RQ.then ?_
      refine RQ.then ?_
      refine RQ.block ?_
      refine RQ.then ?_
      refine RQ.r1 rfl ?_
      refine ⟨?_, hB⟩
      first | (rw [if_neg (marksR_bad (i := i) (by omega) (fun h9 => by first | exact absurd (congrArg (fun r : R4 => r.1) h9) (by assumption) | exact absurd (congrArg (fun r : R4 => r.2.1) h9) (by assumption) | exact absurd (congrArg (fun r : R4 => r.2.2.1) h9) (by assumption) | exact absurd (congrArg (fun r : R4 => r.2.2.2) h9) (by assumption)))]) | (rw [if_pos (marksR_eq (i := i) (by omega) (by omega) he)]; exact iE (by omega))
    try simp only [decide_eq_true_eq, decide_eq_false_iff_not, Bool.not_eq_true', Bool.not_eq_false', Bool.not_eq_eq_eq_not, Bool.not_true, Bool.not_false, Int.not_lt, Int.not_le, Classical.not_not, beq_iff_eq, beq_eq_false_iff_ne] at hc4
    refine CW.skipS ?_
    refine CW.seq ?_
    refine CW.reg ?_
    refine WL.pure rfl rfl rfl (PV.move rfl) ?_
    refine WL.pure rfl rfl rfl (PV.add rfl rfl (by constructor <;> omega)) ?_
    refine WL.pure rfl rfl rfl (PV.assign rfl) ?_
    refine WL.nilS ?_
    refine CW.seq ?_
    refine CW.seq ?_
    refine CW.reg ?_
    refine WL.pure rfl rfl rfl (PV.move rfl) ?_
    refine WL.pure rfl rfl rfl (PV.move rfl) ?_
    first
      | refine WL.at (x := .tmp 39) (y := .tmp 40) (E := ER) ((0, 0, 0, 0)) rfl rfl (by assumption) (by first | omega | (simp; omega) | (simp_all; omega)) (fun p4 csp4 hpp4 hcp4 hq => ?_)
      | refine WL.atZ (x := .tmp 39) (y := .tmp 40) (E := ER) ((0, 0, 0, 0)) rfl rfl (by assumption) (by first | omega | (simp; omega) | (simp_all; omega)) (fun p4 csp4 hpp4 hzp4 hcp4 hq => ?_)
    cases hq
    refine WL.pure rfl rfl rfl ((by first | exact PV.indexAddr hpp4 rfl rfl T.sl27 | exact PV.indexAddr hpp4 rfl (by rw [← hzp4]; rfl) T.sl27)) ?_
    refine WL.pure rfl rfl rfl ((by first | exact PV.fieldAddr T.fl67_3 rfl (by first | assumption | exact Bx.cells (by assumption)) | exact PV.fieldAddrP T.fl67_3 rfl rfl)) ?_
    refine WL.pure rfl rfl rfl ((by first | exact PV.load0 T.na2 rfl (by first | exact Cells.up (by assumption) hB | exact Bx.cells (by assumption) | assumption) (Ext.refl _) rfl | exact PV.load1 T.na2 rfl (by first | exact Cells.up (by assumption) hB | exact Bx.cells (by assumption) | assumption) (Ext.refl _) rfl)) ?_
    refine WL.pure rfl rfl rfl (PV.move rfl) ?_
    refine WL.pure rfl rfl rfl (PV.neq rfl rfl) ?_
    refine WL.nilS ?_
    refine CW.cond rfl (fun hc5 => ?_) (fun hc5 => ?_)
    · skip
      try simp only [decide_eq_true_eq, decide_eq_false_iff_not, Bool.not_eq_true', Bool.not_eq_false', Bool.not_eq_eq_eq_not, Bool.not_true, Bool.not_false, Int.not_lt, Int.not_le, Classical.not_not, beq_iff_eq, beq_eq_false_iff_ne] at hc5
      refine CW.seq ?_
      refine CW.reg ?_
      refine WL.pure rfl rfl rfl (PV.assign rfl) ?_
      refine WL.nilS ?_
      refine CW.ret ?_
      refine RQ.then ?_
      refine RQ.block ?_
      refine RQ.then ?_
      refine RQ.then ?_
      refine RQ.block ?_
      refine RQ.then ?_
      refine RQ.r1 rfl ?_
      refine ⟨?_, hB⟩
      first | (rw [if_neg (marksR_bad (i := i) (by omega) (fun h9 => by first | exact absurd (congrArg (fun r : R4 => r.1) h9) (by assumption) | exact absurd (congrArg (fun r : R4 => r.2.1) h9) (by assumption) | exact absurd (congrArg (fun r : R4 => r.2.2.1) h9) (by assumption) | exact absurd (congrArg (fun r : R4 => r.2.2.2) h9) (by assumption)))]) | (rw [if_pos (marksR_eq (i := i) (by omega) (by omega) he)]; exact iE (by omega))
    try simp only [decide_eq_true_eq, decide_eq_false_iff_not, Bool.not_eq_true', Bool.not_eq_false', Bool.not_eq_eq_eq_not, Bool.not_true, Bool.not_false, Int.not_lt, Int.not_le, Classical.not_not, beq_iff_eq, beq_eq_false_iff_ne] at hc5
    refine CW.skipS ?_
    refine CW.reg ?_
    refine WL.pure rfl rfl rfl (PV.move rfl) ?_
    refine WL.pure rfl rfl rfl (PV.add rfl rfl (by constructor <;> omega)) ?_
    refine WL.pure rfl rfl rfl (PV.assign rfl) ?_
    refine WL.nil ?_
    refine NQ.block ?_
    refine NQ.then ?_
    refine CW.reg ?_
    refine WL.pure rfl rfl rfl (PV.move rfl) ?_
    refine WL.pure rfl rfl rfl (PV.add rfl rfl (by constructor <;> omega)) ?_
    refine WL.pure rfl rfl rfl (PV.assign rfl) ?_
    refine WL.nil ?_
    refine NQ.next (ρ := [(1, _), (5, _)]) ⟨rfl, rfl, rfl, trivial⟩ ?_
    exact ⟨_, ⟨i + 1, (by simp; omega), rfl, hU0, (by first | omega | assumption | (simp_all; done) | (simp_all; omega)), (by exact marksR_step (by omega) he (by assumption) (by assumption) (by assumption) (by assumption))⟩, by omega⟩
  try simp only [decide_eq_true_eq, decide_eq_false_iff_not, Bool.not_eq_true', Bool.not_eq_false', Bool.not_eq_eq_eq_not, Bool.not_true, Bool.not_false, Int.not_lt, Int.not_le, Classical.not_not, beq_iff_eq, beq_eq_false_iff_ne] at hc1
  refine CW.exit ?_
  refine XQ.then ?_
  refine XQ.then ?_
  refine XQ.here ?_
  refine NQ.then ?_
  refine CW.seq ?_
  refine CW.reg ?_
  refine WL.pure rfl rfl rfl (PV.move rfl) ?_
  refine WL.pure rfl rfl rfl (PV.assign rfl) ?_
  refine WL.nilS ?_
  refine CW.ret ?_
  refine RQ.r1 rfl ?_
  refine ⟨?_, hB⟩
  first | (rw [if_neg (marksR_bad (i := i) (by omega) (fun h9 => by first | exact absurd (congrArg (fun r : R4 => r.1) h9) (by assumption) | exact absurd (congrArg (fun r : R4 => r.2.1) h9) (by assumption) | exact absurd (congrArg (fun r : R4 => r.2.2.1) h9) (by assumption) | exact absurd (congrArg (fun r : R4 => r.2.2.2) h9) (by assumption)))]) | (rw [if_pos (marksR_eq (i := i) (by omega) (by omega) he)]; exact iE (by omega))
theorem c_laws_heldGrammar {w : World} {a0 : Int} {a1 : Int} {va2 : Value} {xa2 : List R4} {k : Int} (ha2 : Rd ER w va2 xa2) (hk : 0 ≤ k ∧ k + 4 * xa2.length ≤ 9223372036854775807) : Calls Try.prog 25 #[.agg #[.int .i64 a0, .int .i64 a1, va2], .int .i64 k] w (Ret1 (RQt (.int .i64 (if xa2 = marksR k xa2.length then k + 4 * xa2.length else -1)) w)) := by
  have hB : Ext w w := Ext.refl w
  have hla2 := ha2.leI
  refine callsOf (vs := [_, _]) Try.func25 rfl Try.ntmps25 rfl rfl ?_
  refine CW.seq ?_
  refine CW.reg ?_
  refine WL.op rfl (OpK.box rfl rfl (by first | rfl | exact Rd.cells1 (by assumption) | exact Osl.cells1 (by assumption) | exact Osn.cells1 (by assumption)) (fun b1 w1 hXw1 hb1 hge1 => ?_))
  have hl1 := Lo.new hB hge1
  have hB := hB.trans hXw1
  refine WL.pure rfl rfl rfl (PV.assign rfl) ?_
  refine WL.nilS ?_
  refine CW.seq ?_
  refine CW.reg ?_
  refine WL.pure rfl rfl rfl ((by first | exact PV.fieldAddr T.fl29_2 rfl (by first | assumption | exact Bx.cells (by assumption)) | exact PV.fieldAddrP T.fl29_2 rfl rfl)) ?_
  refine WL.pure rfl rfl rfl ((by first | exact PV.load0 T.na27 rfl (by first | exact Cells.up (by assumption) hB | exact Bx.cells (by assumption) | assumption) (Ext.refl _) rfl | exact PV.load1 T.na27 rfl (by first | exact Cells.up (by assumption) hB | exact Bx.cells (by assumption) | assumption) (Ext.refl _) rfl)) ?_
  refine WL.pure rfl rfl rfl (PV.move rfl) ?_
  refine WL.op rfl (OpK.callR rfl T.cf60 rfl (c_laws_heldRuleS (by first | assumption | exact Rd.up (by assumption) hB | exact Osl.rd (by assumption) | exact Osn.rdR (by assumption)) (by first | assumption | omega | (simp only [marks_len, marksB_len, marksR_len]; omega))) (fun w2 hXw2 => ?_))
  have hB := hB.trans hXw2
  have hb1 := hb1.up hXw2
  refine WL.pure rfl rfl rfl (PV.assign rfl) ?_
  refine WL.nilS ?_
  refine CW.seq ?_
  refine CW.seq ?_
  refine CW.reg ?_
  refine WL.pure rfl rfl rfl (PV.move rfl) ?_
  refine WL.pure rfl rfl rfl (PV.lss rfl rfl) ?_
  refine WL.nilS ?_
  refine CW.cond rfl (fun hc1 => ?_) (fun hc1 => ?_)
  · skip
    try simp only [decide_eq_true_eq, decide_eq_false_iff_not, Bool.not_eq_true', Bool.not_eq_false', Bool.not_eq_eq_eq_not, Bool.not_true, Bool.not_false, Int.not_lt, Int.not_le, Classical.not_not, beq_iff_eq, beq_eq_false_iff_ne] at hc1
    refine CW.seq ?_
    refine CW.reg ?_
    refine WL.pure rfl rfl rfl (PV.assign rfl) ?_
    refine WL.nilS ?_
    refine CW.ret ?_
    refine RQ.then ?_
    refine RQ.r1 rfl ?_
    refine ⟨?_, hB⟩
    first | rfl | (exact iE (by rw [if_neg (held_no (by assumption) (by omega))]))
  try simp only [decide_eq_true_eq, decide_eq_false_iff_not, Bool.not_eq_true', Bool.not_eq_false', Bool.not_eq_eq_eq_not, Bool.not_true, Bool.not_false, Int.not_lt, Int.not_le, Classical.not_not, beq_iff_eq, beq_eq_false_iff_ne] at hc1
  obtain ⟨_, he1⟩ := held_ok (by assumption); rw [he1]; clear he1
  refine CW.skipS ?_
  refine CW.seq ?_
  refine CW.reg ?_
  refine WL.pure rfl rfl rfl (PV.move rfl) ?_
  refine WL.pure rfl rfl rfl (PV.assign rfl) ?_
  refine WL.nilS ?_
  refine CW.ret ?_
  refine RQ.r1 rfl ?_
  refine ⟨?_, hB⟩
  first | rfl | (exact iE (by rw [if_neg (held_no (by assumption) (by omega))]))
theorem c_laws_FnExactGrammarOf {w : World} {a0 : Int} {a1 : Int} {va2 : Value} {xa2 : List Int} {va3 : Value} {xa3 : List Bool}  (ha2 : Rd EI w va2 xa2) (ha3 : Rd EB w va3 xa3) : Calls Try.prog 7 #[.agg #[.int .i64 a0, .int .i64 a1, va2, va3]] w (Ret1 (RQt (.bool true) w)) := by
  have hB : Ext w w := Ext.refl w
  have hla2 := ha2.leI; have hla3 := ha3.leI; have hgl := okG_len a0 a1 xa2 xa3
  refine callsOf (vs := [_]) Try.func7 rfl Try.ntmps7 rfl rfl ?_
  refine CW.seq ?_
  refine CW.reg ?_
  refine WL.op rfl (OpK.box rfl rfl (by first | rfl | exact Rd.cells1 (by assumption) | exact Osl.cells1 (by assumption) | exact Osn.cells1 (by assumption)) (fun b1 w1 hXw1 hb1 hge1 => ?_))
  have hl1 := Lo.new hB hge1
  have hB := hB.trans hXw1
  refine WL.pure rfl rfl rfl (PV.assign rfl) ?_
  refine WL.nilS ?_
  refine CW.seq ?_
  refine CW.reg ?_
  refine WL.pure rfl rfl rfl (PV.assign rfl) ?_
  refine WL.nilS ?_
  refine CW.seq ?_
  refine CW.reg ?_
  refine WL.pure rfl rfl rfl ((by first | exact PV.loadA T.ag41 rfl (by first | exact Cells.up (by assumption) hB | exact Bx.cells (by assumption) | assumption) (Ext.refl _) rfl | exact PV.loadP (ds := [_, _, _, _]) T.ag41 rfl (by first | exact Cells.up (by assumption) hB | exact Bx.cells (by assumption) | assumption) (Ext.refl _) rfl rfl)) ?_
  refine WL.pure rfl rfl rfl (PV.move rfl) ?_
  refine WL.op rfl (OpK.callR rfl T.cf28 rfl (c_laws_szPlain (by first | assumption | exact Rd.up (by assumption) hB | exact Osl.rd (by assumption) | exact Osn.rdR (by assumption)) (by first | assumption | exact Rd.up (by assumption) hB | exact Osl.rd (by assumption) | exact Osn.rdR (by assumption)) (by first | assumption | omega | (simp only [marks_len, marksB_len, marksR_len]; omega))) (fun w2 hXw2 => ?_))
  have hB := hB.trans hXw2
  have hb1 := hb1.up hXw2
  refine WL.pure rfl rfl rfl (PV.assign rfl) ?_
  refine WL.nilS ?_
  refine CW.seq ?_
  refine CW.seq ?_
  refine CW.reg ?_
  refine WL.pure rfl rfl rfl (PV.move rfl) ?_
  refine WL.pure rfl rfl rfl (PV.lss rfl rfl) ?_
  refine WL.nilS ?_
  refine CW.cond rfl (fun hc1 => ?_) (fun hc1 => ?_)
  · skip
    try simp only [decide_eq_true_eq, decide_eq_false_iff_not, Bool.not_eq_true', Bool.not_eq_false', Bool.not_eq_eq_eq_not, Bool.not_true, Bool.not_false, Int.not_lt, Int.not_le, Classical.not_not, beq_iff_eq, beq_eq_false_iff_ne] at hc1
    refine CW.seq ?_
    refine CW.reg ?_
    refine WL.pure rfl rfl rfl (PV.assign rfl) ?_
    refine WL.nilS ?_
    refine CW.ret ?_
    refine RQ.then ?_
    refine RQ.r1 rfl ?_
    refine ⟨?_, hB⟩
    first | rfl | (exfalso; revert hc1; simp; done) | (exfalso; revert hc1; simp; omega) | (exfalso; omega) | first | rfl | exact bT (by omega) | exact bF (by omega) | exact bD (by omega) | exact iE (by omega) | (simp_all; done) | (simp_all; omega) | (simp_all; intros; omega)
  try simp only [decide_eq_true_eq, decide_eq_false_iff_not, Bool.not_eq_true', Bool.not_eq_false', Bool.not_eq_eq_eq_not, Bool.not_true, Bool.not_false, Int.not_lt, Int.not_le, Classical.not_not, beq_iff_eq, beq_eq_false_iff_ne] at hc1
  refine CW.skipS ?_
  refine CW.seq ?_
  refine CW.reg ?_
  refine WL.pure rfl rfl rfl ((by first | exact PV.loadA T.ag41 rfl (by first | exact Cells.up (by assumption) hB | exact Bx.cells (by assumption) | assumption) (Ext.refl _) rfl | exact PV.loadP (ds := [_, _, _, _]) T.ag41 rfl (by first | exact Cells.up (by assumption) hB | exact Bx.cells (by assumption) | assumption) (Ext.refl _) rfl rfl)) ?_
  refine WL.op rfl (OpK.call rfl T.cf30 rfl (c_laws_toPlain (by first | assumption | exact Rd.up (by assumption) hB | exact Osl.rd (by assumption) | exact Osn.rdR (by assumption)) (by first | assumption | exact Rd.up (by assumption) hB | exact Osl.rd (by assumption) | exact Osn.rdR (by assumption)) (by first | assumption | omega | (simp only [marks_len, marksB_len, marksR_len]; omega)) (by first | assumption | omega | (simp only [marks_len, marksB_len, marksR_len]; omega))) (fun rv1 w3 hR => ?_))
  obtain ⟨hXw3, v2, og2, v3, og3, rfl, ho2, hq2, ho3, hq3, hd2_3⟩ := hR
  have hl2 := Lo.up hq2 hB
  have hd1_2 := Dj.lo hb1.ltO hq2
  have hl3 := Lo.up hq3 hB
  have hd1_3 := Dj.lo hb1.ltO hq3
  have hB := hB.trans hXw3
  have hb1 := hb1.up hXw3
  refine WL.op rfl (OpK.call rfl T.cf29 rfl (c_spec_GrammarOf (by first | assumption | exact Rd.up (by assumption) hB | exact Osl.rd (by assumption) | exact Osn.rdR (by assumption)) (by first | assumption | exact Rd.up (by assumption) hB | exact Osl.rd (by assumption) | exact Osn.rdR (by assumption))) (fun rv2 w4 hR => ?_))
  obtain ⟨hXw4, v4, og4, rfl, ho4, hq4⟩ := hR
  have hl4 := Lo.up hq4 hB
  have hd1_4 := Dj.lo hb1.ltO hq4
  have hd2_4 := Dj.lo ho2.ltO hq4
  have hd3_4 := Dj.lo ho3.ltO hq4
  have hB := hB.trans hXw4
  have hb1 := hb1.up hXw4
  have ho2 := ho2.up hXw4
  have ho3 := ho3.up hXw4
  refine WL.pure rfl rfl rfl (PV.move rfl) ?_
  refine WL.pure rfl rfl rfl (PV.extract rfl rfl) ?_
  refine WL.pure rfl rfl rfl (PV.extract rfl rfl) ?_
  refine WL.op rfl (OpK.alloc rfl T.zv29 rfl (fun b5 w5 hXw5 hb5 hge5 => ?_))
  have hl5 := Lo.new hB hge5
  have hd1_5 := Dj.new hb1.ltO hge5
  have hd2_5 := Dj.new ho2.ltO hge5
  have hd3_5 := Dj.new ho3.ltO hge5
  have hd4_5 := Dj.new ho4.ltO hge5
  have hB := hB.trans hXw5
  have hb1 := hb1.up hXw5
  have ho2 := ho2.up hXw5
  have ho3 := ho3.up hXw5
  have ho4 := ho4.up hXw5
  refine WL.op rfl (OpK.storeA T.sz29 rfl rfl rfl rfl (by simp [Value.oneCell'] <;> first | done | (repeat' apply And.intro) <;> first | rfl | exact Osl.oneCell (by assumption) | exact Osn.oneCell (by assumption) | exact Rd.oneCell (by assumption) | assumption) hb5 (fun w6 hXw6 hb5 => ?_))
  have hB := hB.updL hXw6 hl5
  have hb1 := hb1.updD hXw6 hd1_5
  have ho2 := ho2.updD hXw6 hd2_5
  have ho3 := ho3.updD hXw6 hd3_5
  have ho4 := ho4.updD hXw6 hd4_5
  refine WL.pure rfl rfl rfl (PV.assign rfl) ?_
  refine WL.nilS ?_
  refine CW.seq ?_
  refine CW.reg ?_
  refine WL.pure rfl rfl rfl ((by first | exact PV.loadA T.ag41 rfl (by first | exact Cells.up (by assumption) hB | exact Bx.cells (by assumption) | assumption) (Ext.refl _) rfl | exact PV.loadP (ds := [_, _, _, _]) T.ag41 rfl (by first | exact Cells.up (by assumption) hB | exact Bx.cells (by assumption) | assumption) (Ext.refl _) rfl rfl)) ?_
  refine WL.op rfl (OpK.call rfl T.cf30 rfl (c_laws_toPlain (by first | assumption | exact Rd.up (by assumption) hB | exact Osl.rd (by assumption) | exact Osn.rdR (by assumption)) (by first | assumption | exact Rd.up (by assumption) hB | exact Osl.rd (by assumption) | exact Osn.rdR (by assumption)) (by first | assumption | omega | (simp only [marks_len, marksB_len, marksR_len]; omega)) (by first | assumption | omega | (simp only [marks_len, marksB_len, marksR_len]; omega))) (fun rv3 w7 hR => ?_))
  obtain ⟨hXw7, v6, og6, v7, og7, rfl, ho6, hq6, ho7, hq7, hd6_7⟩ := hR
  have hl6 := Lo.up hq6 hB
  have hd1_6 := Dj.lo hb1.ltO hq6
  have hd2_6 := Dj.lo ho2.ltO hq6
  have hd3_6 := Dj.lo ho3.ltO hq6
  have hd4_6 := Dj.lo ho4.ltO hq6
  have hd5_6 := Dj.lo hb5.ltO hq6
  have hl7 := Lo.up hq7 hB
  have hd1_7 := Dj.lo hb1.ltO hq7
  have hd2_7 := Dj.lo ho2.ltO hq7
  have hd3_7 := Dj.lo ho3.ltO hq7
  have hd4_7 := Dj.lo ho4.ltO hq7
  have hd5_7 := Dj.lo hb5.ltO hq7
  have hB := hB.trans hXw7
  have hb1 := hb1.up hXw7
  have ho2 := ho2.up hXw7
  have ho3 := ho3.up hXw7
  have ho4 := ho4.up hXw7
  have hb5 := hb5.up hXw7
  refine WL.op rfl (OpK.alloc rfl T.zv44 rfl (fun b8 w8 hXw8 hb8 hge8 => ?_))
  have hl8 := Lo.new hB hge8
  have hd1_8 := Dj.new hb1.ltO hge8
  have hd2_8 := Dj.new ho2.ltO hge8
  have hd3_8 := Dj.new ho3.ltO hge8
  have hd4_8 := Dj.new ho4.ltO hge8
  have hd5_8 := Dj.new hb5.ltO hge8
  have hd6_8 := Dj.new ho6.ltO hge8
  have hd7_8 := Dj.new ho7.ltO hge8
  have hB := hB.trans hXw8
  have hb1 := hb1.up hXw8
  have ho2 := ho2.up hXw8
  have ho3 := ho3.up hXw8
  have ho4 := ho4.up hXw8
  have hb5 := hb5.up hXw8
  have ho6 := ho6.up hXw8
  have ho7 := ho7.up hXw8
  refine WL.op rfl (OpK.storeA T.sz44 rfl rfl rfl rfl (by simp [Value.oneCell'] <;> first | done | (repeat' apply And.intro) <;> first | rfl | exact Osl.oneCell (by assumption) | exact Osn.oneCell (by assumption) | exact Rd.oneCell (by assumption) | assumption) hb8 (fun w9 hXw9 hb8 => ?_))
  have hB := hB.updL hXw9 hl8
  have hb1 := hb1.updD hXw9 hd1_8
  have ho2 := ho2.updD hXw9 hd2_8
  have ho3 := ho3.updD hXw9 hd3_8
  have ho4 := ho4.updD hXw9 hd4_8
  have hb5 := hb5.updD hXw9 hd5_8
  have ho6 := ho6.updD hXw9 hd6_8
  have ho7 := ho7.updD hXw9 hd7_8
  refine WL.nilS ?_
  refine CW.seq ?_
  refine CW.reg ?_
  refine WL.pure rfl rfl rfl ((by first | exact PV.loadA T.ag44 rfl (by first | exact Cells.up (by assumption) hB | exact Bx.cells (by assumption) | assumption) (Ext.refl _) rfl | exact PV.loadP (ds := [_, _, _, _]) T.ag44 rfl (by first | exact Cells.up (by assumption) hB | exact Bx.cells (by assumption) | assumption) (Ext.refl _) rfl rfl)) ?_
  refine WL.op rfl (OpK.call rfl T.cf31 rfl (c_impl_GrammarOf (by first | assumption | exact Rd.up (by assumption) hB | exact Osl.rd (by assumption) | exact Osn.rdR (by assumption)) (by first | assumption | exact Rd.up (by assumption) hB | exact Osl.rd (by assumption) | exact Osn.rdR (by assumption))) (fun rv4 w10 hR => ?_))
  obtain ⟨hXw10, v9, og9, rfl, ho9, hq9⟩ := hR
  have hl9 := Lo.up hq9 hB
  have hd1_9 := Dj.lo hb1.ltO hq9
  have hd2_9 := Dj.lo ho2.ltO hq9
  have hd3_9 := Dj.lo ho3.ltO hq9
  have hd4_9 := Dj.lo ho4.ltO hq9
  have hd5_9 := Dj.lo hb5.ltO hq9
  have hd6_9 := Dj.lo ho6.ltO hq9
  have hd7_9 := Dj.lo ho7.ltO hq9
  have hd8_9 := Dj.lo hb8.ltO hq9
  have hB := hB.trans hXw10
  have hb1 := hb1.up hXw10
  have ho2 := ho2.up hXw10
  have ho3 := ho3.up hXw10
  have ho4 := ho4.up hXw10
  have hb5 := hb5.up hXw10
  have ho6 := ho6.up hXw10
  have ho7 := ho7.up hXw10
  have hb8 := hb8.up hXw10
  refine WL.pure rfl rfl rfl (PV.move rfl) ?_
  refine WL.pure rfl rfl rfl (PV.extract rfl rfl) ?_
  refine WL.pure rfl rfl rfl (PV.extract rfl rfl) ?_
  refine WL.op rfl (OpK.alloc rfl T.zv29 rfl (fun b10 w11 hXw11 hb10 hge10 => ?_))
  have hl10 := Lo.new hB hge10
  have hd1_10 := Dj.new hb1.ltO hge10
  have hd2_10 := Dj.new ho2.ltO hge10
  have hd3_10 := Dj.new ho3.ltO hge10
  have hd4_10 := Dj.new ho4.ltO hge10
  have hd5_10 := Dj.new hb5.ltO hge10
  have hd6_10 := Dj.new ho6.ltO hge10
  have hd7_10 := Dj.new ho7.ltO hge10
  have hd8_10 := Dj.new hb8.ltO hge10
  have hd9_10 := Dj.new ho9.ltO hge10
  have hB := hB.trans hXw11
  have hb1 := hb1.up hXw11
  have ho2 := ho2.up hXw11
  have ho3 := ho3.up hXw11
  have ho4 := ho4.up hXw11
  have hb5 := hb5.up hXw11
  have ho6 := ho6.up hXw11
  have ho7 := ho7.up hXw11
  have hb8 := hb8.up hXw11
  have ho9 := ho9.up hXw11
  refine WL.op rfl (OpK.storeA T.sz29 rfl rfl rfl rfl (by simp [Value.oneCell'] <;> first | done | (repeat' apply And.intro) <;> first | rfl | exact Osl.oneCell (by assumption) | exact Osn.oneCell (by assumption) | exact Rd.oneCell (by assumption) | assumption) hb10 (fun w12 hXw12 hb10 => ?_))
  have hB := hB.updL hXw12 hl10
  have hb1 := hb1.updD hXw12 hd1_10
  have ho2 := ho2.updD hXw12 hd2_10
  have ho3 := ho3.updD hXw12 hd3_10
  have ho4 := ho4.updD hXw12 hd4_10
  have hb5 := hb5.updD hXw12 hd5_10
  have ho6 := ho6.updD hXw12 hd6_10
  have ho7 := ho7.updD hXw12 hd7_10
  have hb8 := hb8.updD hXw12 hd8_10
  have ho9 := ho9.updD hXw12 hd9_10
  refine WL.pure rfl rfl rfl (PV.assign rfl) ?_
  refine WL.nilS ?_
  refine CW.seq ?_
  refine CW.seq ?_
  refine CW.reg ?_
  refine WL.pure rfl rfl rfl ((by first | exact PV.loadA T.ag29 rfl (by first | exact Cells.up (by assumption) hB | exact Bx.cells (by assumption) | assumption) (Ext.refl _) rfl | exact PV.loadP (ds := [_, _, _]) T.ag29 rfl (by first | exact Cells.up (by assumption) hB | exact Bx.cells (by assumption) | assumption) (Ext.refl _) rfl rfl)) ?_
  refine WL.pure rfl rfl rfl ((by first | exact PV.loadA T.ag29 rfl (by first | exact Cells.up (by assumption) hB | exact Bx.cells (by assumption) | assumption) (Ext.refl _) rfl | exact PV.loadP (ds := [_, _, _]) T.ag29 rfl (by first | exact Cells.up (by assumption) hB | exact Bx.cells (by assumption) | assumption) (Ext.refl _) rfl rfl)) ?_
  refine WL.op rfl (OpK.callR rfl T.cf19 rfl (c_laws_eqGrammar (by first | assumption | exact Rd.up (by assumption) hB | exact Osl.rd (by assumption) | exact Osn.rdR (by assumption)) (by first | assumption | exact Rd.up (by assumption) hB | exact Osl.rd (by assumption) | exact Osn.rdR (by assumption))) (fun w13 hXw13 => ?_))
  have hB := hB.trans hXw13
  have hb1 := hb1.up hXw13
  have ho2 := ho2.up hXw13
  have ho3 := ho3.up hXw13
  have ho4 := ho4.up hXw13
  have hb5 := hb5.up hXw13
  have ho6 := ho6.up hXw13
  have ho7 := ho7.up hXw13
  have hb8 := hb8.up hXw13
  have ho9 := ho9.up hXw13
  have hb10 := hb10.up hXw13
  refine WL.pure rfl rfl rfl (PV.not rfl) ?_
  refine WL.pure rfl rfl rfl (PV.move rfl) ?_
  refine WL.split (t := 36) rfl (fun hc2 => ?_) (fun hc2 => ?_)
  · skip
    try simp only [decide_eq_true_eq, decide_eq_false_iff_not, Bool.not_eq_true', Bool.not_eq_false', Bool.not_eq_eq_eq_not, Bool.not_true, Bool.not_false, Int.not_lt, Int.not_le, Classical.not_not, beq_iff_eq, beq_eq_false_iff_ne] at hc2
    refine WL.skip rfl rfl rfl rfl rfl ?_
    refine WL.skip rfl rfl rfl rfl rfl ?_
    refine WL.skip rfl rfl rfl rfl rfl ?_
    refine WL.pure rfl rfl rfl (PV.pickT rfl rfl) ?_
    refine WL.nilS ?_
    refine CW.condT rfl ?_
    refine CW.seq ?_
    refine CW.reg ?_
    refine WL.pure rfl rfl rfl (PV.assign rfl) ?_
    refine WL.nilS ?_
    refine CW.ret ?_
    refine RQ.then ?_
    refine RQ.r1 rfl ?_
    refine ⟨?_, hB⟩
    first | rfl | (exfalso; revert hc2; simp; done) | (exfalso; revert hc2; simp; omega) | (exfalso; omega) | first | rfl | exact bT (by omega) | exact bF (by omega) | exact bD (by omega) | exact iE (by omega) | (simp_all; done) | (simp_all; omega) | (simp_all; intros; omega)
  try simp only [decide_eq_true_eq, decide_eq_false_iff_not, Bool.not_eq_true', Bool.not_eq_false', Bool.not_eq_eq_eq_not, Bool.not_true, Bool.not_false, Int.not_lt, Int.not_le, Classical.not_not, beq_iff_eq, beq_eq_false_iff_ne] at hc2
  refine WL.pureG rfl rfl rfl rfl rfl (PV.move rfl) ?_
  refine WL.pureG rfl rfl rfl rfl rfl (PV.move rfl) ?_
  refine WL.pureG rfl rfl rfl rfl rfl (PV.neqB T.bl4 rfl rfl) ?_
  refine WL.pure rfl rfl rfl (PV.pickF rfl rfl) ?_
  refine WL.nilS ?_
  refine CW.cond rfl (fun hc3 => ?_) (fun hc3 => ?_)
  · skip
    try simp only [decide_eq_true_eq, decide_eq_false_iff_not, Bool.not_eq_true', Bool.not_eq_false', Bool.not_eq_eq_eq_not, Bool.not_true, Bool.not_false, Int.not_lt, Int.not_le, Classical.not_not, beq_iff_eq, beq_eq_false_iff_ne] at hc3
    refine CW.seq ?_
    refine CW.reg ?_
    refine WL.pure rfl rfl rfl (PV.assign rfl) ?_
    refine WL.nilS ?_
    refine CW.ret ?_
    refine RQ.then ?_
    refine RQ.r1 rfl ?_
    refine ⟨?_, hB⟩
    first | rfl | (exfalso; revert hc3; simp; done) | (exfalso; revert hc3; simp; omega) | (exfalso; omega) | first | rfl | exact bT (by omega) | exact bF (by omega) | exact bD (by omega) | exact iE (by omega) | (simp_all; done) | (simp_all; omega) | (simp_all; intros; omega)
  try simp only [decide_eq_true_eq, decide_eq_false_iff_not, Bool.not_eq_true', Bool.not_eq_false', Bool.not_eq_eq_eq_not, Bool.not_true, Bool.not_false, Int.not_lt, Int.not_le, Classical.not_not, beq_iff_eq, beq_eq_false_iff_ne] at hc3
  refine CW.skipS ?_
  refine CW.seq ?_
  refine CW.seq ?_
  refine CW.draw T.mixed (by kernel_rfl) (fun _ _ _ _ _ h => h) (fun w8 w9 => Upd none w8 w9) 5 (.take 0 (.take 1 (.must 2 (.must 3 (.take 4 .done))))) (by kernel_rfl) (fun w14 hXd => ?_)
  have hB := hB.trans hXd
  have hb1 := hb1.up hXd
  have ho2 := ho2.up hXd
  have ho3 := ho3.up hXd
  have ho4 := ho4.up hXd
  have hb5 := hb5.up hXd
  have ho6 := ho6.up hXd
  have ho7 := ho7.up hXd
  have hb8 := hb8.up hXd
  have ho9 := ho9.up hXd
  have hb10 := hb10.up hXd
  have hBr := hB
  have hS : Upd none w14 w14 := Ext.toUpd (Ext.refl _)
  refine HP.take rfl rfl rfl rfl hS (fun wS hS1 => (by first | exact PV.loadA T.ag44 rfl (by first | exact Cells.up (by assumption) (hBr.trans hS1) | exact Bx.cells (Bx.updD (by assumption) hS1 (Dj.nlR _)) | exact Cells.upd (by assumption) hS1 (by simp)) (Ext.refl _) rfl | exact PV.loadP (ds := [_, _, _, _]) T.ag44 rfl (by first | exact Cells.up (by assumption) (hBr.trans hS1) | exact Bx.cells (Bx.updD (by assumption) hS1 (Dj.nlR _)) | exact Cells.upd (by assumption) hS1 (by simp)) (Ext.refl _) rfl rfl)) ?_
  refine HP.take rfl rfl rfl rfl hS (fun wS hS1 => (by first | exact PV.loadA T.ag41 rfl (by first | exact Cells.up (by assumption) (hBr.trans hS1) | exact Bx.cells (Bx.updD (by assumption) hS1 (Dj.nlR _)) | exact Cells.upd (by assumption) hS1 (by simp)) (Ext.refl _) rfl | exact PV.loadP (ds := [_, _, _, _]) T.ag41 rfl (by first | exact Cells.up (by assumption) (hBr.trans hS1) | exact Bx.cells (Bx.updD (by assumption) hS1 (Dj.nlR _)) | exact Cells.upd (by assumption) hS1 (by simp)) (Ext.refl _) rfl rfl)) ?_
  refine HP.must rfl rfl (OpK.call rfl T.cf30 rfl (c_laws_toPlain (by first | assumption | exact Rd.up (by assumption) hB | exact Osl.rd (by assumption) | exact Osn.rdR (by assumption)) (by first | assumption | exact Rd.up (by assumption) hB | exact Osl.rd (by assumption) | exact Osn.rdR (by assumption)) (by first | assumption | omega | (simp only [marks_len, marksB_len, marksR_len]; omega)) (by first | assumption | omega | (simp only [marks_len, marksB_len, marksR_len]; omega))) (fun rv5 w15 hR => ?_))
  obtain ⟨hXw15, v11, og11, v12, og12, rfl, ho11, hq11, ho12, hq12, hd11_12⟩ := hR
  have hl11 := Lo.up hq11 hB
  have hv11 := Lo.up hq11 hS
  have hd1_11 := Dj.lo hb1.ltO hq11
  have hd2_11 := Dj.lo ho2.ltO hq11
  have hd3_11 := Dj.lo ho3.ltO hq11
  have hd4_11 := Dj.lo ho4.ltO hq11
  have hd5_11 := Dj.lo hb5.ltO hq11
  have hd6_11 := Dj.lo ho6.ltO hq11
  have hd7_11 := Dj.lo ho7.ltO hq11
  have hd8_11 := Dj.lo hb8.ltO hq11
  have hd9_11 := Dj.lo ho9.ltO hq11
  have hd10_11 := Dj.lo hb10.ltO hq11
  have hl12 := Lo.up hq12 hB
  have hv12 := Lo.up hq12 hS
  have hd1_12 := Dj.lo hb1.ltO hq12
  have hd2_12 := Dj.lo ho2.ltO hq12
  have hd3_12 := Dj.lo ho3.ltO hq12
  have hd4_12 := Dj.lo ho4.ltO hq12
  have hd5_12 := Dj.lo hb5.ltO hq12
  have hd6_12 := Dj.lo ho6.ltO hq12
  have hd7_12 := Dj.lo ho7.ltO hq12
  have hd8_12 := Dj.lo hb8.ltO hq12
  have hd9_12 := Dj.lo ho9.ltO hq12
  have hd10_12 := Dj.lo hb10.ltO hq12
  refine ⟨Upd.trans hS hXw15, ?_⟩
  have hS := Upd.trans hS hXw15
  have hB := hB.trans hXw15
  have hb1 := hb1.up hXw15
  have ho2 := ho2.up hXw15
  have ho3 := ho3.up hXw15
  have ho4 := ho4.up hXw15
  have hb5 := hb5.up hXw15
  have ho6 := ho6.up hXw15
  have ho7 := ho7.up hXw15
  have hb8 := hb8.up hXw15
  have ho9 := ho9.up hXw15
  have hb10 := hb10.up hXw15
  refine HP.must rfl rfl (OpK.callR rfl T.cf32 rfl (c_laws_eqPlain (by first | assumption | exact Rd.up (by assumption) hB | exact Osl.rd (by assumption) | exact Osn.rdR (by assumption)) (by first | assumption | exact Rd.up (by assumption) hB | exact Osl.rd (by assumption) | exact Osn.rdR (by assumption)) (by first | assumption | exact Rd.up (by assumption) hB | exact Osl.rd (by assumption) | exact Osn.rdR (by assumption)) (by first | assumption | exact Rd.up (by assumption) hB | exact Osl.rd (by assumption) | exact Osn.rdR (by assumption))) (fun w16 hXw16 => ?_))
  refine ⟨Upd.trans hS hXw16, ?_⟩
  have hS := Upd.trans hS hXw16
  have hB := hB.trans hXw16
  have hb1 := hb1.up hXw16
  have ho2 := ho2.up hXw16
  have ho3 := ho3.up hXw16
  have ho4 := ho4.up hXw16
  have hb5 := hb5.up hXw16
  have ho6 := ho6.up hXw16
  have ho7 := ho7.up hXw16
  have hb8 := hb8.up hXw16
  have ho9 := ho9.up hXw16
  have hb10 := hb10.up hXw16
  have ho11 := ho11.up hXw16
  have ho12 := ho12.up hXw16
  refine HP.take rfl rfl rfl rfl hS (fun wS hS1 => PV.not rfl) ?_
  refine HP.doneS ?_
  refine CW.cond rfl (fun hc4 => ?_) (fun hc4 => ?_)
  · skip
    try simp only [decide_eq_true_eq, decide_eq_false_iff_not, Bool.not_eq_true', Bool.not_eq_false', Bool.not_eq_eq_eq_not, Bool.not_true, Bool.not_false, Int.not_lt, Int.not_le, Classical.not_not, beq_iff_eq, beq_eq_false_iff_ne] at hc4
    refine CW.seq ?_
    refine CW.reg ?_
    refine WL.pure rfl rfl rfl (PV.assign rfl) ?_
    refine WL.nilS ?_
    refine CW.ret ?_
    refine RQ.then ?_
    refine RQ.r1 rfl ?_
    refine ⟨?_, hB⟩
    first | rfl | (exfalso; revert hc4; simp; done) | (exfalso; revert hc4; simp; omega) | (exfalso; omega) | first | rfl | exact bT (by omega) | exact bF (by omega) | exact bD (by omega) | exact iE (by omega) | (simp_all; done) | (simp_all; omega) | (simp_all; intros; omega)
  try simp only [decide_eq_true_eq, decide_eq_false_iff_not, Bool.not_eq_true', Bool.not_eq_false', Bool.not_eq_eq_eq_not, Bool.not_true, Bool.not_false, Int.not_lt, Int.not_le, Classical.not_not, beq_iff_eq, beq_eq_false_iff_ne] at hc4
  refine CW.skipS ?_
  refine CW.seq ?_
  refine CW.reg ?_
  refine WL.pure rfl rfl rfl (PV.assign rfl) ?_
  refine WL.nilS ?_
  refine CW.seq ?_
  refine CW.reg ?_
  refine WL.pure rfl rfl rfl ((by first | exact PV.loadA T.ag44 rfl (by first | exact Cells.up (by assumption) hB | exact Bx.cells (by assumption) | assumption) (Ext.refl _) rfl | exact PV.loadP (ds := [_, _, _, _]) T.ag44 rfl (by first | exact Cells.up (by assumption) hB | exact Bx.cells (by assumption) | assumption) (Ext.refl _) rfl rfl)) ?_
  refine WL.pure rfl rfl rfl (PV.move rfl) ?_
  refine WL.op rfl (OpK.call rfl T.cf33 rfl (c_laws_markPlain (by first | assumption | exact Dj.symm (by assumption)) (by first | assumption | exact Dj.symm (by assumption)) (by first | assumption | exact Dj.symm (by assumption)) (by first | assumption | omega | (simp only [marks_len, marksB_len, marksR_len]; omega))) (fun rv6 w17 hR => ?_))
  obtain ⟨rfl, hUC13, ho6, ho7⟩ := hR
  have hb1 := hb1.loop hUC13 ⟨hd1_6, hd1_7, trivial⟩
  have ho2 := ho2.loop hUC13 ⟨hd2_6, hd2_7, trivial⟩
  have ho3 := ho3.loop hUC13 ⟨hd3_6, hd3_7, trivial⟩
  have ho4 := ho4.loop hUC13 ⟨hd4_6, hd4_7, trivial⟩
  have hb5 := hb5.loop hUC13 ⟨hd5_6, hd5_7, trivial⟩
  have hb8 := hb8.loop hUC13 ⟨(Dj.symm hd6_8), (Dj.symm hd7_8), trivial⟩
  have ho9 := ho9.loop hUC13 ⟨(Dj.symm hd6_9), (Dj.symm hd7_9), trivial⟩
  have hb10 := hb10.loop hUC13 ⟨(Dj.symm hd6_10), (Dj.symm hd7_10), trivial⟩
  have ho11 := ho11.loop hUC13 ⟨(Dj.symm hd6_11), (Dj.symm hd7_11), trivial⟩
  have ho12 := ho12.loop hUC13 ⟨(Dj.symm hd6_12), (Dj.symm hd7_12), trivial⟩
  have hB := hB.loop hUC13 ⟨hl6, hl7, trivial⟩
  refine WL.pure rfl rfl rfl (PV.assign rfl) ?_
  refine WL.nilS ?_
  refine CW.seq ?_
  refine CW.seq ?_
  refine CW.reg ?_
  refine WL.pure rfl rfl rfl (PV.move rfl) ?_
  refine WL.pure rfl rfl rfl (PV.lss rfl rfl) ?_
  refine WL.pure rfl rfl rfl (PV.move rfl) ?_
  refine WL.split (t := 51) rfl (fun hc5 => ?_) (fun hc5 => ?_)
  · skip
    try simp only [decide_eq_true_eq, decide_eq_false_iff_not, Bool.not_eq_true', Bool.not_eq_false', Bool.not_eq_eq_eq_not, Bool.not_true, Bool.not_false, Int.not_lt, Int.not_le, Classical.not_not, beq_iff_eq, beq_eq_false_iff_ne] at hc5
    refine WL.skip rfl rfl rfl rfl rfl ?_
    refine WL.skip rfl rfl rfl rfl rfl ?_
    refine WL.skip rfl rfl rfl rfl rfl ?_
    refine WL.skip rfl rfl rfl rfl rfl ?_
    refine WL.pure rfl rfl rfl (PV.pickT rfl rfl) ?_
    refine WL.pure rfl rfl rfl (PV.move rfl) ?_
    refine WL.skip rfl rfl rfl rfl rfl ?_
    refine WL.skip rfl rfl rfl rfl rfl ?_
    refine WL.skip rfl rfl rfl rfl rfl ?_
    refine WL.pure rfl rfl rfl (PV.pickT rfl rfl) ?_
    refine WL.nilS ?_
    refine CW.condT rfl ?_
    refine CW.seq ?_
    refine CW.reg ?_
    refine WL.pure rfl rfl rfl (PV.assign rfl) ?_
    refine WL.nilS ?_
    refine CW.ret ?_
    refine RQ.then ?_
    refine RQ.r1 rfl ?_
    refine ⟨?_, hB⟩
    first | rfl | (exfalso; revert hc5; simp; done) | (exfalso; revert hc5; simp; omega) | (exfalso; omega) | first | rfl | exact bT (by omega) | exact bF (by omega) | exact bD (by omega) | exact iE (by omega) | (simp_all; done) | (simp_all; omega) | (simp_all; intros; omega)
  try simp only [decide_eq_true_eq, decide_eq_false_iff_not, Bool.not_eq_true', Bool.not_eq_false', Bool.not_eq_eq_eq_not, Bool.not_true, Bool.not_false, Int.not_lt, Int.not_le, Classical.not_not, beq_iff_eq, beq_eq_false_iff_ne] at hc5
  refine WL.pureG rfl rfl rfl rfl rfl ((by first | exact PV.loadA T.ag29 rfl (by first | exact Cells.up (by assumption) hB | exact Bx.cells (by assumption) | assumption) (Ext.refl _) rfl | exact PV.loadP (ds := [_, _, _]) T.ag29 rfl (by first | exact Cells.up (by assumption) hB | exact Bx.cells (by assumption) | assumption) (Ext.refl _) rfl rfl)) ?_
  refine WL.pureG rfl rfl rfl rfl rfl ((by first | exact PV.loadA T.ag29 rfl (by first | exact Cells.up (by assumption) hB | exact Bx.cells (by assumption) | assumption) (Ext.refl _) rfl | exact PV.loadP (ds := [_, _, _]) T.ag29 rfl (by first | exact Cells.up (by assumption) hB | exact Bx.cells (by assumption) | assumption) (Ext.refl _) rfl rfl)) ?_
  refine WL.opG rfl rfl rfl (OpK.callR rfl T.cf19 rfl (c_laws_eqGrammar (by first | assumption | exact Rd.up (by assumption) hB | exact Osl.rd (by assumption) | exact Osn.rdR (by assumption)) (by first | assumption | exact Rd.up (by assumption) hB | exact Osl.rd (by assumption) | exact Osn.rdR (by assumption))) (fun w18 hXw18 => ?_))
  have hB := hB.trans hXw18
  have hb1 := hb1.up hXw18
  have ho2 := ho2.up hXw18
  have ho3 := ho3.up hXw18
  have ho4 := ho4.up hXw18
  have hb5 := hb5.up hXw18
  have ho6 := ho6.up hXw18
  have ho7 := ho7.up hXw18
  have hb8 := hb8.up hXw18
  have ho9 := ho9.up hXw18
  have hb10 := hb10.up hXw18
  have ho11 := ho11.up hXw18
  have ho12 := ho12.up hXw18
  refine WL.pureG rfl rfl rfl rfl rfl (PV.not rfl) ?_
  refine WL.pure rfl rfl rfl (PV.pickF rfl rfl) ?_
  refine WL.pure rfl rfl rfl (PV.move rfl) ?_
  refine WL.split (t := 57) rfl (fun hc6 => ?_) (fun hc6 => ?_)
  · skip
    try simp only [decide_eq_true_eq, decide_eq_false_iff_not, Bool.not_eq_true', Bool.not_eq_false', Bool.not_eq_eq_eq_not, Bool.not_true, Bool.not_false, Int.not_lt, Int.not_le, Classical.not_not, beq_iff_eq, beq_eq_false_iff_ne] at hc6
    refine WL.skip rfl rfl rfl rfl rfl ?_
    refine WL.skip rfl rfl rfl rfl rfl ?_
    refine WL.skip rfl rfl rfl rfl rfl ?_
    refine WL.pure rfl rfl rfl (PV.pickT rfl rfl) ?_
    refine WL.nilS ?_
    refine CW.condT rfl ?_
    refine CW.seq ?_
    refine CW.reg ?_
    refine WL.pure rfl rfl rfl (PV.assign rfl) ?_
    refine WL.nilS ?_
    refine CW.ret ?_
    refine RQ.then ?_
    refine RQ.r1 rfl ?_
    refine ⟨?_, hB⟩
    first | rfl | (exfalso; revert hc6; simp; done) | (exfalso; revert hc6; simp; omega) | (exfalso; omega) | first | rfl | exact bT (by omega) | exact bF (by omega) | exact bD (by omega) | exact iE (by omega) | (simp_all; done) | (simp_all; omega) | (simp_all; intros; omega)
  try simp only [decide_eq_true_eq, decide_eq_false_iff_not, Bool.not_eq_true', Bool.not_eq_false', Bool.not_eq_eq_eq_not, Bool.not_true, Bool.not_false, Int.not_lt, Int.not_le, Classical.not_not, beq_iff_eq, beq_eq_false_iff_ne] at hc6
  refine WL.pureG rfl rfl rfl rfl rfl (PV.move rfl) ?_
  refine WL.pureG rfl rfl rfl rfl rfl (PV.move rfl) ?_
  refine WL.pureG rfl rfl rfl rfl rfl (PV.neqB T.bl4 rfl rfl) ?_
  refine WL.pure rfl rfl rfl (PV.pickF rfl rfl) ?_
  refine WL.nilS ?_
  refine CW.cond rfl (fun hc7 => ?_) (fun hc7 => ?_)
  · skip
    try simp only [decide_eq_true_eq, decide_eq_false_iff_not, Bool.not_eq_true', Bool.not_eq_false', Bool.not_eq_eq_eq_not, Bool.not_true, Bool.not_false, Int.not_lt, Int.not_le, Classical.not_not, beq_iff_eq, beq_eq_false_iff_ne] at hc7
    refine CW.seq ?_
    refine CW.reg ?_
    refine WL.pure rfl rfl rfl (PV.assign rfl) ?_
    refine WL.nilS ?_
    refine CW.ret ?_
    refine RQ.then ?_
    refine RQ.r1 rfl ?_
    refine ⟨?_, hB⟩
    first | rfl | (exfalso; revert hc7; simp; done) | (exfalso; revert hc7; simp; omega) | (exfalso; omega) | first | rfl | exact bT (by omega) | exact bF (by omega) | exact bD (by omega) | exact iE (by omega) | (simp_all; done) | (simp_all; omega) | (simp_all; intros; omega)
  try simp only [decide_eq_true_eq, decide_eq_false_iff_not, Bool.not_eq_true', Bool.not_eq_false', Bool.not_eq_eq_eq_not, Bool.not_true, Bool.not_false, Int.not_lt, Int.not_le, Classical.not_not, beq_iff_eq, beq_eq_false_iff_ne] at hc7
  refine CW.skipS ?_
  refine CW.seq ?_
  refine CW.reg ?_
  refine WL.pure rfl rfl rfl (PV.assign rfl) ?_
  refine WL.nilS ?_
  refine CW.seq ?_
  refine CW.reg ?_
  refine WL.pure rfl rfl rfl ((by first | exact PV.loadA T.ag29 rfl (by first | exact Cells.up (by assumption) hB | exact Bx.cells (by assumption) | assumption) (Ext.refl _) rfl | exact PV.loadP (ds := [_, _, _]) T.ag29 rfl (by first | exact Cells.up (by assumption) hB | exact Bx.cells (by assumption) | assumption) (Ext.refl _) rfl rfl)) ?_
  refine WL.pure rfl rfl rfl (PV.move rfl) ?_
  refine WL.op rfl (OpK.call rfl T.cf24 rfl (c_laws_markGrammar (by first | assumption | exact Dj.symm (by assumption)) (by first | assumption | omega | (simp only [marks_len, marksB_len, marksR_len]; omega))) (fun rv7 w19 hR => ?_))
  obtain ⟨rfl, hUC14, ho9⟩ := hR
  have hb1 := hb1.loop hUC14 ⟨hd1_9, trivial⟩
  have ho2 := ho2.loop hUC14 ⟨hd2_9, trivial⟩
  have ho3 := ho3.loop hUC14 ⟨hd3_9, trivial⟩
  have ho4 := ho4.loop hUC14 ⟨hd4_9, trivial⟩
  have hb5 := hb5.loop hUC14 ⟨hd5_9, trivial⟩
  have ho6 := ho6.loop hUC14 ⟨hd6_9, trivial⟩
  have ho7 := ho7.loop hUC14 ⟨hd7_9, trivial⟩
  have hb8 := hb8.loop hUC14 ⟨hd8_9, trivial⟩
  have hb10 := hb10.loop hUC14 ⟨(Dj.symm hd9_10), trivial⟩
  have ho11 := ho11.loop hUC14 ⟨(Dj.symm hd9_11), trivial⟩
  have ho12 := ho12.loop hUC14 ⟨(Dj.symm hd9_12), trivial⟩
  have hB := hB.loop hUC14 ⟨hl9, trivial⟩
  refine WL.pure rfl rfl rfl (PV.assign rfl) ?_
  refine WL.nilS ?_
  refine CW.seq ?_
  refine CW.reg ?_
  refine WL.pure rfl rfl rfl (PV.assign rfl) ?_
  refine WL.nilS ?_
  refine CW.seq ?_
  refine CW.reg ?_
  refine WL.pure rfl rfl rfl ((by first | exact PV.loadA T.ag29 rfl (by first | exact Cells.up (by assumption) hB | exact Bx.cells (by assumption) | assumption) (Ext.refl _) rfl | exact PV.loadP (ds := [_, _, _]) T.ag29 rfl (by first | exact Cells.up (by assumption) hB | exact Bx.cells (by assumption) | assumption) (Ext.refl _) rfl rfl)) ?_
  refine WL.pure rfl rfl rfl (PV.move rfl) ?_
  refine WL.op rfl (OpK.callR rfl T.cf25 rfl (c_laws_heldGrammar (by first | assumption | exact Rd.up (by assumption) hB | exact Osl.rd (by assumption) | exact Osn.rdR (by assumption)) (by first | assumption | omega | (simp only [marks_len, marksB_len, marksR_len]; omega))) (fun w20 hXw20 => ?_))
  have hB := hB.trans hXw20
  have hb1 := hb1.up hXw20
  have ho2 := ho2.up hXw20
  have ho3 := ho3.up hXw20
  have ho4 := ho4.up hXw20
  have hb5 := hb5.up hXw20
  have ho6 := ho6.up hXw20
  have ho7 := ho7.up hXw20
  have hb8 := hb8.up hXw20
  have ho9 := ho9.up hXw20
  have hb10 := hb10.up hXw20
  have ho11 := ho11.up hXw20
  have ho12 := ho12.up hXw20
  refine WL.pure rfl rfl rfl (PV.assign rfl) ?_
  refine WL.nilS ?_
  refine CW.seq ?_
  refine CW.seq ?_
  refine CW.reg ?_
  refine WL.pure rfl rfl rfl (PV.move rfl) ?_
  refine WL.pure rfl rfl rfl (PV.lss rfl rfl) ?_
  refine WL.nilS ?_
  refine CW.cond rfl (fun hc8 => ?_) (fun hc8 => ?_)
  · skip
    try simp only [decide_eq_true_eq, decide_eq_false_iff_not, Bool.not_eq_true', Bool.not_eq_false', Bool.not_eq_eq_eq_not, Bool.not_true, Bool.not_false, Int.not_lt, Int.not_le, Classical.not_not, beq_iff_eq, beq_eq_false_iff_ne] at hc8
    refine CW.seq ?_
    refine CW.reg ?_
    refine WL.pure rfl rfl rfl (PV.assign rfl) ?_
    refine WL.nilS ?_
    refine CW.ret ?_
    refine RQ.then ?_
    refine RQ.r1 rfl ?_
    refine ⟨?_, hB⟩
    first | rfl | (exfalso; revert hc8; simp; done) | (exfalso; revert hc8; simp; omega) | (exfalso; omega) | first | rfl | exact bT (by omega) | exact bF (by omega) | exact bD (by omega) | exact iE (by omega) | (simp_all; done) | (simp_all; omega) | (simp_all; intros; omega)
  try simp only [decide_eq_true_eq, decide_eq_false_iff_not, Bool.not_eq_true', Bool.not_eq_false', Bool.not_eq_eq_eq_not, Bool.not_true, Bool.not_false, Int.not_lt, Int.not_le, Classical.not_not, beq_iff_eq, beq_eq_false_iff_ne] at hc8
  refine CW.skipS ?_
  refine CW.seq ?_
  refine CW.seq ?_
  refine CW.reg ?_
  refine WL.pure rfl rfl rfl (PV.move rfl) ?_
  refine WL.pure rfl rfl rfl (PV.move rfl) ?_
  refine WL.pure rfl rfl rfl (PV.neq rfl rfl) ?_
  refine WL.nilS ?_
  refine CW.cond rfl (fun hc9 => ?_) (fun hc9 => ?_)
  · skip
    try simp only [decide_eq_true_eq, decide_eq_false_iff_not, Bool.not_eq_true', Bool.not_eq_false', Bool.not_eq_eq_eq_not, Bool.not_true, Bool.not_false, Int.not_lt, Int.not_le, Classical.not_not, beq_iff_eq, beq_eq_false_iff_ne] at hc9
    refine CW.seq ?_
    refine CW.reg ?_
    refine WL.pure rfl rfl rfl (PV.assign rfl) ?_
    refine WL.nilS ?_
    refine CW.ret ?_
    refine RQ.then ?_
    refine RQ.r1 rfl ?_
    refine ⟨?_, hB⟩
    first | rfl | (exfalso; revert hc9; simp; done) | (exfalso; revert hc9; simp; omega) | (exfalso; omega) | first | rfl | exact bT (by omega) | exact bF (by omega) | exact bD (by omega) | exact iE (by omega) | (simp_all; done) | (simp_all; omega) | (simp_all; intros; omega)
  try simp only [decide_eq_true_eq, decide_eq_false_iff_not, Bool.not_eq_true', Bool.not_eq_false', Bool.not_eq_eq_eq_not, Bool.not_true, Bool.not_false, Int.not_lt, Int.not_le, Classical.not_not, beq_iff_eq, beq_eq_false_iff_ne] at hc9
  refine CW.skipS ?_
  refine CW.seq ?_
  refine CW.reg ?_
  refine WL.pure rfl rfl rfl ((by first | exact PV.loadA T.ag41 rfl (by first | exact Cells.up (by assumption) hB | exact Bx.cells (by assumption) | assumption) (Ext.refl _) rfl | exact PV.loadP (ds := [_, _, _, _]) T.ag41 rfl (by first | exact Cells.up (by assumption) hB | exact Bx.cells (by assumption) | assumption) (Ext.refl _) rfl rfl)) ?_
  refine WL.op rfl (OpK.call rfl T.cf30 rfl (c_laws_toPlain (by first | assumption | exact Rd.up (by assumption) hB | exact Osl.rd (by assumption) | exact Osn.rdR (by assumption)) (by first | assumption | exact Rd.up (by assumption) hB | exact Osl.rd (by assumption) | exact Osn.rdR (by assumption)) (by first | assumption | omega | (simp only [marks_len, marksB_len, marksR_len]; omega)) (by first | assumption | omega | (simp only [marks_len, marksB_len, marksR_len]; omega))) (fun rv8 w21 hR => ?_))
  obtain ⟨hXw21, v15, og15, v16, og16, rfl, ho15, hq15, ho16, hq16, hd15_16⟩ := hR
  have hl15 := Lo.up hq15 hB
  have hd1_15 := Dj.lo hb1.ltO hq15
  have hd2_15 := Dj.lo ho2.ltO hq15
  have hd3_15 := Dj.lo ho3.ltO hq15
  have hd4_15 := Dj.lo ho4.ltO hq15
  have hd5_15 := Dj.lo hb5.ltO hq15
  have hd6_15 := Dj.lo ho6.ltO hq15
  have hd7_15 := Dj.lo ho7.ltO hq15
  have hd8_15 := Dj.lo hb8.ltO hq15
  have hd9_15 := Dj.lo ho9.ltO hq15
  have hd10_15 := Dj.lo hb10.ltO hq15
  have hd11_15 := Dj.lo ho11.ltO hq15
  have hd12_15 := Dj.lo ho12.ltO hq15
  have hl16 := Lo.up hq16 hB
  have hd1_16 := Dj.lo hb1.ltO hq16
  have hd2_16 := Dj.lo ho2.ltO hq16
  have hd3_16 := Dj.lo ho3.ltO hq16
  have hd4_16 := Dj.lo ho4.ltO hq16
  have hd5_16 := Dj.lo hb5.ltO hq16
  have hd6_16 := Dj.lo ho6.ltO hq16
  have hd7_16 := Dj.lo ho7.ltO hq16
  have hd8_16 := Dj.lo hb8.ltO hq16
  have hd9_16 := Dj.lo ho9.ltO hq16
  have hd10_16 := Dj.lo hb10.ltO hq16
  have hd11_16 := Dj.lo ho11.ltO hq16
  have hd12_16 := Dj.lo ho12.ltO hq16
  have hB := hB.trans hXw21
  have hb1 := hb1.up hXw21
  have ho2 := ho2.up hXw21
  have ho3 := ho3.up hXw21
  have ho4 := ho4.up hXw21
  have hb5 := hb5.up hXw21
  have ho6 := ho6.up hXw21
  have ho7 := ho7.up hXw21
  have hb8 := hb8.up hXw21
  have ho9 := ho9.up hXw21
  have hb10 := hb10.up hXw21
  have ho11 := ho11.up hXw21
  have ho12 := ho12.up hXw21
  refine WL.op rfl (OpK.call rfl T.cf31 rfl (c_impl_GrammarOf (by first | assumption | exact Rd.up (by assumption) hB | exact Osl.rd (by assumption) | exact Osn.rdR (by assumption)) (by first | assumption | exact Rd.up (by assumption) hB | exact Osl.rd (by assumption) | exact Osn.rdR (by assumption))) (fun rv9 w22 hR => ?_))
  obtain ⟨hXw22, v17, og17, rfl, ho17, hq17⟩ := hR
  have hl17 := Lo.up hq17 hB
  have hd1_17 := Dj.lo hb1.ltO hq17
  have hd2_17 := Dj.lo ho2.ltO hq17
  have hd3_17 := Dj.lo ho3.ltO hq17
  have hd4_17 := Dj.lo ho4.ltO hq17
  have hd5_17 := Dj.lo hb5.ltO hq17
  have hd6_17 := Dj.lo ho6.ltO hq17
  have hd7_17 := Dj.lo ho7.ltO hq17
  have hd8_17 := Dj.lo hb8.ltO hq17
  have hd9_17 := Dj.lo ho9.ltO hq17
  have hd10_17 := Dj.lo hb10.ltO hq17
  have hd11_17 := Dj.lo ho11.ltO hq17
  have hd12_17 := Dj.lo ho12.ltO hq17
  have hd15_17 := Dj.lo ho15.ltO hq17
  have hd16_17 := Dj.lo ho16.ltO hq17
  have hB := hB.trans hXw22
  have hb1 := hb1.up hXw22
  have ho2 := ho2.up hXw22
  have ho3 := ho3.up hXw22
  have ho4 := ho4.up hXw22
  have hb5 := hb5.up hXw22
  have ho6 := ho6.up hXw22
  have ho7 := ho7.up hXw22
  have hb8 := hb8.up hXw22
  have ho9 := ho9.up hXw22
  have hb10 := hb10.up hXw22
  have ho11 := ho11.up hXw22
  have ho12 := ho12.up hXw22
  have ho15 := ho15.up hXw22
  have ho16 := ho16.up hXw22
  refine WL.pure rfl rfl rfl (PV.move rfl) ?_
  refine WL.pure rfl rfl rfl (PV.extract rfl rfl) ?_
  refine WL.pure rfl rfl rfl (PV.extract rfl rfl) ?_
  refine WL.op rfl (OpK.alloc rfl T.zv29 rfl (fun b18 w23 hXw23 hb18 hge18 => ?_))
  have hl18 := Lo.new hB hge18
  have hd1_18 := Dj.new hb1.ltO hge18
  have hd2_18 := Dj.new ho2.ltO hge18
  have hd3_18 := Dj.new ho3.ltO hge18
  have hd4_18 := Dj.new ho4.ltO hge18
  have hd5_18 := Dj.new hb5.ltO hge18
  have hd6_18 := Dj.new ho6.ltO hge18
  have hd7_18 := Dj.new ho7.ltO hge18
  have hd8_18 := Dj.new hb8.ltO hge18
  have hd9_18 := Dj.new ho9.ltO hge18
  have hd10_18 := Dj.new hb10.ltO hge18
  have hd11_18 := Dj.new ho11.ltO hge18
  have hd12_18 := Dj.new ho12.ltO hge18
  have hd15_18 := Dj.new ho15.ltO hge18
  have hd16_18 := Dj.new ho16.ltO hge18
  have hd17_18 := Dj.new ho17.ltO hge18
  have hB := hB.trans hXw23
  have hb1 := hb1.up hXw23
  have ho2 := ho2.up hXw23
  have ho3 := ho3.up hXw23
  have ho4 := ho4.up hXw23
  have hb5 := hb5.up hXw23
  have ho6 := ho6.up hXw23
  have ho7 := ho7.up hXw23
  have hb8 := hb8.up hXw23
  have ho9 := ho9.up hXw23
  have hb10 := hb10.up hXw23
  have ho11 := ho11.up hXw23
  have ho12 := ho12.up hXw23
  have ho15 := ho15.up hXw23
  have ho16 := ho16.up hXw23
  have ho17 := ho17.up hXw23
  refine WL.op rfl (OpK.storeA T.sz29 rfl rfl rfl rfl (by simp [Value.oneCell'] <;> first | done | (repeat' apply And.intro) <;> first | rfl | exact Osl.oneCell (by assumption) | exact Osn.oneCell (by assumption) | exact Rd.oneCell (by assumption) | assumption) hb18 (fun w24 hXw24 hb18 => ?_))
  have hB := hB.updL hXw24 hl18
  have hb1 := hb1.updD hXw24 hd1_18
  have ho2 := ho2.updD hXw24 hd2_18
  have ho3 := ho3.updD hXw24 hd3_18
  have ho4 := ho4.updD hXw24 hd4_18
  have hb5 := hb5.updD hXw24 hd5_18
  have ho6 := ho6.updD hXw24 hd6_18
  have ho7 := ho7.updD hXw24 hd7_18
  have hb8 := hb8.updD hXw24 hd8_18
  have ho9 := ho9.updD hXw24 hd9_18
  have hb10 := hb10.updD hXw24 hd10_18
  have ho11 := ho11.updD hXw24 hd11_18
  have ho12 := ho12.updD hXw24 hd12_18
  have ho15 := ho15.updD hXw24 hd15_18
  have ho16 := ho16.updD hXw24 hd16_18
  have ho17 := ho17.updD hXw24 hd17_18
  refine WL.pure rfl rfl rfl (PV.assign rfl) ?_
  refine WL.nilS ?_
  refine CW.seq ?_
  refine CW.seq ?_
  refine CW.reg ?_
  refine WL.pure rfl rfl rfl ((by first | exact PV.loadA T.ag29 rfl (by first | exact Cells.up (by assumption) hB | exact Bx.cells (by assumption) | assumption) (Ext.refl _) rfl | exact PV.loadP (ds := [_, _, _]) T.ag29 rfl (by first | exact Cells.up (by assumption) hB | exact Bx.cells (by assumption) | assumption) (Ext.refl _) rfl rfl)) ?_
  refine WL.pure rfl rfl rfl ((by first | exact PV.loadA T.ag29 rfl (by first | exact Cells.up (by assumption) hB | exact Bx.cells (by assumption) | assumption) (Ext.refl _) rfl | exact PV.loadP (ds := [_, _, _]) T.ag29 rfl (by first | exact Cells.up (by assumption) hB | exact Bx.cells (by assumption) | assumption) (Ext.refl _) rfl rfl)) ?_
  refine WL.op rfl (OpK.callR rfl T.cf19 rfl (c_laws_eqGrammar (by first | assumption | exact Rd.up (by assumption) hB | exact Osl.rd (by assumption) | exact Osn.rdR (by assumption)) (by first | assumption | exact Rd.up (by assumption) hB | exact Osl.rd (by assumption) | exact Osn.rdR (by assumption))) (fun w25 hXw25 => ?_))
  have hB := hB.trans hXw25
  have hb1 := hb1.up hXw25
  have ho2 := ho2.up hXw25
  have ho3 := ho3.up hXw25
  have ho4 := ho4.up hXw25
  have hb5 := hb5.up hXw25
  have ho6 := ho6.up hXw25
  have ho7 := ho7.up hXw25
  have hb8 := hb8.up hXw25
  have ho9 := ho9.up hXw25
  have hb10 := hb10.up hXw25
  have ho11 := ho11.up hXw25
  have ho12 := ho12.up hXw25
  have ho15 := ho15.up hXw25
  have ho16 := ho16.up hXw25
  have ho17 := ho17.up hXw25
  have hb18 := hb18.up hXw25
  refine WL.pure rfl rfl rfl (PV.not rfl) ?_
  refine WL.pure rfl rfl rfl (PV.move rfl) ?_
  refine WL.split (t := 83) rfl (fun hc10 => ?_) (fun hc10 => ?_)
  · skip
    try simp only [decide_eq_true_eq, decide_eq_false_iff_not, Bool.not_eq_true', Bool.not_eq_false', Bool.not_eq_eq_eq_not, Bool.not_true, Bool.not_false, Int.not_lt, Int.not_le, Classical.not_not, beq_iff_eq, beq_eq_false_iff_ne] at hc10
    refine WL.skip rfl rfl rfl rfl rfl ?_
    refine WL.skip rfl rfl rfl rfl rfl ?_
    refine WL.skip rfl rfl rfl rfl rfl ?_
    refine WL.pure rfl rfl rfl (PV.pickT rfl rfl) ?_
    refine WL.nilS ?_
    refine CW.condT rfl ?_
    refine CW.seq ?_
    refine CW.reg ?_
    refine WL.pure rfl rfl rfl (PV.assign rfl) ?_
    refine WL.nilS ?_
    refine CW.ret ?_
    refine RQ.then ?_
    refine RQ.r1 rfl ?_
    refine ⟨?_, hB⟩
    first | rfl | (exfalso; revert hc10; simp; done) | (exfalso; revert hc10; simp; omega) | (exfalso; omega) | first | rfl | exact bT (by omega) | exact bF (by omega) | exact bD (by omega) | exact iE (by omega) | (simp_all; done) | (simp_all; omega) | (simp_all; intros; omega)
  try simp only [decide_eq_true_eq, decide_eq_false_iff_not, Bool.not_eq_true', Bool.not_eq_false', Bool.not_eq_eq_eq_not, Bool.not_true, Bool.not_false, Int.not_lt, Int.not_le, Classical.not_not, beq_iff_eq, beq_eq_false_iff_ne] at hc10
  refine WL.pureG rfl rfl rfl rfl rfl (PV.move rfl) ?_
  refine WL.pureG rfl rfl rfl rfl rfl (PV.move rfl) ?_
  refine WL.pureG rfl rfl rfl rfl rfl (PV.neqB T.bl4 rfl rfl) ?_
  refine WL.pure rfl rfl rfl (PV.pickF rfl rfl) ?_
  refine WL.nilS ?_
  refine CW.cond rfl (fun hc11 => ?_) (fun hc11 => ?_)
  · skip
    try simp only [decide_eq_true_eq, decide_eq_false_iff_not, Bool.not_eq_true', Bool.not_eq_false', Bool.not_eq_eq_eq_not, Bool.not_true, Bool.not_false, Int.not_lt, Int.not_le, Classical.not_not, beq_iff_eq, beq_eq_false_iff_ne] at hc11
    refine CW.seq ?_
    refine CW.reg ?_
    refine WL.pure rfl rfl rfl (PV.assign rfl) ?_
    refine WL.nilS ?_
    refine CW.ret ?_
    refine RQ.then ?_
    refine RQ.r1 rfl ?_
    refine ⟨?_, hB⟩
    first | rfl | (exfalso; revert hc11; simp; done) | (exfalso; revert hc11; simp; omega) | (exfalso; omega) | first | rfl | exact bT (by omega) | exact bF (by omega) | exact bD (by omega) | exact iE (by omega) | (simp_all; done) | (simp_all; omega) | (simp_all; intros; omega)
  try simp only [decide_eq_true_eq, decide_eq_false_iff_not, Bool.not_eq_true', Bool.not_eq_false', Bool.not_eq_eq_eq_not, Bool.not_true, Bool.not_false, Int.not_lt, Int.not_le, Classical.not_not, beq_iff_eq, beq_eq_false_iff_ne] at hc11
  refine CW.skipS ?_
  refine CW.seq ?_
  refine CW.reg ?_
  refine WL.pure rfl rfl rfl (PV.assign rfl) ?_
  refine WL.nilS ?_
  refine CW.seq ?_
  refine CW.reg ?_
  refine WL.pure rfl rfl rfl ((by first | exact PV.loadA T.ag29 rfl (by first | exact Cells.up (by assumption) hB | exact Bx.cells (by assumption) | assumption) (Ext.refl _) rfl | exact PV.loadP (ds := [_, _, _]) T.ag29 rfl (by first | exact Cells.up (by assumption) hB | exact Bx.cells (by assumption) | assumption) (Ext.refl _) rfl rfl)) ?_
  refine WL.pure rfl rfl rfl (PV.move rfl) ?_
  refine WL.op rfl (OpK.callR rfl T.cf25 rfl (c_laws_heldGrammar (by first | assumption | exact Rd.up (by assumption) hB | exact Osl.rd (by assumption) | exact Osn.rdR (by assumption)) (by first | assumption | omega | (simp only [marks_len, marksB_len, marksR_len]; omega))) (fun w26 hXw26 => ?_))
  have hB := hB.trans hXw26
  have hb1 := hb1.up hXw26
  have ho2 := ho2.up hXw26
  have ho3 := ho3.up hXw26
  have ho4 := ho4.up hXw26
  have hb5 := hb5.up hXw26
  have ho6 := ho6.up hXw26
  have ho7 := ho7.up hXw26
  have hb8 := hb8.up hXw26
  have ho9 := ho9.up hXw26
  have hb10 := hb10.up hXw26
  have ho11 := ho11.up hXw26
  have ho12 := ho12.up hXw26
  have ho15 := ho15.up hXw26
  have ho16 := ho16.up hXw26
  have ho17 := ho17.up hXw26
  have hb18 := hb18.up hXw26
  refine WL.pure rfl rfl rfl (PV.assign rfl) ?_
  refine WL.nilS ?_
  refine CW.seq ?_
  refine CW.seq ?_
  refine CW.reg ?_
  refine WL.pure rfl rfl rfl (PV.move rfl) ?_
  refine WL.pure rfl rfl rfl (PV.lss rfl rfl) ?_
  refine WL.nilS ?_
  refine CW.cond rfl (fun hc12 => ?_) (fun hc12 => ?_)
  · skip
    try simp only [decide_eq_true_eq, decide_eq_false_iff_not, Bool.not_eq_true', Bool.not_eq_false', Bool.not_eq_eq_eq_not, Bool.not_true, Bool.not_false, Int.not_lt, Int.not_le, Classical.not_not, beq_iff_eq, beq_eq_false_iff_ne] at hc12
    refine CW.seq ?_
    refine CW.reg ?_
    refine WL.pure rfl rfl rfl (PV.assign rfl) ?_
    refine WL.nilS ?_
    refine CW.ret ?_
    refine RQ.then ?_
    refine RQ.r1 rfl ?_
    refine ⟨?_, hB⟩
    first | rfl | (exfalso; revert hc12; simp; done) | (exfalso; revert hc12; simp; omega) | (exfalso; omega) | first | rfl | exact bT (by omega) | exact bF (by omega) | exact bD (by omega) | exact iE (by omega) | (simp_all; done) | (simp_all; omega) | (simp_all; intros; omega)
  try simp only [decide_eq_true_eq, decide_eq_false_iff_not, Bool.not_eq_true', Bool.not_eq_false', Bool.not_eq_eq_eq_not, Bool.not_true, Bool.not_false, Int.not_lt, Int.not_le, Classical.not_not, beq_iff_eq, beq_eq_false_iff_ne] at hc12
  refine CW.skipS ?_
  refine CW.seq ?_
  refine CW.seq ?_
  refine CW.reg ?_
  refine WL.pure rfl rfl rfl (PV.move rfl) ?_
  refine WL.pure rfl rfl rfl (PV.move rfl) ?_
  refine WL.pure rfl rfl rfl (PV.neq rfl rfl) ?_
  refine WL.nilS ?_
  refine CW.cond rfl (fun hc13 => ?_) (fun hc13 => ?_)
  · skip
    try simp only [decide_eq_true_eq, decide_eq_false_iff_not, Bool.not_eq_true', Bool.not_eq_false', Bool.not_eq_eq_eq_not, Bool.not_true, Bool.not_false, Int.not_lt, Int.not_le, Classical.not_not, beq_iff_eq, beq_eq_false_iff_ne] at hc13
    refine CW.seq ?_
    refine CW.reg ?_
    refine WL.pure rfl rfl rfl (PV.assign rfl) ?_
    refine WL.nilS ?_
    refine CW.ret ?_
    refine RQ.then ?_
    refine RQ.r1 rfl ?_
    refine ⟨?_, hB⟩
    first | rfl | (exfalso; revert hc13; simp; done) | (exfalso; revert hc13; simp; omega) | (exfalso; omega) | first | rfl | exact bT (by omega) | exact bF (by omega) | exact bD (by omega) | exact iE (by omega) | (simp_all; done) | (simp_all; omega) | (simp_all; intros; omega)
  try simp only [decide_eq_true_eq, decide_eq_false_iff_not, Bool.not_eq_true', Bool.not_eq_false', Bool.not_eq_eq_eq_not, Bool.not_true, Bool.not_false, Int.not_lt, Int.not_le, Classical.not_not, beq_iff_eq, beq_eq_false_iff_ne] at hc13
  refine CW.skipS ?_
  refine CW.seq ?_
  refine CW.reg ?_
  refine WL.pure rfl rfl rfl (PV.assign rfl) ?_
  refine WL.nilS ?_
  refine CW.ret ?_
  refine RQ.r1 rfl ?_
  refine ⟨?_, hB⟩
  first | rfl | (exfalso; revert hc13; simp; done) | (exfalso; revert hc13; simp; omega) | (exfalso; omega) | first | rfl | exact bT (by omega) | exact bF (by omega) | exact bD (by omega) | exact iE (by omega) | (simp_all; done) | (simp_all; omega) | (simp_all; intros; omega)

end Go.Proofs.Ytcnjfbhgicoogaa
