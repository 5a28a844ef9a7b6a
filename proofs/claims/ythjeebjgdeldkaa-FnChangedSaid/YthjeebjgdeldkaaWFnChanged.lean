/- Walks of the functions that the law FnChanged reaches: each says what its function computes. No condition. -/
import Derived.Test.YthjeebjgdeldkaaProg
import Derived.Test.YthjeebjgdeldkaaLibM
import Derived.Test.YthjeebjgdeldkaaPlA
import Derived.Test.YthjeebjgdeldkaaLibT
import Derived.Test.YthjeebjgdeldkaaLibV
import Derived.Test.YthjeebjgdeldkaaPlK
import Derived.Test.YthjeebjgdeldkaaPlQ
import Derived.Test.YthjeebjgdeldkaaPlL
import Derived.Test.YthjeebjgdeldkaaPlO
import Derived.Test.YthjeebjgdeldkaaPlG
import Derived.Test.YthjeebjgdeldkaaLibW
import Derived.Test.YthjeebjgdeldkaaPlSo
import Derived.Test.YthjeebjgdeldkaaPlFc
import Derived.Test.YthjeebjgdeldkaaPlDr
import Derived.Test.YthjeebjgdeldkaaPlFx
import Derived.Test.YthjeebjgdeldkaaWFnChangedc
namespace Go.Proofs.Ythjeebjgdeldkaa
open Go Go.WX Go.Proofs
set_option linter.unusedSimpArgs false
set_option linter.unusedVariables false

theorem c_impl_PlacesOf_y {w : World} {uc0 uc1 uc2 uc3 : Value} {c : C4} {vw : Value} {xs : List Int} {L : Int} (hch0 : Rd EI w uc0 c.1) (hch1 : Rd EI w uc1 c.2.1) (hch2 : Rd EI w uc2 c.2.2.1) (hch3 : Rd EI w uc3 c.2.2.2) (hw : Rd EI w vw xs) (hV : (chB c L && longB xs L) = true) : Calls Try.prog 62 #[.agg #[uc0, uc1, uc2, uc3], vw, .int .i64 L] w (Ret1 (fun v w' => Ext w w' ∧ ∃ u og_u, v = .tuple #[u, .bool true] ∧ Osl VI w' og_u u (placesL c xs xs.length) ∧ Lo w og_u)) := by
  have h := c_impl_PlacesOf hch0 hch1 hch2 hch3 hw (L := L)
  rw [hV] at h; exact h
theorem c_impl_ChangeFirst_y {w : World} {uc0 uc1 uc2 uc3 : Value} {c : C4} {vw : Value} {xs : List Int} {L : Int} (hch0 : Rd EI w uc0 c.1) (hch1 : Rd EI w uc1 c.2.1) (hch2 : Rd EI w uc2 c.2.2.1) (hch3 : Rd EI w uc3 c.2.2.2) (hw : Rd EI w vw xs) (hV : cfB c xs L = true) : Calls Try.prog 63 #[.agg #[uc0, uc1, uc2, uc3], vw, .int .i64 L] w (Ret1 (fun v w' => Ext w w' ∧ ∃ u og_u, v = .tuple #[u, .bool true] ∧ Osl VI w' og_u u (cfL c xs) ∧ Lo w og_u)) := by
  have h := c_impl_ChangeFirst hch0 hch1 hch2 hch3 hw (L := L)
  rw [hV] at h; exact h
theorem c_impl_ChangeAll_y {w : World} {uc0 uc1 uc2 uc3 : Value} {c : C4} {vw : Value} {xs : List Int} {L : Int} (hch0 : Rd EI w uc0 c.1) (hch1 : Rd EI w uc1 c.2.1) (hch2 : Rd EI w uc2 c.2.2.1) (hch3 : Rd EI w uc3 c.2.2.2) (hw : Rd EI w vw xs) (hV : (chB c L && longB xs L && okA c xs) = true) : Calls Try.prog 64 #[.agg #[uc0, uc1, uc2, uc3], vw, .int .i64 L] w (Ret1 (fun v w' => Ext w w' ∧ ∃ u og_u, v = .tuple #[u, .bool true] ∧ Osl VI w' og_u u (allL c xs) ∧ Lo w og_u)) := by
  have h := c_impl_ChangeAll hch0 hch1 hch2 hch3 hw (L := L)
  rw [hV] at h; exact h
theorem c_impl_RunChanges_y {w : World} {va : Value} {cs : List C4} {vw : Value} {xs : List Int} {L : Int} {ys : List Int} (ha : Rd ECh w va cs) (hw : Rd EI w vw xs) (hV : runR cs xs L = some ys) : Calls Try.prog 45 #[va, vw, .int .i64 L] w (Ret1 (fun v w' => Ext w w' ∧ ∃ u og_u, v = .tuple #[u, .bool true] ∧ Osl VI w' og_u u (ys) ∧ Lo w og_u)) := by
  have h := c_impl_RunChanges ha hw (L := L)
  rw [hV] at h; exact h
theorem c_impl_ChangesShared_y {w : World} {va : Value} {cs : List C4} {vb : Value} {wss : List (List Int)} {L wk : Int} {yss : List (List Int)} (ha : Rd ECh w va cs) (hb : Rd (ESl EI) w vb wss) (hV : shB cs wss L wk = true) (hW : (wss.map fun w => rL (runR cs w L)) = yss) : Calls Try.prog 53 #[va, vb, .int .i64 L, .int .i64 wk] w (Ret1 (fun v w' => Ext w w' ∧ ∃ u og_u vs_u os_u, v = .tuple #[u, .bool true] ∧ Osl VV w' og_u u vs_u ∧ Lo w og_u ∧ Inn w' os_u vs_u (yss) ∧ LoI w os_u ∧ DI os_u og_u)) := by
  have h := c_impl_ChangesShared ha hb (L := L) (wk := wk)
  rw [hV, hW] at h; exact h
theorem c_impl_ValidChange_y {w : World} {uc0 uc1 uc2 uc3 : Value} {c : C4} {L : Int} (hch0 : Rd EI w uc0 c.1) (hch1 : Rd EI w uc1 c.2.1) (hch2 : Rd EI w uc2 c.2.2.1) (hch3 : Rd EI w uc3 c.2.2.2) (hV : chB c L = true) : Calls Try.prog 65 #[.agg #[uc0, uc1, uc2, uc3], .int .i64 L] w (Ret1 (RQt (.bool true) w)) := by
  have h := c_impl_ValidChange hch0 hch1 hch2 hch3  (L := L)
  rw [hV] at h; exact h
theorem c_impl_IsLongWord_y {w : World} {vw : Value} {xs : List Int} {L : Int} (hw : Rd EI w vw xs) (hV : longB xs L = true) : Calls Try.prog 67 #[vw, .int .i64 L] w (Ret1 (RQt (.bool true) w)) := by
  have h := c_impl_IsLongWord hw (L := L)
  rw [hV] at h; exact h
theorem c_impl_SameChange_y {w : World} {uc0 uc1 uc2 uc3 : Value} {c : C4} {ud0 ud1 ud2 ud3 : Value} {c2 : C4}  (hch0 : Rd EI w uc0 c.1) (hch1 : Rd EI w uc1 c.2.1) (hch2 : Rd EI w uc2 c.2.2.1) (hch3 : Rd EI w uc3 c.2.2.2) (hdh0 : Rd EI w ud0 c2.1) (hdh1 : Rd EI w ud1 c2.2.1) (hdh2 : Rd EI w ud2 c2.2.2.1) (hdh3 : Rd EI w ud3 c2.2.2.2) (hV : c = c2) : Calls Try.prog 66 #[.agg #[uc0, uc1, uc2, uc3], .agg #[ud0, ud1, ud2, ud3]] w (Ret1 (RQt (.bool true) w)) := by
  have h := c_impl_SameChange hch0 hch1 hch2 hch3 hdh0 hdh1 hdh2 hdh3
  subst hV
  rw [decide_eq_true (by exact ⟨rfl, rfl, rfl, rfl⟩)] at h; exact h
theorem c_laws_b10Ints_y {w : World} {va vb : Value} {xs ys : List Int} (ha : Rd EI w va xs) (hb : Rd EI w vb ys) (hV : xs = ys) : Calls Try.prog 68 #[va, vb] w (Ret1 (RQt (.bool true) w)) := by
  have h := c_laws_b10Ints ha hb
  rw [decide_eq_true hV] at h; exact h
theorem c_laws_FnChanged {w : World} {va vb : Value} {xs ys : List Int} (ha : Rd EU8 w va xs) (hb : Rd EU8 w vb ys) (hg : ∀ x ∈ xs, 0 ≤ x ∧ x ≤ 255) (hgb : ∀ x ∈ ys, 0 ≤ x ∧ x ≤ 255) : Calls Try.prog 14 #[va, vb] w (Ret1 (RQt (.bool true) w)) := by
  have hB : Ext w w := Ext.refl w
  have hla := ha.leI; have hlb := hb.leI; have hr0 := atN_rng (i := (0 : Int).toNat) (n := 2) hgb (by decide); have hr1 := atN_rng (i := (1 : Int).toNat) (n := 6) hgb (by decide); have hr2 := atN_rng (i := (2 : Int).toNat) (n := 8) hgb (by decide)
  refine callsOf (vs := [_, _]) Try.func14 rfl Try.ntmps14 rfl rfl ?_
  refine CW.seq ?_
  refine CW.reg ?_
  refine WL.pure rfl rfl rfl (PV.assign rfl) ?_
  refine WL.nilS ?_
  refine CW.seq ?_
  refine CW.seq ?_
  refine CW.reg ?_
  refine WL.pure rfl rfl rfl (PV.move rfl) ?_
  refine WL.pure rfl rfl rfl (PV.move rfl) ?_
  refine WL.op rfl (OpK.callR rfl T.cf58 rfl (c_laws_b10Long (by first | assumption | exact Rd.up (by assumption) hB | exact Osl.rd (by assumption) | exact Osn.rdR (by assumption) | exact NL.rd (by assumption) | exact rdII (by assumption) (by assumption) | exact Inn.rd (by assumption) (by omega)) (by first | assumption | exact Rd.up (by assumption) hB | exact Osl.rd (by assumption) | exact Osn.rdR (by assumption) | exact NL.rd (by assumption) | exact rdII (by assumption) (by assumption) | exact Inn.rd (by assumption) (by omega))) (fun w1 hXw1 => ?_))
  have hB := hB.trans hXw1
  refine WL.nilS ?_
  refine CW.cond rfl (fun hc1 => ?_) (fun hc1 => ?_)
  · skip
    try simp only [decide_eq_true_eq, decide_eq_false_iff_not, Bool.not_eq_true', Bool.not_eq_false', Bool.not_eq_eq_eq_not, Bool.not_true, Bool.not_false, Int.not_lt, Int.not_le, Classical.not_not, beq_iff_eq, beq_eq_false_iff_ne] at hc1
    refine CW.seq ?_
    refine CW.reg ?_
    refine WL.pure rfl rfl rfl (PV.assign rfl) ?_
    refine WL.nilS ?_
    refine CW.ret ?_
    refine RQ.then ?_
    refine RQ.r1 rfl ?_
    refine ⟨?_, hB⟩
    first | rfl | (exfalso; revert hc1; simp; omega)
  try simp only [decide_eq_true_eq, decide_eq_false_iff_not, Bool.not_eq_true', Bool.not_eq_false', Bool.not_eq_eq_eq_not, Bool.not_true, Bool.not_false, Int.not_lt, Int.not_le, Classical.not_not, beq_iff_eq, beq_eq_false_iff_ne] at hc1
  refine CW.skipS ?_
  refine CW.seq ?_
  refine CW.reg ?_
  refine WL.pure rfl rfl rfl (PV.move rfl) ?_
  refine WL.op rfl (OpK.callR rfl T.cf59 rfl (c_laws_b10At (by first | assumption | exact Rd.up (by assumption) hB | exact Osl.rd (by assumption) | exact Osn.rdR (by assumption) | exact NL.rd (by assumption) | exact rdII (by assumption) (by assumption) | exact Inn.rd (by assumption) (by omega)) (by first | assumption | omega | (simp only [marks_len, marksB_len, marksR_len, sumL_marksS]; omega)) (by first | assumption | omega | (simp only [marks_len, marksB_len, marksR_len, sumL_marksS]; omega))) (fun w2 hXw2 => ?_))
  have hB := hB.trans hXw2
  refine WL.pure rfl rfl rfl (PV.add rfl rfl (by constructor <;> omega)) ?_
  refine WL.pure rfl rfl rfl (PV.assign rfl) ?_
  refine WL.nilS ?_
  refine CW.seq ?_
  refine CW.reg ?_
  refine WL.pure rfl rfl rfl (PV.move rfl) ?_
  refine WL.pure rfl rfl rfl (PV.move rfl) ?_
  refine WL.op rfl (OpK.call rfl T.cf60 rfl (c_spec_B10Changes (by first | assumption | exact Rd.up (by assumption) hB | exact Osl.rd (by assumption) | exact Osn.rdR (by assumption) | exact NL.rd (by assumption) | exact rdII (by assumption) (by assumption) | exact Inn.rd (by assumption) (by omega)) (by first | assumption | omega | (simp only [marks_len, marksB_len, marksR_len, sumL_marksS]; omega)) (by first | assumption | omega | (simp only [marks_len, marksB_len, marksR_len, sumL_marksS]; omega)) (by first | assumption | omega | (simp only [marks_len, marksB_len, marksR_len, sumL_marksS]; omega))) (fun rv1 w3 hR => ?_))
  obtain ⟨hXw3, cs3, v1, og1, vs2, os2, rfl, hm4, ho1, hq1, hn2, hq2, hd1_2⟩ := hR
  have hl1 := Lo.up hq1 hB
  have hl2 := LoI.up hq2 hB
  have hlv2 := hn2.lv
  obtain ⟨c, c2, rfl⟩ := two_of (by assumption : _ ∧ _).1
  have hB := hB.trans hXw3
  refine WL.pure rfl rfl rfl (PV.assign rfl) ?_
  refine WL.nilS ?_
  refine CW.seq ?_
  refine CW.reg ?_
  refine WL.pure rfl rfl rfl (PV.move rfl) ?_
  obtain ⟨p1, vqp1_0, vqp1_1, vqp1_2, vqp1_3, hpp1, hcp1, hqFp1⟩ := Osn.chAt ho1 hn2 (i := 0) (by first | omega | (simp only [List.length_set]; omega) | (simp only [List.length_append, List.length_take, List.length_replicate, List.length_drop]; omega))
  have hqFp1 : ∀ w8, Inn w8 os2 (vs2.flatMap gH4) ([c, c2].flatMap gC4) → Rd EI w8 vqp1_0 c.1 ∧ Rd EI w8 vqp1_1 c.2.1 ∧ Rd EI w8 vqp1_2 c.2.2.1 ∧ Rd EI w8 vqp1_3 c.2.2.2 := hqFp1
  refine WL.pure rfl rfl rfl ((PV.indexAddr hpp1 rfl rfl T.sl46)) ?_
  obtain ⟨hqp1_0, hqp1_1, hqp1_2, hqp1_3⟩ := hqFp1 _ hn2
  refine WL.pure rfl rfl rfl ((by first | exact PV.loadA T.ag58 rfl (by first | exact Cells.up (by assumption) hB | exact Bx.cells (by assumption) | assumption) (Ext.refl _) rfl | exact PV.loadP (ds := [_, _, _, _]) T.ag58 rfl (by first | exact Cells.up (by assumption) hB | exact Bx.cells (by assumption) | assumption) (Ext.refl _) rfl rfl)) ?_
  refine WL.op rfl (OpK.alloc rfl T.zv58 rfl (fun b5 w4 hXw4 hb5 hge5 => ?_))
  have hl5 := Lo.new hB hge5
  have hd1_5 := Dj.new ho1.ltO hge5
  have hd2_5 := DI.new hn2 hge5
  have hB := hB.trans hXw4
  have ho1 := ho1.up hXw4
  have hn2 := hn2.up hXw4
  obtain ⟨hqp1_0, hqp1_1, hqp1_2, hqp1_3⟩ := hqFp1 _ hn2
  refine WL.op rfl (OpK.storeA T.sz58 rfl rfl rfl rfl (by simp [Value.oneCell'] <;> first | done | (repeat' apply And.intro) <;> first | rfl | exact Inn.one1 (by assumption) (by omega) | exact Osl.oneCell (by assumption) | exact Osn.oneCell (by assumption) | exact Rd.oneCell (by assumption) | exact Rd.oneCell (NL.rd (by assumption)) | assumption) hb5 (fun w5 hXw5 hb5 => ?_))
  have hB := hB.updL hXw5 hl5
  have ho1 := ho1.updD hXw5 hd1_5
  have hn2 := hn2.updD hXw5 hd2_5
  refine WL.nilS ?_
  refine CW.seq ?_
  refine CW.reg ?_
  obtain ⟨hqp1_0, hqp1_1, hqp1_2, hqp1_3⟩ := hqFp1 _ hn2
  refine WL.pure rfl rfl rfl (PV.move rfl) ?_
  refine WL.op rfl (OpK.callR rfl T.cf59 rfl (c_laws_b10At (by first | assumption | exact Rd.up (by assumption) hB | exact Osl.rd (by assumption) | exact Osn.rdR (by assumption) | exact NL.rd (by assumption) | exact rdII (by assumption) (by assumption) | exact Inn.rd (by assumption) (by omega)) (by first | assumption | omega | (simp only [marks_len, marksB_len, marksR_len, sumL_marksS]; omega)) (by first | assumption | omega | (simp only [marks_len, marksB_len, marksR_len, sumL_marksS]; omega))) (fun w6 hXw6 => ?_))
  have hB := hB.trans hXw6
  have ho1 := ho1.up hXw6
  have hn2 := hn2.up hXw6
  have hb5 := hb5.up hXw6
  obtain ⟨hqp1_0, hqp1_1, hqp1_2, hqp1_3⟩ := hqFp1 _ hn2
  refine WL.pure rfl rfl rfl (PV.assign rfl) ?_
  refine WL.nilS ?_
  refine CW.seq ?_
  refine CW.reg ?_
  refine WL.pure rfl rfl rfl (PV.move rfl) ?_
  refine WL.pure rfl rfl rfl (PV.move rfl) ?_
  refine WL.pure rfl rfl rfl (PV.move rfl) ?_
  refine WL.op rfl (OpK.call rfl T.cf61 rfl (c_spec_B10Word hB (by first | assumption | exact Rd.up (by assumption) hB | exact Osl.rd (by assumption) | exact Osn.rdR (by assumption) | exact NL.rd (by assumption) | exact rdII (by assumption) (by assumption) | exact Inn.rd (by assumption) (by omega)) (by first | assumption | omega | (simp only [marks_len, marksB_len, marksR_len, sumL_marksS]; omega)) (by first | assumption | omega | (simp only [marks_len, marksB_len, marksR_len, sumL_marksS]; omega)) (by first | assumption | omega | (simp only [marks_len, marksB_len, marksR_len, sumL_marksS]; omega))) (fun rv2 w7 hR => ?_))
  obtain ⟨hUC6, ws7, v8, og8, rfl, hm9, ho8, hq8⟩ := hR
  have hl8 := Lo.up hq8 hB
  have hd1_8 := Dj.lo ho1.ltO hq8
  have hd2_8 := DI.fresh hn2 hq8
  have hd5_8 := Dj.lo hb5.ltO hq8
  have ho1 := ho1.loop hUC6 trivial
  have hn2 := hn2.loop hUC6 trivial
  have hb5 := hb5.loop hUC6 trivial
  have hB := hB.loop hUC6 trivial
  obtain ⟨hqp1_0, hqp1_1, hqp1_2, hqp1_3⟩ := hqFp1 _ hn2
  refine WL.pure rfl rfl rfl (PV.assign rfl) ?_
  refine WL.nilS ?_
  refine CW.seq ?_
  refine CW.reg ?_
  have hd1 := (hm4.2 c (by simp)).1; have hd2 := (hm4.2 c2 (by simp)).1; have hcV := hd1.1; have hn5 := hm9.1; have hW : longB ws7 (2 + atN ys (0 : Int).toNat 2) = true := longB_mk (by omega) (by omega) hm9.2; have hVV : (chB c (2 + atN ys (0 : Int).toNat 2) && longB ws7 (2 + atN ys (0 : Int).toNat 2)) = true := (by rw [hcV, hW]; rfl); have hCF := fx_cf hd1 hW (by omega); have hA := dr_all hd1 hW (by omega); have hAA : (chB c (2 + atN ys (0 : Int).toNat 2) && longB ws7 (2 + atN ys (0 : Int).toNat 2) && okA c ws7) = true := (by rw [hVV, hA.1]; rfl); have hRN := fx_run hd1 hd2 hW (by omega); have hDR := dr_run hd1 hd2 hW (by omega); have hA2 : (chB c2 (2 + atN ys (0 : Int).toNat 2) && longB (allL c ws7) (2 + atN ys (0 : Int).toNat 2) && okA c2 (allL c ws7)) = true := (by rw [hd2.1, hDR.2.2.1, hDR.2.1]; rfl); have hSH := fx_sh (wk := 1 + atN ys (2 : Int).toNat 8) hd1 hd2 hW (by omega) (by omega); have hSW := fx_shW hd1 hd2 hW (by omega); have hok := (chB_y hcV).1; have hok0 := hok.1; have hok1 := hok.2.1; have hok3 := hok.2.2.2; have hgl := hd1.2.2; have hl2 : ([allL c2 (allL c ws7), []] : List (List Int)).length = 2 := rfl
  refine WL.pure rfl rfl rfl ((by first | exact PV.loadA T.ag58 rfl (by first | exact Cells.up (by assumption) hB | exact Bx.cells (by assumption) | assumption) (Ext.refl _) rfl | exact PV.loadP (ds := [_, _, _, _]) T.ag58 rfl (by first | exact Cells.up (by assumption) hB | exact Bx.cells (by assumption) | assumption) (Ext.refl _) rfl rfl)) ?_
  refine WL.pure rfl rfl rfl (PV.move rfl) ?_
  refine WL.pure rfl rfl rfl (PV.move rfl) ?_
  refine WL.op rfl (OpK.call rfl T.cf62 rfl (c_impl_PlacesOf_y (c := c) (by first | assumption | exact Rd.up (by assumption) hB | exact Osl.rd (by assumption) | exact Osn.rdR (by assumption) | exact NL.rd (by assumption) | exact rdII (by assumption) (by assumption) | exact Inn.rd (by assumption) (by omega)) (by first | assumption | exact Rd.up (by assumption) hB | exact Osl.rd (by assumption) | exact Osn.rdR (by assumption) | exact NL.rd (by assumption) | exact rdII (by assumption) (by assumption) | exact Inn.rd (by assumption) (by omega)) (by first | assumption | exact Rd.up (by assumption) hB | exact Osl.rd (by assumption) | exact Osn.rdR (by assumption) | exact NL.rd (by assumption) | exact rdII (by assumption) (by assumption) | exact Inn.rd (by assumption) (by omega)) (by first | assumption | exact Rd.up (by assumption) hB | exact Osl.rd (by assumption) | exact Osn.rdR (by assumption) | exact NL.rd (by assumption) | exact rdII (by assumption) (by assumption) | exact Inn.rd (by assumption) (by omega)) (by first | assumption | exact Rd.up (by assumption) hB | exact Osl.rd (by assumption) | exact Osn.rdR (by assumption) | exact NL.rd (by assumption) | exact rdII (by assumption) (by assumption) | exact Inn.rd (by assumption) (by omega)) (by first | assumption | omega | (simp only [marks_len, marksB_len, marksR_len, sumL_marksS]; omega))) (fun rv3 w8 hR => ?_))
  obtain ⟨hXw8, v10, og10, rfl, ho10, hq10⟩ := hR
  have hl10 := Lo.up hq10 hB
  have hd1_10 := Dj.lo ho1.ltO hq10
  have hd2_10 := DI.fresh hn2 hq10
  have hd5_10 := Dj.lo hb5.ltO hq10
  have hd8_10 := Dj.lo ho8.ltO hq10
  have hB := hB.trans hXw8
  have ho1 := ho1.up hXw8
  have hn2 := hn2.up hXw8
  have hb5 := hb5.up hXw8
  have ho8 := ho8.up hXw8
  obtain ⟨hqp1_0, hqp1_1, hqp1_2, hqp1_3⟩ := hqFp1 _ hn2
  refine WL.pure rfl rfl rfl (PV.move rfl) ?_
  refine WL.pure rfl rfl rfl (PV.extract rfl rfl) ?_
  refine WL.pure rfl rfl rfl (PV.extract rfl rfl) ?_
  refine WL.pure rfl rfl rfl (PV.assign rfl) ?_
  refine WL.pure rfl rfl rfl (PV.assign rfl) ?_
  refine WL.nilS ?_
  refine CW.seq ?_
  refine CW.reg ?_
  refine WL.pure rfl rfl rfl ((by first | exact PV.loadA T.ag58 rfl (by first | exact Cells.up (by assumption) hB | exact Bx.cells (by assumption) | assumption) (Ext.refl _) rfl | exact PV.loadP (ds := [_, _, _, _]) T.ag58 rfl (by first | exact Cells.up (by assumption) hB | exact Bx.cells (by assumption) | assumption) (Ext.refl _) rfl rfl)) ?_
  refine WL.pure rfl rfl rfl (PV.move rfl) ?_
  refine WL.pure rfl rfl rfl (PV.move rfl) ?_
  refine WL.op rfl (OpK.call rfl T.cf63 rfl (c_impl_ChangeFirst_y (c := c) (by first | assumption | exact Rd.up (by assumption) hB | exact Osl.rd (by assumption) | exact Osn.rdR (by assumption) | exact NL.rd (by assumption) | exact rdII (by assumption) (by assumption) | exact Inn.rd (by assumption) (by omega)) (by first | assumption | exact Rd.up (by assumption) hB | exact Osl.rd (by assumption) | exact Osn.rdR (by assumption) | exact NL.rd (by assumption) | exact rdII (by assumption) (by assumption) | exact Inn.rd (by assumption) (by omega)) (by first | assumption | exact Rd.up (by assumption) hB | exact Osl.rd (by assumption) | exact Osn.rdR (by assumption) | exact NL.rd (by assumption) | exact rdII (by assumption) (by assumption) | exact Inn.rd (by assumption) (by omega)) (by first | assumption | exact Rd.up (by assumption) hB | exact Osl.rd (by assumption) | exact Osn.rdR (by assumption) | exact NL.rd (by assumption) | exact rdII (by assumption) (by assumption) | exact Inn.rd (by assumption) (by omega)) (by first | assumption | exact Rd.up (by assumption) hB | exact Osl.rd (by assumption) | exact Osn.rdR (by assumption) | exact NL.rd (by assumption) | exact rdII (by assumption) (by assumption) | exact Inn.rd (by assumption) (by omega)) (by first | assumption | omega | (simp only [marks_len, marksB_len, marksR_len, sumL_marksS]; omega))) (fun rv4 w9 hR => ?_))
  obtain ⟨hXw9, v11, og11, rfl, ho11, hq11⟩ := hR
  have hl11 := Lo.up hq11 hB
  have hd1_11 := Dj.lo ho1.ltO hq11
  have hd2_11 := DI.fresh hn2 hq11
  have hd5_11 := Dj.lo hb5.ltO hq11
  have hd8_11 := Dj.lo ho8.ltO hq11
  have hd10_11 := Dj.lo ho10.ltO hq11
  have hB := hB.trans hXw9
  have ho1 := ho1.up hXw9
  have hn2 := hn2.up hXw9
  have hb5 := hb5.up hXw9
  have ho8 := ho8.up hXw9
  have ho10 := ho10.up hXw9
  obtain ⟨hqp1_0, hqp1_1, hqp1_2, hqp1_3⟩ := hqFp1 _ hn2
  refine WL.pure rfl rfl rfl (PV.move rfl) ?_
  refine WL.pure rfl rfl rfl (PV.extract rfl rfl) ?_
  refine WL.pure rfl rfl rfl (PV.extract rfl rfl) ?_
  refine WL.pure rfl rfl rfl (PV.assign rfl) ?_
  refine WL.pure rfl rfl rfl (PV.assign rfl) ?_
  refine WL.nilS ?_
  refine CW.seq ?_
  refine CW.reg ?_
  refine WL.pure rfl rfl rfl ((by first | exact PV.loadA T.ag58 rfl (by first | exact Cells.up (by assumption) hB | exact Bx.cells (by assumption) | assumption) (Ext.refl _) rfl | exact PV.loadP (ds := [_, _, _, _]) T.ag58 rfl (by first | exact Cells.up (by assumption) hB | exact Bx.cells (by assumption) | assumption) (Ext.refl _) rfl rfl)) ?_
  refine WL.pure rfl rfl rfl (PV.move rfl) ?_
  refine WL.pure rfl rfl rfl (PV.move rfl) ?_
  refine WL.op rfl (OpK.call rfl T.cf64 rfl (c_impl_ChangeAll_y (c := c) (by first | assumption | exact Rd.up (by assumption) hB | exact Osl.rd (by assumption) | exact Osn.rdR (by assumption) | exact NL.rd (by assumption) | exact rdII (by assumption) (by assumption) | exact Inn.rd (by assumption) (by omega)) (by first | assumption | exact Rd.up (by assumption) hB | exact Osl.rd (by assumption) | exact Osn.rdR (by assumption) | exact NL.rd (by assumption) | exact rdII (by assumption) (by assumption) | exact Inn.rd (by assumption) (by omega)) (by first | assumption | exact Rd.up (by assumption) hB | exact Osl.rd (by assumption) | exact Osn.rdR (by assumption) | exact NL.rd (by assumption) | exact rdII (by assumption) (by assumption) | exact Inn.rd (by assumption) (by omega)) (by first | assumption | exact Rd.up (by assumption) hB | exact Osl.rd (by assumption) | exact Osn.rdR (by assumption) | exact NL.rd (by assumption) | exact rdII (by assumption) (by assumption) | exact Inn.rd (by assumption) (by omega)) (by first | assumption | exact Rd.up (by assumption) hB | exact Osl.rd (by assumption) | exact Osn.rdR (by assumption) | exact NL.rd (by assumption) | exact rdII (by assumption) (by assumption) | exact Inn.rd (by assumption) (by omega)) (by first | assumption | omega | (simp only [marks_len, marksB_len, marksR_len, sumL_marksS]; omega))) (fun rv5 w10 hR => ?_))
  obtain ⟨hXw10, v12, og12, rfl, ho12, hq12⟩ := hR
  have hl12 := Lo.up hq12 hB
  have hd1_12 := Dj.lo ho1.ltO hq12
  have hd2_12 := DI.fresh hn2 hq12
  have hd5_12 := Dj.lo hb5.ltO hq12
  have hd8_12 := Dj.lo ho8.ltO hq12
  have hd10_12 := Dj.lo ho10.ltO hq12
  have hd11_12 := Dj.lo ho11.ltO hq12
  have hB := hB.trans hXw10
  have ho1 := ho1.up hXw10
  have hn2 := hn2.up hXw10
  have hb5 := hb5.up hXw10
  have ho8 := ho8.up hXw10
  have ho10 := ho10.up hXw10
  have ho11 := ho11.up hXw10
  obtain ⟨hqp1_0, hqp1_1, hqp1_2, hqp1_3⟩ := hqFp1 _ hn2
  refine WL.pure rfl rfl rfl (PV.move rfl) ?_
  refine WL.pure rfl rfl rfl (PV.extract rfl rfl) ?_
  refine WL.pure rfl rfl rfl (PV.extract rfl rfl) ?_
  refine WL.pure rfl rfl rfl (PV.assign rfl) ?_
  refine WL.pure rfl rfl rfl (PV.assign rfl) ?_
  refine WL.nilS ?_
  refine CW.seq ?_
  refine CW.reg ?_
  refine WL.pure rfl rfl rfl (PV.move rfl) ?_
  refine WL.pure rfl rfl rfl (PV.move rfl) ?_
  refine WL.pure rfl rfl rfl (PV.move rfl) ?_
  refine WL.op rfl (OpK.call rfl T.cf45 rfl (c_impl_RunChanges_y (by first | assumption | exact Rd.up (by assumption) hB | exact rdCh (by assumption) (by assumption)) (by first | assumption | exact Rd.up (by assumption) hB | exact Osl.rd (by assumption) | exact Osn.rdR (by assumption) | exact NL.rd (by assumption) | exact rdII (by assumption) (by assumption) | exact Inn.rd (by assumption) (by omega)) (by first | assumption | omega | (simp only [marks_len, marksB_len, marksR_len, sumL_marksS]; omega))) (fun rv6 w11 hR => ?_))
  obtain ⟨hXw11, v13, og13, rfl, ho13, hq13⟩ := hR
  have hl13 := Lo.up hq13 hB
  have hd1_13 := Dj.lo ho1.ltO hq13
  have hd2_13 := DI.fresh hn2 hq13
  have hd5_13 := Dj.lo hb5.ltO hq13
  have hd8_13 := Dj.lo ho8.ltO hq13
  have hd10_13 := Dj.lo ho10.ltO hq13
  have hd11_13 := Dj.lo ho11.ltO hq13
  have hd12_13 := Dj.lo ho12.ltO hq13
  have hB := hB.trans hXw11
  have ho1 := ho1.up hXw11
  have hn2 := hn2.up hXw11
  have hb5 := hb5.up hXw11
  have ho8 := ho8.up hXw11
  have ho10 := ho10.up hXw11
  have ho11 := ho11.up hXw11
  have ho12 := ho12.up hXw11
  obtain ⟨hqp1_0, hqp1_1, hqp1_2, hqp1_3⟩ := hqFp1 _ hn2
  refine WL.pure rfl rfl rfl (PV.move rfl) ?_
  refine WL.pure rfl rfl rfl (PV.extract rfl rfl) ?_
  refine WL.pure rfl rfl rfl (PV.extract rfl rfl) ?_
  refine WL.pure rfl rfl rfl (PV.assign rfl) ?_
  refine WL.pure rfl rfl rfl (PV.assign rfl) ?_
  refine WL.nilS ?_
  refine CW.seq ?_
  refine CW.reg ?_
  refine WL.pure rfl rfl rfl (PV.move rfl) ?_
  obtain ⟨p2, vqp2_0, vqp2_1, vqp2_2, vqp2_3, hpp2, hcp2, hqFp2⟩ := Osn.chAt ho1 hn2 (i := 1) (by first | omega | (simp only [List.length_set]; omega) | (simp only [List.length_append, List.length_take, List.length_replicate, List.length_drop]; omega))
  have hqFp2 : ∀ w8, Inn w8 os2 (vs2.flatMap gH4) ([c, c2].flatMap gC4) → Rd EI w8 vqp2_0 c2.1 ∧ Rd EI w8 vqp2_1 c2.2.1 ∧ Rd EI w8 vqp2_2 c2.2.2.1 ∧ Rd EI w8 vqp2_3 c2.2.2.2 := hqFp2
  refine WL.pure rfl rfl rfl ((PV.indexAddr hpp2 rfl rfl T.sl46)) ?_
  obtain ⟨hqp1_0, hqp1_1, hqp1_2, hqp1_3⟩ := hqFp1 _ hn2
  obtain ⟨hqp2_0, hqp2_1, hqp2_2, hqp2_3⟩ := hqFp2 _ hn2
  refine WL.pure rfl rfl rfl ((by first | exact PV.loadA T.ag58 rfl (by first | exact Cells.up (by assumption) hB | exact Bx.cells (by assumption) | assumption) (Ext.refl _) rfl | exact PV.loadP (ds := [_, _, _, _]) T.ag58 rfl (by first | exact Cells.up (by assumption) hB | exact Bx.cells (by assumption) | assumption) (Ext.refl _) rfl rfl)) ?_
  refine WL.pure rfl rfl rfl (PV.move rfl) ?_
  refine WL.pure rfl rfl rfl (PV.move rfl) ?_
  refine WL.op rfl (OpK.call rfl T.cf64 rfl (c_impl_ChangeAll_y (c := c2) (by first | assumption | exact Rd.up (by assumption) hB | exact Osl.rd (by assumption) | exact Osn.rdR (by assumption) | exact NL.rd (by assumption) | exact rdII (by assumption) (by assumption) | exact Inn.rd (by assumption) (by omega)) (by first | assumption | exact Rd.up (by assumption) hB | exact Osl.rd (by assumption) | exact Osn.rdR (by assumption) | exact NL.rd (by assumption) | exact rdII (by assumption) (by assumption) | exact Inn.rd (by assumption) (by omega)) (by first | assumption | exact Rd.up (by assumption) hB | exact Osl.rd (by assumption) | exact Osn.rdR (by assumption) | exact NL.rd (by assumption) | exact rdII (by assumption) (by assumption) | exact Inn.rd (by assumption) (by omega)) (by first | assumption | exact Rd.up (by assumption) hB | exact Osl.rd (by assumption) | exact Osn.rdR (by assumption) | exact NL.rd (by assumption) | exact rdII (by assumption) (by assumption) | exact Inn.rd (by assumption) (by omega)) (by first | assumption | exact Rd.up (by assumption) hB | exact Osl.rd (by assumption) | exact Osn.rdR (by assumption) | exact NL.rd (by assumption) | exact rdII (by assumption) (by assumption) | exact Inn.rd (by assumption) (by omega)) (by first | assumption | omega | (simp only [marks_len, marksB_len, marksR_len, sumL_marksS]; omega))) (fun rv7 w12 hR => ?_))
  obtain ⟨hXw12, v14, og14, rfl, ho14, hq14⟩ := hR
  have hl14 := Lo.up hq14 hB
  have hd1_14 := Dj.lo ho1.ltO hq14
  have hd2_14 := DI.fresh hn2 hq14
  have hd5_14 := Dj.lo hb5.ltO hq14
  have hd8_14 := Dj.lo ho8.ltO hq14
  have hd10_14 := Dj.lo ho10.ltO hq14
  have hd11_14 := Dj.lo ho11.ltO hq14
  have hd12_14 := Dj.lo ho12.ltO hq14
  have hd13_14 := Dj.lo ho13.ltO hq14
  have hB := hB.trans hXw12
  have ho1 := ho1.up hXw12
  have hn2 := hn2.up hXw12
  have hb5 := hb5.up hXw12
  have ho8 := ho8.up hXw12
  have ho10 := ho10.up hXw12
  have ho11 := ho11.up hXw12
  have ho12 := ho12.up hXw12
  have ho13 := ho13.up hXw12
  obtain ⟨hqp1_0, hqp1_1, hqp1_2, hqp1_3⟩ := hqFp1 _ hn2
  obtain ⟨hqp2_0, hqp2_1, hqp2_2, hqp2_3⟩ := hqFp2 _ hn2
  refine WL.pure rfl rfl rfl (PV.move rfl) ?_
  refine WL.pure rfl rfl rfl (PV.extract rfl rfl) ?_
  refine WL.pure rfl rfl rfl (PV.extract rfl rfl) ?_
  refine WL.pure rfl rfl rfl (PV.assign rfl) ?_
  refine WL.pure rfl rfl rfl (PV.assign rfl) ?_
  refine WL.nilS ?_
  refine CW.seq ?_
  refine CW.reg ?_
  refine WL.pure rfl rfl rfl (PV.move rfl) ?_
  refine WL.pure rfl rfl rfl (PV.move rfl) ?_
  refine WL.op rfl (OpK.buildS VV (os := [.tmp 89, .const (.slice none 0 0)]) [_, _] rfl T.sl28 rfl rfl T.zv26 rfl (by intro z hz; first | rfl | (simp only [List.mem_cons, List.not_mem_nil, or_false] at hz; rcases hz with hz | hz <;> subst hz <;> exact (by first | exact Rd.cells1 (by assumption) | exact Osl.cells1 (by assumption) | exact Osn.cells1 (by assumption) | exact Rd.cells1 (NL.rd (by assumption)) | exact Inn.cell1 (by assumption) (by omega) | rfl))) rfl (fun v15 g15 w13 hXw13 ho15 hge15 => ?_))
  have hl15 := Lo.new hB hge15
  have hd1_15 := Dj.new ho1.ltO hge15
  have hd2_15 := DI.new hn2 hge15
  have hd5_15 := Dj.new hb5.ltO hge15
  have hd8_15 := Dj.new ho8.ltO hge15
  have hd10_15 := Dj.new ho10.ltO hge15
  have hd11_15 := Dj.new ho11.ltO hge15
  have hd12_15 := Dj.new ho12.ltO hge15
  have hd13_15 := Dj.new ho13.ltO hge15
  have hd14_15 := Dj.new ho14.ltO hge15
  have hB := hB.trans hXw13
  have ho1 := ho1.up hXw13
  have hn2 := hn2.up hXw13
  have hb5 := hb5.up hXw13
  have ho8 := ho8.up hXw13
  have ho10 := ho10.up hXw13
  have ho11 := ho11.up hXw13
  have ho12 := ho12.up hXw13
  have ho13 := ho13.up hXw13
  have ho14 := ho14.up hXw13
  obtain ⟨hqp1_0, hqp1_1, hqp1_2, hqp1_3⟩ := hqFp1 _ hn2
  obtain ⟨hqp2_0, hqp2_1, hqp2_2, hqp2_3⟩ := hqFp2 _ hn2
  refine WL.pure rfl rfl rfl (PV.move rfl) ?_
  refine WL.pure rfl rfl rfl (PV.move rfl) ?_
  refine WL.op rfl (OpK.callR rfl T.cf59 rfl (c_laws_b10At (by first | assumption | exact Rd.up (by assumption) hB | exact Osl.rd (by assumption) | exact Osn.rdR (by assumption) | exact NL.rd (by assumption) | exact rdII (by assumption) (by assumption) | exact Inn.rd (by assumption) (by omega)) (by first | assumption | omega | (simp only [marks_len, marksB_len, marksR_len, sumL_marksS]; omega)) (by first | assumption | omega | (simp only [marks_len, marksB_len, marksR_len, sumL_marksS]; omega))) (fun w14 hXw14 => ?_))
  have hB := hB.trans hXw14
  have ho1 := ho1.up hXw14
  have hn2 := hn2.up hXw14
  have hb5 := hb5.up hXw14
  have ho8 := ho8.up hXw14
  have ho10 := ho10.up hXw14
  have ho11 := ho11.up hXw14
  have ho12 := ho12.up hXw14
  have ho13 := ho13.up hXw14
  have ho14 := ho14.up hXw14
  have ho15 := ho15.up hXw14
  obtain ⟨hqp1_0, hqp1_1, hqp1_2, hqp1_3⟩ := hqFp1 _ hn2
  obtain ⟨hqp2_0, hqp2_1, hqp2_2, hqp2_3⟩ := hqFp2 _ hn2
  refine WL.pure rfl rfl rfl (PV.add rfl rfl (by constructor <;> omega)) ?_
  refine WL.op rfl (OpK.call rfl T.cf53 rfl (c_impl_ChangesShared_y (by first | assumption | exact Rd.up (by assumption) hB | exact rdCh (by assumption) (by assumption)) (rdSl2 (by assumption) (Osl.rd ho8) (Rd.nil EI _)) hSH hSW) (fun rv8 w15 hR => ?_))
  obtain ⟨hXw15, v16, og16, vs17, os17, rfl, ho16, hq16, hn17, hq17, hd16_17⟩ := hR
  have hl16 := Lo.up hq16 hB
  have hd1_16 := Dj.lo ho1.ltO hq16
  have hd2_16 := DI.fresh hn2 hq16
  have hd5_16 := Dj.lo hb5.ltO hq16
  have hd8_16 := Dj.lo ho8.ltO hq16
  have hd10_16 := Dj.lo ho10.ltO hq16
  have hd11_16 := Dj.lo ho11.ltO hq16
  have hd12_16 := Dj.lo ho12.ltO hq16
  have hd13_16 := Dj.lo ho13.ltO hq16
  have hd14_16 := Dj.lo ho14.ltO hq16
  have hd15_16 := Dj.lo ho15.ltO hq16
  have hl17 := LoI.up hq17 hB
  have hlv17 := hn17.lv
  have hd1_17 := DI.lo ho1.ltO hq17
  have hdd2_17 := DD.symm (DD.lo hn2 hq17)
  have hd5_17 := DI.lo hb5.ltO hq17
  have hd8_17 := DI.lo ho8.ltO hq17
  have hd10_17 := DI.lo ho10.ltO hq17
  have hd11_17 := DI.lo ho11.ltO hq17
  have hd12_17 := DI.lo ho12.ltO hq17
  have hd13_17 := DI.lo ho13.ltO hq17
  have hd14_17 := DI.lo ho14.ltO hq17
  have hd15_17 := DI.lo ho15.ltO hq17
  have hB := hB.trans hXw15
  have ho1 := ho1.up hXw15
  have hn2 := hn2.up hXw15
  have hb5 := hb5.up hXw15
  have ho8 := ho8.up hXw15
  have ho10 := ho10.up hXw15
  have ho11 := ho11.up hXw15
  have ho12 := ho12.up hXw15
  have ho13 := ho13.up hXw15
  have ho14 := ho14.up hXw15
  have ho15 := ho15.up hXw15
  obtain ⟨hqp1_0, hqp1_1, hqp1_2, hqp1_3⟩ := hqFp1 _ hn2
  obtain ⟨hqp2_0, hqp2_1, hqp2_2, hqp2_3⟩ := hqFp2 _ hn2
  refine WL.pure rfl rfl rfl (PV.move rfl) ?_
  refine WL.pure rfl rfl rfl (PV.extract rfl rfl) ?_
  refine WL.pure rfl rfl rfl (PV.extract rfl rfl) ?_
  refine WL.pure rfl rfl rfl (PV.assign rfl) ?_
  refine WL.pure rfl rfl rfl (PV.assign rfl) ?_
  refine WL.nilS ?_
  refine CW.seq ?_
  refine CW.seq ?_
  refine CW.reg ?_
  refine WL.pure rfl rfl rfl (PV.move rfl) ?_
  refine WL.pure rfl rfl rfl (PV.not rfl) ?_
  refine WL.pure rfl rfl rfl (PV.move rfl) ?_
  refine WL.pureG rfl rfl rfl rfl rfl (PV.move rfl) ?_
  refine WL.pureG rfl rfl rfl rfl rfl (PV.not rfl) ?_
  refine WL.pure rfl rfl rfl (PV.pickF rfl rfl) ?_
  refine WL.pure rfl rfl rfl (PV.move rfl) ?_
  refine WL.pureG rfl rfl rfl rfl rfl (PV.move rfl) ?_
  refine WL.pureG rfl rfl rfl rfl rfl (PV.not rfl) ?_
  refine WL.pure rfl rfl rfl (PV.pickF rfl rfl) ?_
  refine WL.pure rfl rfl rfl (PV.move rfl) ?_
  refine WL.pureG rfl rfl rfl rfl rfl (PV.move rfl) ?_
  refine WL.pureG rfl rfl rfl rfl rfl (PV.not rfl) ?_
  refine WL.pure rfl rfl rfl (PV.pickF rfl rfl) ?_
  refine WL.pure rfl rfl rfl (PV.move rfl) ?_
  refine WL.pureG rfl rfl rfl rfl rfl (PV.move rfl) ?_
  refine WL.pureG rfl rfl rfl rfl rfl (PV.not rfl) ?_
  refine WL.pure rfl rfl rfl (PV.pickF rfl rfl) ?_
  refine WL.pure rfl rfl rfl (PV.move rfl) ?_
  refine WL.pureG rfl rfl rfl rfl rfl (PV.move rfl) ?_
  refine WL.pureG rfl rfl rfl rfl rfl (PV.not rfl) ?_
  refine WL.pure rfl rfl rfl (PV.pickF rfl rfl) ?_
  refine WL.pure rfl rfl rfl (PV.move rfl) ?_
  refine WL.pureG rfl rfl rfl rfl rfl ((by first | exact PV.loadA T.ag58 rfl (by first | exact Cells.up (by assumption) hB | exact Bx.cells (by assumption) | assumption) (Ext.refl _) rfl | exact PV.loadP (ds := [_, _, _, _]) T.ag58 rfl (by first | exact Cells.up (by assumption) hB | exact Bx.cells (by assumption) | assumption) (Ext.refl _) rfl rfl)) ?_
  refine WL.pureG rfl rfl rfl rfl rfl (PV.move rfl) ?_
  refine WL.opG rfl rfl rfl (OpK.callR rfl T.cf65 rfl (c_impl_ValidChange_y (c := c) (by first | assumption | exact Rd.up (by assumption) hB | exact Osl.rd (by assumption) | exact Osn.rdR (by assumption) | exact NL.rd (by assumption) | exact rdII (by assumption) (by assumption) | exact Inn.rd (by assumption) (by omega)) (by first | assumption | exact Rd.up (by assumption) hB | exact Osl.rd (by assumption) | exact Osn.rdR (by assumption) | exact NL.rd (by assumption) | exact rdII (by assumption) (by assumption) | exact Inn.rd (by assumption) (by omega)) (by first | assumption | exact Rd.up (by assumption) hB | exact Osl.rd (by assumption) | exact Osn.rdR (by assumption) | exact NL.rd (by assumption) | exact rdII (by assumption) (by assumption) | exact Inn.rd (by assumption) (by omega)) (by first | assumption | exact Rd.up (by assumption) hB | exact Osl.rd (by assumption) | exact Osn.rdR (by assumption) | exact NL.rd (by assumption) | exact rdII (by assumption) (by assumption) | exact Inn.rd (by assumption) (by omega)) (by first | assumption | omega | (simp only [marks_len, marksB_len, marksR_len, sumL_marksS]; omega))) (fun w16 hXw16 => ?_))
  have hB := hB.trans hXw16
  have ho1 := ho1.up hXw16
  have hn2 := hn2.up hXw16
  have hb5 := hb5.up hXw16
  have ho8 := ho8.up hXw16
  have ho10 := ho10.up hXw16
  have ho11 := ho11.up hXw16
  have ho12 := ho12.up hXw16
  have ho13 := ho13.up hXw16
  have ho14 := ho14.up hXw16
  have ho15 := ho15.up hXw16
  have ho16 := ho16.up hXw16
  have hn17 := hn17.up hXw16
  obtain ⟨hqp1_0, hqp1_1, hqp1_2, hqp1_3⟩ := hqFp1 _ hn2
  obtain ⟨hqp2_0, hqp2_1, hqp2_2, hqp2_3⟩ := hqFp2 _ hn2
  refine WL.pureG rfl rfl rfl rfl rfl (PV.not rfl) ?_
  refine WL.pure rfl rfl rfl (PV.pickF rfl rfl) ?_
  refine WL.pure rfl rfl rfl (PV.move rfl) ?_
  refine WL.pureG rfl rfl rfl rfl rfl ((by first | exact PV.loadA T.ag58 rfl (by first | exact Cells.up (by assumption) hB | exact Bx.cells (by assumption) | assumption) (Ext.refl _) rfl | exact PV.loadP (ds := [_, _, _, _]) T.ag58 rfl (by first | exact Cells.up (by assumption) hB | exact Bx.cells (by assumption) | assumption) (Ext.refl _) rfl rfl)) ?_
  refine WL.pureG rfl rfl rfl rfl rfl ((by first | exact PV.loadA T.ag58 rfl (by first | exact Cells.up (by assumption) hB | exact Bx.cells (by assumption) | assumption) (Ext.refl _) rfl | exact PV.loadP (ds := [_, _, _, _]) T.ag58 rfl (by first | exact Cells.up (by assumption) hB | exact Bx.cells (by assumption) | assumption) (Ext.refl _) rfl rfl)) ?_
  refine WL.opG rfl rfl rfl (OpK.callR rfl T.cf66 rfl (c_impl_SameChange_y (c := c) (c2 := c) (by first | assumption | exact Rd.up (by assumption) hB | exact Osl.rd (by assumption) | exact Osn.rdR (by assumption) | exact NL.rd (by assumption) | exact rdII (by assumption) (by assumption) | exact Inn.rd (by assumption) (by omega)) (by first | assumption | exact Rd.up (by assumption) hB | exact Osl.rd (by assumption) | exact Osn.rdR (by assumption) | exact NL.rd (by assumption) | exact rdII (by assumption) (by assumption) | exact Inn.rd (by assumption) (by omega)) (by first | assumption | exact Rd.up (by assumption) hB | exact Osl.rd (by assumption) | exact Osn.rdR (by assumption) | exact NL.rd (by assumption) | exact rdII (by assumption) (by assumption) | exact Inn.rd (by assumption) (by omega)) (by first | assumption | exact Rd.up (by assumption) hB | exact Osl.rd (by assumption) | exact Osn.rdR (by assumption) | exact NL.rd (by assumption) | exact rdII (by assumption) (by assumption) | exact Inn.rd (by assumption) (by omega)) (by first | assumption | exact Rd.up (by assumption) hB | exact Osl.rd (by assumption) | exact Osn.rdR (by assumption) | exact NL.rd (by assumption) | exact rdII (by assumption) (by assumption) | exact Inn.rd (by assumption) (by omega)) (by first | assumption | exact Rd.up (by assumption) hB | exact Osl.rd (by assumption) | exact Osn.rdR (by assumption) | exact NL.rd (by assumption) | exact rdII (by assumption) (by assumption) | exact Inn.rd (by assumption) (by omega)) (by first | assumption | exact Rd.up (by assumption) hB | exact Osl.rd (by assumption) | exact Osn.rdR (by assumption) | exact NL.rd (by assumption) | exact rdII (by assumption) (by assumption) | exact Inn.rd (by assumption) (by omega)) (by first | assumption | exact Rd.up (by assumption) hB | exact Osl.rd (by assumption) | exact Osn.rdR (by assumption) | exact NL.rd (by assumption) | exact rdII (by assumption) (by assumption) | exact Inn.rd (by assumption) (by omega)) (by first | rfl | assumption)) (fun w17 hXw17 => ?_))
  have hB := hB.trans hXw17
  have ho1 := ho1.up hXw17
  have hn2 := hn2.up hXw17
  have hb5 := hb5.up hXw17
  have ho8 := ho8.up hXw17
  have ho10 := ho10.up hXw17
  have ho11 := ho11.up hXw17
  have ho12 := ho12.up hXw17
  have ho13 := ho13.up hXw17
  have ho14 := ho14.up hXw17
  have ho15 := ho15.up hXw17
  have ho16 := ho16.up hXw17
  have hn17 := hn17.up hXw17
  obtain ⟨hqp1_0, hqp1_1, hqp1_2, hqp1_3⟩ := hqFp1 _ hn2
  obtain ⟨hqp2_0, hqp2_1, hqp2_2, hqp2_3⟩ := hqFp2 _ hn2
  refine WL.pureG rfl rfl rfl rfl rfl (PV.not rfl) ?_
  refine WL.pure rfl rfl rfl (PV.pickF rfl rfl) ?_
  refine WL.pure rfl rfl rfl (PV.move rfl) ?_
  refine WL.pureG rfl rfl rfl rfl rfl (PV.move rfl) ?_
  refine WL.pureG rfl rfl rfl rfl rfl (PV.move rfl) ?_
  refine WL.opG rfl rfl rfl (OpK.callR rfl T.cf67 rfl (c_impl_IsLongWord_y (by first | assumption | exact Rd.up (by assumption) hB | exact Osl.rd (by assumption) | exact Osn.rdR (by assumption) | exact NL.rd (by assumption) | exact rdII (by assumption) (by assumption) | exact Inn.rd (by assumption) (by omega)) (by first | assumption | omega | (simp only [marks_len, marksB_len, marksR_len, sumL_marksS]; omega))) (fun w18 hXw18 => ?_))
  have hB := hB.trans hXw18
  have ho1 := ho1.up hXw18
  have hn2 := hn2.up hXw18
  have hb5 := hb5.up hXw18
  have ho8 := ho8.up hXw18
  have ho10 := ho10.up hXw18
  have ho11 := ho11.up hXw18
  have ho12 := ho12.up hXw18
  have ho13 := ho13.up hXw18
  have ho14 := ho14.up hXw18
  have ho15 := ho15.up hXw18
  have ho16 := ho16.up hXw18
  have hn17 := hn17.up hXw18
  obtain ⟨hqp1_0, hqp1_1, hqp1_2, hqp1_3⟩ := hqFp1 _ hn2
  obtain ⟨hqp2_0, hqp2_1, hqp2_2, hqp2_3⟩ := hqFp2 _ hn2
  refine WL.pureG rfl rfl rfl rfl rfl (PV.not rfl) ?_
  refine WL.pure rfl rfl rfl (PV.pickF rfl rfl) ?_
  refine WL.pure rfl rfl rfl (PV.move rfl) ?_
  refine WL.pureG rfl rfl rfl rfl rfl (PV.move rfl) ?_
  refine WL.pureG rfl rfl rfl rfl rfl (PV.move rfl) ?_
  refine WL.opG rfl rfl rfl (OpK.callR rfl T.cf68 rfl (c_laws_b10Ints_y (by first | assumption | exact Rd.up (by assumption) hB | exact Osl.rd (by assumption) | exact Osn.rdR (by assumption) | exact NL.rd (by assumption) | exact rdII (by assumption) (by assumption) | exact Inn.rd (by assumption) (by omega)) (by first | assumption | exact Rd.up (by assumption) hB | exact Osl.rd (by assumption) | exact Osn.rdR (by assumption) | exact NL.rd (by assumption) | exact rdII (by assumption) (by assumption) | exact Inn.rd (by assumption) (by omega)) (by first | rfl | assumption | exact (fx_want (by assumption)).symm)) (fun w19 hXw19 => ?_))
  have hB := hB.trans hXw19
  have ho1 := ho1.up hXw19
  have hn2 := hn2.up hXw19
  have hb5 := hb5.up hXw19
  have ho8 := ho8.up hXw19
  have ho10 := ho10.up hXw19
  have ho11 := ho11.up hXw19
  have ho12 := ho12.up hXw19
  have ho13 := ho13.up hXw19
  have ho14 := ho14.up hXw19
  have ho15 := ho15.up hXw19
  have ho16 := ho16.up hXw19
  have hn17 := hn17.up hXw19
  obtain ⟨hqp1_0, hqp1_1, hqp1_2, hqp1_3⟩ := hqFp1 _ hn2
  obtain ⟨hqp2_0, hqp2_1, hqp2_2, hqp2_3⟩ := hqFp2 _ hn2
  refine WL.pureG rfl rfl rfl rfl rfl (PV.not rfl) ?_
  refine WL.pure rfl rfl rfl (PV.pickF rfl rfl) ?_
  refine WL.pure rfl rfl rfl (PV.move rfl) ?_
  refine WL.pureG rfl rfl rfl rfl rfl (PV.move rfl) ?_
  refine WL.pureG rfl rfl rfl rfl rfl ((PV.lenOs rfl ho16 T.sl28)) ?_
  refine WL.pureG rfl rfl rfl rfl rfl (PV.neq rfl rfl) ?_
  refine WL.pure rfl rfl rfl (PV.pickF rfl rfl) ?_
  refine WL.pure rfl rfl rfl (PV.move rfl) ?_
  refine WL.split (t := 149) rfl (fun hc2 => ?_) (fun hc2 => ?_)
  · skip
    try simp only [decide_eq_true_eq, decide_eq_false_iff_not, Bool.not_eq_true', Bool.not_eq_false', Bool.not_eq_eq_eq_not, Bool.not_true, Bool.not_false, Int.not_lt, Int.not_le, Classical.not_not, beq_iff_eq, beq_eq_false_iff_ne] at hc2
    exact (hc2 (by rw [hlv17]; rfl)).elim
  try simp only [decide_eq_true_eq, decide_eq_false_iff_not, Bool.not_eq_true', Bool.not_eq_false', Bool.not_eq_eq_eq_not, Bool.not_true, Bool.not_false, Int.not_lt, Int.not_le, Classical.not_not, beq_iff_eq, beq_eq_false_iff_ne] at hc2
  refine WL.pureG rfl rfl rfl rfl rfl (PV.move rfl) ?_
  first
    | refine WL.atO (x := .tmp 150) (y := .const (.int .i64 0)) (f := VV) (.slice none 0 0) rfl rfl ho16 (by first | omega | (simp only [List.length_set]; omega) | (simp only [List.length_append, List.length_take, List.length_replicate, List.length_drop]; omega)) (fun p3 hpp3 hcp3 => ?_)
    | refine WL.atOZ (x := .tmp 150) (y := .const (.int .i64 0)) (f := VV) (.slice none 0 0) rfl rfl ho16 (by first | omega | (simp only [List.length_set]; omega) | (simp only [List.length_append, List.length_take, List.length_replicate, List.length_drop]; omega)) (fun p3 hpp3 hzp3 hcp3 => ?_)
  refine WL.pureG rfl rfl rfl rfl rfl ((by first | exact PV.indexAddr hpp3 rfl rfl T.sl28 | exact PV.indexAddr hpp3 rfl (by rw [← hzp3]; rfl) T.sl28)) ?_
  refine WL.pureG rfl rfl rfl rfl rfl ((by first | exact PV.load0 T.na26 rfl (by first | exact Cells.up (by assumption) hB | exact Bx.cells (by assumption) | assumption) (Ext.refl _) rfl | exact PV.load1 T.na26 rfl (by first | exact Cells.up (by assumption) hB | exact Bx.cells (by assumption) | assumption) (Ext.refl _) rfl)) ?_
  refine WL.pureG rfl rfl rfl rfl rfl (PV.move rfl) ?_
  refine WL.opG rfl rfl rfl (OpK.callR rfl T.cf68 rfl (c_laws_b10Ints_y (Inn.rd hn17 (show (0 : Int).toNat < 2 from by decide)) (Osl.rd (by assumption)) rfl) (fun w20 hXw20 => ?_))
  have hB := hB.trans hXw20
  have ho1 := ho1.up hXw20
  have hn2 := hn2.up hXw20
  have hb5 := hb5.up hXw20
  have ho8 := ho8.up hXw20
  have ho10 := ho10.up hXw20
  have ho11 := ho11.up hXw20
  have ho12 := ho12.up hXw20
  have ho13 := ho13.up hXw20
  have ho14 := ho14.up hXw20
  have ho15 := ho15.up hXw20
  have ho16 := ho16.up hXw20
  have hn17 := hn17.up hXw20
  obtain ⟨hqp1_0, hqp1_1, hqp1_2, hqp1_3⟩ := hqFp1 _ hn2
  obtain ⟨hqp2_0, hqp2_1, hqp2_2, hqp2_3⟩ := hqFp2 _ hn2
  refine WL.pureG rfl rfl rfl rfl rfl (PV.not rfl) ?_
  refine WL.pure rfl rfl rfl (PV.pickF rfl rfl) ?_
  refine WL.pure rfl rfl rfl (PV.move rfl) ?_
  refine WL.pureG rfl rfl rfl rfl rfl (PV.move rfl) ?_
  first
    | refine WL.atO (x := .tmp 158) (y := .const (.int .i64 1)) (f := VV) (.slice none 0 0) rfl rfl ho16 (by first | omega | (simp only [List.length_set]; omega) | (simp only [List.length_append, List.length_take, List.length_replicate, List.length_drop]; omega)) (fun p4 hpp4 hcp4 => ?_)
    | refine WL.atOZ (x := .tmp 158) (y := .const (.int .i64 1)) (f := VV) (.slice none 0 0) rfl rfl ho16 (by first | omega | (simp only [List.length_set]; omega) | (simp only [List.length_append, List.length_take, List.length_replicate, List.length_drop]; omega)) (fun p4 hpp4 hzp4 hcp4 => ?_)
  refine WL.pureG rfl rfl rfl rfl rfl ((by first | exact PV.indexAddr hpp4 rfl rfl T.sl28 | exact PV.indexAddr hpp4 rfl (by rw [← hzp4]; rfl) T.sl28)) ?_
  refine WL.pureG rfl rfl rfl rfl rfl ((by first | exact PV.load0 T.na26 rfl (by first | exact Cells.up (by assumption) hB | exact Bx.cells (by assumption) | assumption) (Ext.refl _) rfl | exact PV.load1 T.na26 rfl (by first | exact Cells.up (by assumption) hB | exact Bx.cells (by assumption) | assumption) (Ext.refl _) rfl)) ?_
  refine WL.pureG rfl rfl rfl rfl rfl ((PV.len rfl (Inn.rd hn17 (show (1 : Int).toNat < 2 from by decide)) T.sl26)) ?_
  refine WL.pureG rfl rfl rfl rfl rfl (PV.neq rfl rfl) ?_
  refine WL.pure rfl rfl rfl (PV.pickF rfl rfl) ?_
  refine WL.nilS ?_
  refine CW.cond rfl (fun hc3 => ?_) (fun hc3 => ?_)
  · skip
    try simp only [decide_eq_true_eq, decide_eq_false_iff_not, Bool.not_eq_true', Bool.not_eq_false', Bool.not_eq_eq_eq_not, Bool.not_true, Bool.not_false, Int.not_lt, Int.not_le, Classical.not_not, beq_iff_eq, beq_eq_false_iff_ne] at hc3
    exact absurd rfl hc3
  try simp only [decide_eq_true_eq, decide_eq_false_iff_not, Bool.not_eq_true', Bool.not_eq_false', Bool.not_eq_eq_eq_not, Bool.not_true, Bool.not_false, Int.not_lt, Int.not_le, Classical.not_not, beq_iff_eq, beq_eq_false_iff_ne] at hc3
  refine CW.skipS ?_
  refine CW.seq ?_
  refine CW.reg ?_
  refine WL.pure rfl rfl rfl (PV.assign rfl) ?_
  refine WL.nilS ?_
  refine CW.seq ?_
  refine CW.seq ?_
  refine CW.reg ?_
  refine WL.pure rfl rfl rfl (PV.assign rfl) ?_
  refine WL.nilS ?_
  refine CW.block ?_
  refine CW.loop (σk := [(5, _), (7, _), (8, _), (9, _), (10, _), (12, _), (14, _)]) (fun ρ wz m => ∃ (k : Nat), ρ = [(22, .int .i64 ((placesL c ws7 k).length : Nat)), (23, .int .i64 (k : Nat))] ∧ m = (atN ys (1 : Int).toNat 6).toNat - k ∧ UpdL [] w20 wz ∧ ((k : Int) ≤ (atN ys (1 : Int).toNat 6))) (ρ₀ := [(22, _), (23, _)]) (m₀ := _) ⟨rfl, rfl, rfl, rfl, rfl, rfl, rfl, rfl, rfl, trivial⟩ ⟨0, rfl, rfl, (UpdL.refl _ _), (by first | omega | rfl | (simp; done) | assumption | (simp_all; done))⟩ ?_
  rintro _ wl1 _ ⟨k, rfl, rfl, hU0, hk⟩
  have ho1 := ho1.loop hU0 trivial
  have hn2 := hn2.loop hU0 trivial
  have hb5 := hb5.loop hU0 trivial
  have ho8 := ho8.loop hU0 trivial
  have ho10 := ho10.loop hU0 trivial
  have ho11 := ho11.loop hU0 trivial
  have ho12 := ho12.loop hU0 trivial
  have ho13 := ho13.loop hU0 trivial
  have ho14 := ho14.loop hU0 trivial
  have ho15 := ho15.loop hU0 trivial
  have ho16 := ho16.loop hU0 trivial
  have hn17 := hn17.loop hU0 trivial
  have hB := hB.loop hU0 trivial
  have hpk := places_len c ws7 k
  refine CW.seq ?_
  refine CW.seq ?_
  refine CW.reg ?_
  obtain ⟨hqp1_0, hqp1_1, hqp1_2, hqp1_3⟩ := hqFp1 _ hn2
  obtain ⟨hqp2_0, hqp2_1, hqp2_2, hqp2_3⟩ := hqFp2 _ hn2
  refine WL.pure rfl rfl rfl (PV.move rfl) ?_
  refine WL.pure rfl rfl rfl (PV.move rfl) ?_
  refine WL.pure rfl rfl rfl (PV.lss rfl rfl) ?_
  refine WL.nilS ?_
  refine CW.cond rfl (fun hc4 => ?_) (fun hc4 => ?_)
  · skip
    try simp only [decide_eq_true_eq, decide_eq_false_iff_not, Bool.not_eq_true', Bool.not_eq_false', Bool.not_eq_eq_eq_not, Bool.not_true, Bool.not_false, Int.not_lt, Int.not_le, Classical.not_not, beq_iff_eq, beq_eq_false_iff_ne] at hc4
    refine CW.skipS ?_
    refine CW.seq ?_
    refine CW.block ?_
    refine CW.seq ?_
    refine CW.reg ?_
    refine WL.pure rfl rfl rfl (PV.move rfl) ?_
    refine WL.pure rfl rfl rfl ((by first | exact PV.fieldAddr T.fl58_1 rfl (by first | assumption | exact Bx.cells (by assumption)) | exact PV.fieldAddrP T.fl58_1 rfl rfl)) ?_
    refine WL.pure rfl rfl rfl ((by first | exact PV.load0 T.na26 rfl (by first | exact Cells.up (by assumption) hB | exact Bx.cells (by assumption) | assumption) (Ext.refl _) rfl | exact PV.load1 T.na26 rfl (by first | exact Cells.up (by assumption) hB | exact Bx.cells (by assumption) | assumption) (Ext.refl _) rfl)) ?_
    refine WL.pure rfl rfl rfl (PV.move rfl) ?_
    refine WL.op rfl (OpK.callR rfl T.cf69 rfl (c_laws_b10There (by first | assumption | exact Rd.up (by assumption) hB | exact Osl.rd (by assumption) | exact Osn.rdR (by assumption) | exact NL.rd (by assumption) | exact rdII (by assumption) (by assumption) | exact Inn.rd (by assumption) (by omega)) (by first | assumption | exact Rd.up (by assumption) hB | exact Osl.rd (by assumption) | exact Osn.rdR (by assumption) | exact NL.rd (by assumption) | exact rdII (by assumption) (by assumption) | exact Inn.rd (by assumption) (by omega)) (by first | assumption | omega | (simp only [marks_len, marksB_len, marksR_len, sumL_marksS]; omega)) (by first | assumption | omega | (simp only [marks_len, marksB_len, marksR_len, sumL_marksS]; omega))) (fun w21 hXw21 => ?_))
    have hB := hB.trans hXw21
    have ho1 := ho1.up hXw21
    have hn2 := hn2.up hXw21
    have hb5 := hb5.up hXw21
    have ho8 := ho8.up hXw21
    have ho10 := ho10.up hXw21
    have ho11 := ho11.up hXw21
    have ho12 := ho12.up hXw21
    have ho13 := ho13.up hXw21
    have ho14 := ho14.up hXw21
    have ho15 := ho15.up hXw21
    have ho16 := ho16.up hXw21
    have hn17 := hn17.up hXw21
    have hU0 := hU0.ext hXw21
    obtain ⟨hqp1_0, hqp1_1, hqp1_2, hqp1_3⟩ := hqFp1 _ hn2
    obtain ⟨hqp2_0, hqp2_1, hqp2_2, hqp2_3⟩ := hqFp2 _ hn2
    refine WL.pure rfl rfl rfl (PV.move rfl) ?_
    refine WL.split (t := 174) rfl (fun hc5 => ?_) (fun hc5 => ?_)
    rotate_left
    · skip
      try simp only [decide_eq_true_eq, decide_eq_false_iff_not, Bool.not_eq_true', Bool.not_eq_false', Bool.not_eq_eq_eq_not, Bool.not_true, Bool.not_false, Int.not_lt, Int.not_le, Classical.not_not, beq_iff_eq, beq_eq_false_iff_ne] at hc5
      refine WL.skip rfl rfl rfl rfl rfl ?_
      refine WL.skip rfl rfl rfl rfl rfl ?_
      refine WL.skip rfl rfl rfl rfl rfl ?_
      refine WL.skip rfl rfl rfl rfl rfl ?_
      refine WL.skip rfl rfl rfl rfl rfl ?_
      refine WL.skip rfl rfl rfl rfl rfl ?_
      refine WL.skip rfl rfl rfl rfl rfl ?_
      refine WL.skip rfl rfl rfl rfl rfl ?_
      refine WL.skip rfl rfl rfl rfl rfl ?_
      refine WL.pure rfl rfl rfl (PV.pickF rfl rfl) ?_
      refine WL.pure rfl rfl rfl (PV.move rfl) ?_
      refine WL.skip rfl rfl rfl rfl rfl ?_
      refine WL.skip rfl rfl rfl rfl rfl ?_
      refine WL.skip rfl rfl rfl rfl rfl ?_
      refine WL.skip rfl rfl rfl rfl rfl ?_
      refine WL.skip rfl rfl rfl rfl rfl ?_
      refine WL.skip rfl rfl rfl rfl rfl ?_
      refine WL.skip rfl rfl rfl rfl rfl ?_
      refine WL.skip rfl rfl rfl rfl rfl ?_
      refine WL.skip rfl rfl rfl rfl rfl ?_
      refine WL.pure rfl rfl rfl (PV.pickF rfl rfl) ?_
      refine WL.pure rfl rfl rfl (PV.assign rfl) ?_
      refine WL.nilS ?_
      refine CW.seq ?_
      refine CW.seq ?_
      refine CW.reg ?_
      refine WL.pure rfl rfl rfl (PV.move rfl) ?_
      refine WL.pure rfl rfl rfl (PV.move rfl) ?_
      refine WL.pure rfl rfl rfl (PV.move rfl) ?_
      refine WL.pure rfl rfl rfl ((PV.lenOs rfl ho10 T.sl26)) ?_
      refine WL.pure rfl rfl rfl (PV.lss rfl rfl) ?_
      refine WL.pure rfl rfl rfl (PV.move rfl) ?_
      refine WL.split (t := 201) rfl (fun hc6 => ?_) (fun hc6 => ?_)
      rotate_left
      · skip
        try simp only [decide_eq_true_eq, decide_eq_false_iff_not, Bool.not_eq_true', Bool.not_eq_false', Bool.not_eq_eq_eq_not, Bool.not_true, Bool.not_false, Int.not_lt, Int.not_le, Classical.not_not, beq_iff_eq, beq_eq_false_iff_ne] at hc6
        refine WL.skip rfl rfl rfl rfl rfl ?_
        refine WL.skip rfl rfl rfl rfl rfl ?_
        refine WL.skip rfl rfl rfl rfl rfl ?_
        refine WL.skip rfl rfl rfl rfl rfl ?_
        refine WL.skip rfl rfl rfl rfl rfl ?_
        refine WL.skip rfl rfl rfl rfl rfl ?_
        refine WL.pure rfl rfl rfl (PV.pickF rfl rfl) ?_
        refine WL.pure rfl rfl rfl (PV.neqB T.bl4 rfl rfl) ?_
        refine WL.nilS ?_
        refine CW.cond rfl (fun hc7 => ?_) (fun hc7 => ?_)
        · skip
          try simp only [decide_eq_true_eq, decide_eq_false_iff_not, Bool.not_eq_true', Bool.not_eq_false', Bool.not_eq_eq_eq_not, Bool.not_true, Bool.not_false, Int.not_lt, Int.not_le, Classical.not_not, beq_iff_eq, beq_eq_false_iff_ne] at hc7
          exact (fx_dead (c := c) (ws := ws7) (k := k) (by omega) (by first | exact fx_f3 (by assumption) (by assumption) | exact fx_n1 (by assumption) | exact fx_n2 (by assumption)) (by first | exact fx_y1 (by omega) | exact fx_y2 (by omega)) hc7).elim
        try simp only [decide_eq_true_eq, decide_eq_false_iff_not, Bool.not_eq_true', Bool.not_eq_false', Bool.not_eq_eq_eq_not, Bool.not_true, Bool.not_false, Int.not_lt, Int.not_le, Classical.not_not, beq_iff_eq, beq_eq_false_iff_ne] at hc7
        refine CW.skipS ?_
        refine CW.seq ?_
        refine CW.reg ?_
        refine WL.pure rfl rfl rfl (PV.move rfl) ?_
        refine WL.nilS ?_
        refine CW.condF rfl ?_
        refine CW.skip ?_
        refine NQ.block ?_
        refine NQ.then ?_
        refine CW.reg ?_
        refine WL.pure rfl rfl rfl (PV.move rfl) ?_
        refine WL.pure rfl rfl rfl (PV.add rfl rfl (by constructor <;> omega)) ?_
        refine WL.pure rfl rfl rfl (PV.assign rfl) ?_
        refine WL.nil ?_
        refine NQ.next (ρ := [(22, _), (23, _)]) ⟨rfl, rfl, rfl, rfl, rfl, rfl, rfl, rfl, rfl, trivial⟩ ?_
        exact ⟨_, ⟨k + 1, (by first | rfl | (rw [← fx_s1 (by first | (rw [← fx_f3 (by assumption) (by assumption)]; assumption))]; rfl) | (rw [← fx_s2 (by first | exact (fx_n1 (by assumption)).symm | exact (fx_n2 (by assumption)).symm | (rw [← fx_f3 (by assumption) (by assumption)]; assumption))]; rfl)), rfl, hU0, (by first | omega | assumption | (simp_all; done) | (simp_all; omega))⟩, by omega⟩
      try simp only [decide_eq_true_eq, decide_eq_false_iff_not, Bool.not_eq_true', Bool.not_eq_false', Bool.not_eq_eq_eq_not, Bool.not_true, Bool.not_false, Int.not_lt, Int.not_le, Classical.not_not, beq_iff_eq, beq_eq_false_iff_ne] at hc6
      refine WL.pureG rfl rfl rfl rfl rfl (PV.move rfl) ?_
      refine WL.pureG rfl rfl rfl rfl rfl (PV.move rfl) ?_
      first
        | refine WL.atO (x := .tmp 202) (y := .tmp 203) (f := VI) (0) rfl rfl ho10 (by first | omega | (simp only [List.length_set]; omega) | (simp only [List.length_append, List.length_take, List.length_replicate, List.length_drop]; omega)) (fun p5 hpp5 hcp5 => ?_)
        | refine WL.atOZ (x := .tmp 202) (y := .tmp 203) (f := VI) (0) rfl rfl ho10 (by first | omega | (simp only [List.length_set]; omega) | (simp only [List.length_append, List.length_take, List.length_replicate, List.length_drop]; omega)) (fun p5 hpp5 hzp5 hcp5 => ?_)
      refine WL.pureG rfl rfl rfl rfl rfl ((by first | exact PV.indexAddr hpp5 rfl rfl T.sl26 | exact PV.indexAddr hpp5 rfl (by rw [← hzp5]; rfl) T.sl26)) ?_
      refine WL.pureG rfl rfl rfl rfl rfl ((by first | exact PV.load0 T.na2 rfl (by first | exact Cells.up (by assumption) hB | exact Bx.cells (by assumption) | assumption) (Ext.refl _) rfl | exact PV.load1 T.na2 rfl (by first | exact Cells.up (by assumption) hB | exact Bx.cells (by assumption) | assumption) (Ext.refl _) rfl)) ?_
      refine WL.pureG rfl rfl rfl rfl rfl (PV.move rfl) ?_
      refine WL.pureG rfl rfl rfl rfl rfl (PV.eql rfl rfl) ?_
      refine WL.pure rfl rfl rfl (PV.pickT rfl rfl) ?_
      refine WL.pure rfl rfl rfl (PV.neqB T.bl4 rfl rfl) ?_
      refine WL.nilS ?_
      refine CW.cond rfl (fun hc8 => ?_) (fun hc8 => ?_)
      · skip
        try simp only [decide_eq_true_eq, decide_eq_false_iff_not, Bool.not_eq_true', Bool.not_eq_false', Bool.not_eq_eq_eq_not, Bool.not_true, Bool.not_false, Int.not_lt, Int.not_le, Classical.not_not, beq_iff_eq, beq_eq_false_iff_ne] at hc8
        exact (fx_dead (c := c) (ws := ws7) (k := k) (by omega) (by first | exact fx_f3 (by assumption) (by assumption) | exact fx_n1 (by assumption) | exact fx_n2 (by assumption)) (by first | exact fx_y1 (by omega) | exact fx_y2 (by omega)) hc8).elim
      try simp only [decide_eq_true_eq, decide_eq_false_iff_not, Bool.not_eq_true', Bool.not_eq_false', Bool.not_eq_eq_eq_not, Bool.not_true, Bool.not_false, Int.not_lt, Int.not_le, Classical.not_not, beq_iff_eq, beq_eq_false_iff_ne] at hc8
      refine CW.skipS ?_
      refine CW.seq ?_
      refine CW.reg ?_
      refine WL.pure rfl rfl rfl (PV.move rfl) ?_
      refine WL.nilS ?_
      refine CW.condF rfl ?_
      refine CW.skip ?_
      refine NQ.block ?_
      refine NQ.then ?_
      refine CW.reg ?_
      refine WL.pure rfl rfl rfl (PV.move rfl) ?_
      refine WL.pure rfl rfl rfl (PV.add rfl rfl (by constructor <;> omega)) ?_
      refine WL.pure rfl rfl rfl (PV.assign rfl) ?_
      refine WL.nil ?_
      refine NQ.next (ρ := [(22, _), (23, _)]) ⟨rfl, rfl, rfl, rfl, rfl, rfl, rfl, rfl, rfl, trivial⟩ ?_
      exact ⟨_, ⟨k + 1, (by first | rfl | (rw [← fx_s1 (by first | (rw [← fx_f3 (by assumption) (by assumption)]; assumption))]; rfl) | (rw [← fx_s2 (by first | exact (fx_n1 (by assumption)).symm | exact (fx_n2 (by assumption)).symm | (rw [← fx_f3 (by assumption) (by assumption)]; assumption))]; rfl)), rfl, hU0, (by first | omega | assumption | (simp_all; done) | (simp_all; omega))⟩, by omega⟩
    try simp only [decide_eq_true_eq, decide_eq_false_iff_not, Bool.not_eq_true', Bool.not_eq_false', Bool.not_eq_eq_eq_not, Bool.not_true, Bool.not_false, Int.not_lt, Int.not_le, Classical.not_not, beq_iff_eq, beq_eq_false_iff_ne] at hc5
    refine WL.pureG rfl rfl rfl rfl rfl (PV.move rfl) ?_
    refine WL.pureG rfl rfl rfl rfl rfl ((by first | exact PV.fieldAddr T.fl58_0 rfl (by first | assumption | exact Bx.cells (by assumption)) | exact PV.fieldAddrP T.fl58_0 rfl rfl)) ?_
    refine WL.pureG rfl rfl rfl rfl rfl ((by first | exact PV.load0 T.na26 rfl (by first | exact Cells.up (by assumption) hB | exact Bx.cells (by assumption) | assumption) (Ext.refl _) rfl | exact PV.load1 T.na26 rfl (by first | exact Cells.up (by assumption) hB | exact Bx.cells (by assumption) | assumption) (Ext.refl _) rfl)) ?_
    refine WL.pureG rfl rfl rfl rfl rfl (PV.move rfl) ?_
    refine WL.pureG rfl rfl rfl rfl rfl ((by first | exact PV.fieldAddr T.fl58_0 rfl (by first | assumption | exact Bx.cells (by assumption)) | exact PV.fieldAddrP T.fl58_0 rfl rfl)) ?_
    refine WL.pureG rfl rfl rfl rfl rfl ((by first | exact PV.load0 T.na26 rfl (by first | exact Cells.up (by assumption) hB | exact Bx.cells (by assumption) | assumption) (Ext.refl _) rfl | exact PV.load1 T.na26 rfl (by first | exact Cells.up (by assumption) hB | exact Bx.cells (by assumption) | assumption) (Ext.refl _) rfl)) ?_
    refine WL.pureG rfl rfl rfl rfl rfl ((by first | exact PV.len rfl (by assumption) T.sl26 | exact PV.lenOs rfl (by assumption) T.sl26 | exact PV.len rfl (NL.rd (by assumption)) T.sl26 | exact PV.len rfl (Inn.rd (by assumption) (by omega)) T.sl26)) ?_
    refine WL.pureG rfl rfl rfl rfl rfl (PV.sub rfl rfl (by constructor <;> omega)) ?_
    refine WL.opG rfl rfl rfl (OpK.callR rfl T.cf69 rfl (c_laws_b10There (by first | assumption | exact Rd.up (by assumption) hB | exact Osl.rd (by assumption) | exact Osn.rdR (by assumption) | exact NL.rd (by assumption) | exact rdII (by assumption) (by assumption) | exact Inn.rd (by assumption) (by omega)) (by first | assumption | exact Rd.up (by assumption) hB | exact Osl.rd (by assumption) | exact Osn.rdR (by assumption) | exact NL.rd (by assumption) | exact rdII (by assumption) (by assumption) | exact Inn.rd (by assumption) (by omega)) (by first | assumption | omega | (simp only [marks_len, marksB_len, marksR_len, sumL_marksS]; omega)) (by first | assumption | omega | (simp only [marks_len, marksB_len, marksR_len, sumL_marksS]; omega))) (fun w22 hXw22 => ?_))
    have hB := hB.trans hXw22
    have ho1 := ho1.up hXw22
    have hn2 := hn2.up hXw22
    have hb5 := hb5.up hXw22
    have ho8 := ho8.up hXw22
    have ho10 := ho10.up hXw22
    have ho11 := ho11.up hXw22
    have ho12 := ho12.up hXw22
    have ho13 := ho13.up hXw22
    have ho14 := ho14.up hXw22
    have ho15 := ho15.up hXw22
    have ho16 := ho16.up hXw22
    have hn17 := hn17.up hXw22
    have hU0 := hU0.ext hXw22
    obtain ⟨hqp1_0, hqp1_1, hqp1_2, hqp1_3⟩ := hqFp1 _ hn2
    obtain ⟨hqp2_0, hqp2_1, hqp2_2, hqp2_3⟩ := hqFp2 _ hn2
    refine WL.pure rfl rfl rfl (PV.pickT rfl rfl) ?_
    refine WL.pure rfl rfl rfl (PV.move rfl) ?_
    refine WL.split (t := 185) rfl (fun hc9 => ?_) (fun hc9 => ?_)
    rotate_left
    · skip
      try simp only [decide_eq_true_eq, decide_eq_false_iff_not, Bool.not_eq_true', Bool.not_eq_false', Bool.not_eq_eq_eq_not, Bool.not_true, Bool.not_false, Int.not_lt, Int.not_le, Classical.not_not, beq_iff_eq, beq_eq_false_iff_ne] at hc9
      refine WL.skip rfl rfl rfl rfl rfl ?_
      refine WL.skip rfl rfl rfl rfl rfl ?_
      refine WL.skip rfl rfl rfl rfl rfl ?_
      refine WL.skip rfl rfl rfl rfl rfl ?_
      refine WL.skip rfl rfl rfl rfl rfl ?_
      refine WL.skip rfl rfl rfl rfl rfl ?_
      refine WL.skip rfl rfl rfl rfl rfl ?_
      refine WL.skip rfl rfl rfl rfl rfl ?_
      refine WL.skip rfl rfl rfl rfl rfl ?_
      refine WL.pure rfl rfl rfl (PV.pickF rfl rfl) ?_
      refine WL.pure rfl rfl rfl (PV.assign rfl) ?_
      refine WL.nilS ?_
      refine CW.seq ?_
      refine CW.seq ?_
      refine CW.reg ?_
      refine WL.pure rfl rfl rfl (PV.move rfl) ?_
      refine WL.pure rfl rfl rfl (PV.move rfl) ?_
      refine WL.pure rfl rfl rfl (PV.move rfl) ?_
      refine WL.pure rfl rfl rfl ((PV.lenOs rfl ho10 T.sl26)) ?_
      refine WL.pure rfl rfl rfl (PV.lss rfl rfl) ?_
      refine WL.pure rfl rfl rfl (PV.move rfl) ?_
      refine WL.split (t := 201) rfl (fun hc10 => ?_) (fun hc10 => ?_)
      rotate_left
      · skip
        try simp only [decide_eq_true_eq, decide_eq_false_iff_not, Bool.not_eq_true', Bool.not_eq_false', Bool.not_eq_eq_eq_not, Bool.not_true, Bool.not_false, Int.not_lt, Int.not_le, Classical.not_not, beq_iff_eq, beq_eq_false_iff_ne] at hc10
        refine WL.skip rfl rfl rfl rfl rfl ?_
        refine WL.skip rfl rfl rfl rfl rfl ?_
        refine WL.skip rfl rfl rfl rfl rfl ?_
        refine WL.skip rfl rfl rfl rfl rfl ?_
        refine WL.skip rfl rfl rfl rfl rfl ?_
        refine WL.skip rfl rfl rfl rfl rfl ?_
        refine WL.pure rfl rfl rfl (PV.pickF rfl rfl) ?_
        refine WL.pure rfl rfl rfl (PV.neqB T.bl4 rfl rfl) ?_
        refine WL.nilS ?_
        refine CW.cond rfl (fun hc11 => ?_) (fun hc11 => ?_)
        · skip
          try simp only [decide_eq_true_eq, decide_eq_false_iff_not, Bool.not_eq_true', Bool.not_eq_false', Bool.not_eq_eq_eq_not, Bool.not_true, Bool.not_false, Int.not_lt, Int.not_le, Classical.not_not, beq_iff_eq, beq_eq_false_iff_ne] at hc11
          exact (fx_dead (c := c) (ws := ws7) (k := k) (by omega) (by first | exact fx_f3 (by assumption) (by assumption) | exact fx_n1 (by assumption) | exact fx_n2 (by assumption)) (by first | exact fx_y1 (by omega) | exact fx_y2 (by omega)) hc11).elim
        try simp only [decide_eq_true_eq, decide_eq_false_iff_not, Bool.not_eq_true', Bool.not_eq_false', Bool.not_eq_eq_eq_not, Bool.not_true, Bool.not_false, Int.not_lt, Int.not_le, Classical.not_not, beq_iff_eq, beq_eq_false_iff_ne] at hc11
        refine CW.skipS ?_
        refine CW.seq ?_
        refine CW.reg ?_
        refine WL.pure rfl rfl rfl (PV.move rfl) ?_
        refine WL.nilS ?_
        refine CW.condF rfl ?_
        refine CW.skip ?_
        refine NQ.block ?_
        refine NQ.then ?_
        refine CW.reg ?_
        refine WL.pure rfl rfl rfl (PV.move rfl) ?_
        refine WL.pure rfl rfl rfl (PV.add rfl rfl (by constructor <;> omega)) ?_
        refine WL.pure rfl rfl rfl (PV.assign rfl) ?_
        refine WL.nil ?_
        refine NQ.next (ρ := [(22, _), (23, _)]) ⟨rfl, rfl, rfl, rfl, rfl, rfl, rfl, rfl, rfl, trivial⟩ ?_
        exact ⟨_, ⟨k + 1, (by first | rfl | (rw [← fx_s1 (by first | (rw [← fx_f3 (by assumption) (by assumption)]; assumption))]; rfl) | (rw [← fx_s2 (by first | exact (fx_n1 (by assumption)).symm | exact (fx_n2 (by assumption)).symm | (rw [← fx_f3 (by assumption) (by assumption)]; assumption))]; rfl)), rfl, hU0, (by first | omega | assumption | (simp_all; done) | (simp_all; omega))⟩, by omega⟩
      try simp only [decide_eq_true_eq, decide_eq_false_iff_not, Bool.not_eq_true', Bool.not_eq_false', Bool.not_eq_eq_eq_not, Bool.not_true, Bool.not_false, Int.not_lt, Int.not_le, Classical.not_not, beq_iff_eq, beq_eq_false_iff_ne] at hc10
      refine WL.pureG rfl rfl rfl rfl rfl (PV.move rfl) ?_
      refine WL.pureG rfl rfl rfl rfl rfl (PV.move rfl) ?_
      first
        | refine WL.atO (x := .tmp 202) (y := .tmp 203) (f := VI) (0) rfl rfl ho10 (by first | omega | (simp only [List.length_set]; omega) | (simp only [List.length_append, List.length_take, List.length_replicate, List.length_drop]; omega)) (fun p6 hpp6 hcp6 => ?_)
        | refine WL.atOZ (x := .tmp 202) (y := .tmp 203) (f := VI) (0) rfl rfl ho10 (by first | omega | (simp only [List.length_set]; omega) | (simp only [List.length_append, List.length_take, List.length_replicate, List.length_drop]; omega)) (fun p6 hpp6 hzp6 hcp6 => ?_)
      refine WL.pureG rfl rfl rfl rfl rfl ((by first | exact PV.indexAddr hpp6 rfl rfl T.sl26 | exact PV.indexAddr hpp6 rfl (by rw [← hzp6]; rfl) T.sl26)) ?_
      refine WL.pureG rfl rfl rfl rfl rfl ((by first | exact PV.load0 T.na2 rfl (by first | exact Cells.up (by assumption) hB | exact Bx.cells (by assumption) | assumption) (Ext.refl _) rfl | exact PV.load1 T.na2 rfl (by first | exact Cells.up (by assumption) hB | exact Bx.cells (by assumption) | assumption) (Ext.refl _) rfl)) ?_
      refine WL.pureG rfl rfl rfl rfl rfl (PV.move rfl) ?_
      refine WL.pureG rfl rfl rfl rfl rfl (PV.eql rfl rfl) ?_
      refine WL.pure rfl rfl rfl (PV.pickT rfl rfl) ?_
      refine WL.pure rfl rfl rfl (PV.neqB T.bl4 rfl rfl) ?_
      refine WL.nilS ?_
      refine CW.cond rfl (fun hc12 => ?_) (fun hc12 => ?_)
      · skip
        try simp only [decide_eq_true_eq, decide_eq_false_iff_not, Bool.not_eq_true', Bool.not_eq_false', Bool.not_eq_eq_eq_not, Bool.not_true, Bool.not_false, Int.not_lt, Int.not_le, Classical.not_not, beq_iff_eq, beq_eq_false_iff_ne] at hc12
        exact (fx_dead (c := c) (ws := ws7) (k := k) (by omega) (by first | exact fx_f3 (by assumption) (by assumption) | exact fx_n1 (by assumption) | exact fx_n2 (by assumption)) (by first | exact fx_y1 (by omega) | exact fx_y2 (by omega)) hc12).elim
      try simp only [decide_eq_true_eq, decide_eq_false_iff_not, Bool.not_eq_true', Bool.not_eq_false', Bool.not_eq_eq_eq_not, Bool.not_true, Bool.not_false, Int.not_lt, Int.not_le, Classical.not_not, beq_iff_eq, beq_eq_false_iff_ne] at hc12
      refine CW.skipS ?_
      refine CW.seq ?_
      refine CW.reg ?_
      refine WL.pure rfl rfl rfl (PV.move rfl) ?_
      refine WL.nilS ?_
      refine CW.condF rfl ?_
      refine CW.skip ?_
      refine NQ.block ?_
      refine NQ.then ?_
      refine CW.reg ?_
      refine WL.pure rfl rfl rfl (PV.move rfl) ?_
      refine WL.pure rfl rfl rfl (PV.add rfl rfl (by constructor <;> omega)) ?_
      refine WL.pure rfl rfl rfl (PV.assign rfl) ?_
      refine WL.nil ?_
      refine NQ.next (ρ := [(22, _), (23, _)]) ⟨rfl, rfl, rfl, rfl, rfl, rfl, rfl, rfl, rfl, trivial⟩ ?_
      exact ⟨_, ⟨k + 1, (by first | rfl | (rw [← fx_s1 (by first | (rw [← fx_f3 (by assumption) (by assumption)]; assumption))]; rfl) | (rw [← fx_s2 (by first | exact (fx_n1 (by assumption)).symm | exact (fx_n2 (by assumption)).symm | (rw [← fx_f3 (by assumption) (by assumption)]; assumption))]; rfl)), rfl, hU0, (by first | omega | assumption | (simp_all; done) | (simp_all; omega))⟩, by omega⟩
    try simp only [decide_eq_true_eq, decide_eq_false_iff_not, Bool.not_eq_true', Bool.not_eq_false', Bool.not_eq_eq_eq_not, Bool.not_true, Bool.not_false, Int.not_lt, Int.not_le, Classical.not_not, beq_iff_eq, beq_eq_false_iff_ne] at hc9
    refine WL.pureG rfl rfl rfl rfl rfl (PV.move rfl) ?_
    refine WL.pureG rfl rfl rfl rfl rfl ((by first | exact PV.fieldAddr T.fl58_3 rfl (by first | assumption | exact Bx.cells (by assumption)) | exact PV.fieldAddrP T.fl58_3 rfl rfl)) ?_
    refine WL.pureG rfl rfl rfl rfl rfl ((by first | exact PV.load0 T.na26 rfl (by first | exact Cells.up (by assumption) hB | exact Bx.cells (by assumption) | assumption) (Ext.refl _) rfl | exact PV.load1 T.na26 rfl (by first | exact Cells.up (by assumption) hB | exact Bx.cells (by assumption) | assumption) (Ext.refl _) rfl)) ?_
    refine WL.pureG rfl rfl rfl rfl rfl (PV.move rfl) ?_
    refine WL.pureG rfl rfl rfl rfl rfl ((by first | exact PV.fieldAddr T.fl58_1 rfl (by first | assumption | exact Bx.cells (by assumption)) | exact PV.fieldAddrP T.fl58_1 rfl rfl)) ?_
    refine WL.pureG rfl rfl rfl rfl rfl ((by first | exact PV.load0 T.na26 rfl (by first | exact Cells.up (by assumption) hB | exact Bx.cells (by assumption) | assumption) (Ext.refl _) rfl | exact PV.load1 T.na26 rfl (by first | exact Cells.up (by assumption) hB | exact Bx.cells (by assumption) | assumption) (Ext.refl _) rfl)) ?_
    refine WL.pureG rfl rfl rfl rfl rfl ((by first | exact PV.len rfl (by assumption) T.sl26 | exact PV.lenOs rfl (by assumption) T.sl26 | exact PV.len rfl (NL.rd (by assumption)) T.sl26 | exact PV.len rfl (Inn.rd (by assumption) (by omega)) T.sl26)) ?_
    refine WL.pureG rfl rfl rfl rfl rfl (PV.add rfl rfl (by constructor <;> omega)) ?_
    refine WL.opG rfl rfl rfl (OpK.callR rfl T.cf69 rfl (c_laws_b10There (by first | assumption | exact Rd.up (by assumption) hB | exact Osl.rd (by assumption) | exact Osn.rdR (by assumption) | exact NL.rd (by assumption) | exact rdII (by assumption) (by assumption) | exact Inn.rd (by assumption) (by omega)) (by first | assumption | exact Rd.up (by assumption) hB | exact Osl.rd (by assumption) | exact Osn.rdR (by assumption) | exact NL.rd (by assumption) | exact rdII (by assumption) (by assumption) | exact Inn.rd (by assumption) (by omega)) (by first | assumption | omega | (simp only [marks_len, marksB_len, marksR_len, sumL_marksS]; omega)) (by first | assumption | omega | (simp only [marks_len, marksB_len, marksR_len, sumL_marksS]; omega))) (fun w23 hXw23 => ?_))
    have hB := hB.trans hXw23
    have ho1 := ho1.up hXw23
    have hn2 := hn2.up hXw23
    have hb5 := hb5.up hXw23
    have ho8 := ho8.up hXw23
    have ho10 := ho10.up hXw23
    have ho11 := ho11.up hXw23
    have ho12 := ho12.up hXw23
    have ho13 := ho13.up hXw23
    have ho14 := ho14.up hXw23
    have ho15 := ho15.up hXw23
    have ho16 := ho16.up hXw23
    have hn17 := hn17.up hXw23
    have hU0 := hU0.ext hXw23
    obtain ⟨hqp1_0, hqp1_1, hqp1_2, hqp1_3⟩ := hqFp1 _ hn2
    obtain ⟨hqp2_0, hqp2_1, hqp2_2, hqp2_3⟩ := hqFp2 _ hn2
    refine WL.pure rfl rfl rfl (PV.pickT rfl rfl) ?_
    refine WL.pure rfl rfl rfl (PV.assign rfl) ?_
    refine WL.nilS ?_
    refine CW.seq ?_
    refine CW.seq ?_
    refine CW.reg ?_
    refine WL.pure rfl rfl rfl (PV.move rfl) ?_
    refine WL.pure rfl rfl rfl (PV.move rfl) ?_
    refine WL.pure rfl rfl rfl (PV.move rfl) ?_
    refine WL.pure rfl rfl rfl ((PV.lenOs rfl ho10 T.sl26)) ?_
    refine WL.pure rfl rfl rfl (PV.lss rfl rfl) ?_
    refine WL.pure rfl rfl rfl (PV.move rfl) ?_
    refine WL.split (t := 201) rfl (fun hc13 => ?_) (fun hc13 => ?_)
    rotate_left
    · skip
      try simp only [decide_eq_true_eq, decide_eq_false_iff_not, Bool.not_eq_true', Bool.not_eq_false', Bool.not_eq_eq_eq_not, Bool.not_true, Bool.not_false, Int.not_lt, Int.not_le, Classical.not_not, beq_iff_eq, beq_eq_false_iff_ne] at hc13
      refine WL.skip rfl rfl rfl rfl rfl ?_
      refine WL.skip rfl rfl rfl rfl rfl ?_
      refine WL.skip rfl rfl rfl rfl rfl ?_
      refine WL.skip rfl rfl rfl rfl rfl ?_
      refine WL.skip rfl rfl rfl rfl rfl ?_
      refine WL.skip rfl rfl rfl rfl rfl ?_
      refine WL.pure rfl rfl rfl (PV.pickF rfl rfl) ?_
      refine WL.pure rfl rfl rfl (PV.neqB T.bl4 rfl rfl) ?_
      refine WL.nilS ?_
      refine CW.cond rfl (fun hc14 => ?_) (fun hc14 => ?_)
      · skip
        try simp only [decide_eq_true_eq, decide_eq_false_iff_not, Bool.not_eq_true', Bool.not_eq_false', Bool.not_eq_eq_eq_not, Bool.not_true, Bool.not_false, Int.not_lt, Int.not_le, Classical.not_not, beq_iff_eq, beq_eq_false_iff_ne] at hc14
        exact (fx_dead (c := c) (ws := ws7) (k := k) (by omega) (by first | exact fx_f3 (by assumption) (by assumption) | exact fx_n1 (by assumption) | exact fx_n2 (by assumption)) (by first | exact fx_y1 (by omega) | exact fx_y2 (by omega)) hc14).elim
      try simp only [decide_eq_true_eq, decide_eq_false_iff_not, Bool.not_eq_true', Bool.not_eq_false', Bool.not_eq_eq_eq_not, Bool.not_true, Bool.not_false, Int.not_lt, Int.not_le, Classical.not_not, beq_iff_eq, beq_eq_false_iff_ne] at hc14
      refine CW.skipS ?_
      refine CW.seq ?_
      refine CW.reg ?_
      refine WL.pure rfl rfl rfl (PV.move rfl) ?_
      refine WL.nilS ?_
      refine CW.cond rfl (fun hc15 => ?_) (fun hc15 => ?_)
      · skip
        try simp only [decide_eq_true_eq, decide_eq_false_iff_not, Bool.not_eq_true', Bool.not_eq_false', Bool.not_eq_eq_eq_not, Bool.not_true, Bool.not_false, Int.not_lt, Int.not_le, Classical.not_not, beq_iff_eq, beq_eq_false_iff_ne] at hc15
        refine CW.reg ?_
        refine WL.pure rfl rfl rfl (PV.move rfl) ?_
        refine WL.pure rfl rfl rfl (PV.add rfl rfl (by constructor <;> omega)) ?_
        refine WL.pure rfl rfl rfl (PV.assign rfl) ?_
        refine WL.nil ?_
        refine NQ.block ?_
        refine NQ.then ?_
        refine CW.reg ?_
        refine WL.pure rfl rfl rfl (PV.move rfl) ?_
        refine WL.pure rfl rfl rfl (PV.add rfl rfl (by constructor <;> omega)) ?_
        refine WL.pure rfl rfl rfl (PV.assign rfl) ?_
        refine WL.nil ?_
        refine NQ.next (ρ := [(22, _), (23, _)]) ⟨rfl, rfl, rfl, rfl, rfl, rfl, rfl, rfl, rfl, trivial⟩ ?_
        exact ⟨_, ⟨k + 1, (by first | rfl | (rw [← fx_s1 (by first | (rw [← fx_f3 (by assumption) (by assumption)]; assumption))]; rfl) | (rw [← fx_s2 (by first | exact (fx_n1 (by assumption)).symm | exact (fx_n2 (by assumption)).symm | (rw [← fx_f3 (by assumption) (by assumption)]; assumption))]; rfl)), rfl, hU0, (by first | omega | assumption | (simp_all; done) | (simp_all; omega))⟩, by omega⟩
      try simp only [decide_eq_true_eq, decide_eq_false_iff_not, Bool.not_eq_true', Bool.not_eq_false', Bool.not_eq_eq_eq_not, Bool.not_true, Bool.not_false, Int.not_lt, Int.not_le, Classical.not_not, beq_iff_eq, beq_eq_false_iff_ne] at hc15
      refine CW.skip ?_
      refine NQ.block ?_
      refine NQ.then ?_
      refine CW.reg ?_
      refine WL.pure rfl rfl rfl (PV.move rfl) ?_
      refine WL.pure rfl rfl rfl (PV.add rfl rfl (by constructor <;> omega)) ?_
      refine WL.pure rfl rfl rfl (PV.assign rfl) ?_
      refine WL.nil ?_
      refine NQ.next (ρ := [(22, _), (23, _)]) ⟨rfl, rfl, rfl, rfl, rfl, rfl, rfl, rfl, rfl, trivial⟩ ?_
      exact ⟨_, ⟨k + 1, (by first | rfl | (rw [← fx_s1 (by first | (rw [← fx_f3 (by assumption) (by assumption)]; assumption))]; rfl) | (rw [← fx_s2 (by first | exact (fx_n1 (by assumption)).symm | exact (fx_n2 (by assumption)).symm | (rw [← fx_f3 (by assumption) (by assumption)]; assumption))]; rfl)), rfl, hU0, (by first | omega | assumption | (simp_all; done) | (simp_all; omega))⟩, by omega⟩
    try simp only [decide_eq_true_eq, decide_eq_false_iff_not, Bool.not_eq_true', Bool.not_eq_false', Bool.not_eq_eq_eq_not, Bool.not_true, Bool.not_false, Int.not_lt, Int.not_le, Classical.not_not, beq_iff_eq, beq_eq_false_iff_ne] at hc13
    refine WL.pureG rfl rfl rfl rfl rfl (PV.move rfl) ?_
    refine WL.pureG rfl rfl rfl rfl rfl (PV.move rfl) ?_
    first
      | refine WL.atO (x := .tmp 202) (y := .tmp 203) (f := VI) (0) rfl rfl ho10 (by first | omega | (simp only [List.length_set]; omega) | (simp only [List.length_append, List.length_take, List.length_replicate, List.length_drop]; omega)) (fun p7 hpp7 hcp7 => ?_)
      | refine WL.atOZ (x := .tmp 202) (y := .tmp 203) (f := VI) (0) rfl rfl ho10 (by first | omega | (simp only [List.length_set]; omega) | (simp only [List.length_append, List.length_take, List.length_replicate, List.length_drop]; omega)) (fun p7 hpp7 hzp7 hcp7 => ?_)
    refine WL.pureG rfl rfl rfl rfl rfl ((by first | exact PV.indexAddr hpp7 rfl rfl T.sl26 | exact PV.indexAddr hpp7 rfl (by rw [← hzp7]; rfl) T.sl26)) ?_
    refine WL.pureG rfl rfl rfl rfl rfl ((by first | exact PV.load0 T.na2 rfl (by first | exact Cells.up (by assumption) hB | exact Bx.cells (by assumption) | assumption) (Ext.refl _) rfl | exact PV.load1 T.na2 rfl (by first | exact Cells.up (by assumption) hB | exact Bx.cells (by assumption) | assumption) (Ext.refl _) rfl)) ?_
    refine WL.pureG rfl rfl rfl rfl rfl (PV.move rfl) ?_
    refine WL.pureG rfl rfl rfl rfl rfl (PV.eql rfl rfl) ?_
    refine WL.pure rfl rfl rfl (PV.pickT rfl rfl) ?_
    refine WL.pure rfl rfl rfl (PV.neqB T.bl4 rfl rfl) ?_
    refine WL.nilS ?_
    refine CW.cond rfl (fun hc16 => ?_) (fun hc16 => ?_)
    · skip
      try simp only [decide_eq_true_eq, decide_eq_false_iff_not, Bool.not_eq_true', Bool.not_eq_false', Bool.not_eq_eq_eq_not, Bool.not_true, Bool.not_false, Int.not_lt, Int.not_le, Classical.not_not, beq_iff_eq, beq_eq_false_iff_ne] at hc16
      exact (fx_dead (c := c) (ws := ws7) (k := k) (by omega) (by first | exact fx_f3 (by assumption) (by assumption) | exact fx_n1 (by assumption) | exact fx_n2 (by assumption)) (by first | exact fx_y1 (by omega) | exact fx_y2 (by omega)) hc16).elim
    try simp only [decide_eq_true_eq, decide_eq_false_iff_not, Bool.not_eq_true', Bool.not_eq_false', Bool.not_eq_eq_eq_not, Bool.not_true, Bool.not_false, Int.not_lt, Int.not_le, Classical.not_not, beq_iff_eq, beq_eq_false_iff_ne] at hc16
    refine CW.skipS ?_
    refine CW.seq ?_
    refine CW.reg ?_
    refine WL.pure rfl rfl rfl (PV.move rfl) ?_
    refine WL.nilS ?_
    refine CW.cond rfl (fun hc17 => ?_) (fun hc17 => ?_)
    · skip
      try simp only [decide_eq_true_eq, decide_eq_false_iff_not, Bool.not_eq_true', Bool.not_eq_false', Bool.not_eq_eq_eq_not, Bool.not_true, Bool.not_false, Int.not_lt, Int.not_le, Classical.not_not, beq_iff_eq, beq_eq_false_iff_ne] at hc17
      refine CW.reg ?_
      refine WL.pure rfl rfl rfl (PV.move rfl) ?_
      refine WL.pure rfl rfl rfl (PV.add rfl rfl (by constructor <;> omega)) ?_
      refine WL.pure rfl rfl rfl (PV.assign rfl) ?_
      refine WL.nil ?_
      refine NQ.block ?_
      refine NQ.then ?_
      refine CW.reg ?_
      refine WL.pure rfl rfl rfl (PV.move rfl) ?_
      refine WL.pure rfl rfl rfl (PV.add rfl rfl (by constructor <;> omega)) ?_
      refine WL.pure rfl rfl rfl (PV.assign rfl) ?_
      refine WL.nil ?_
      refine NQ.next (ρ := [(22, _), (23, _)]) ⟨rfl, rfl, rfl, rfl, rfl, rfl, rfl, rfl, rfl, trivial⟩ ?_
      exact ⟨_, ⟨k + 1, (by first | rfl | (rw [← fx_s1 (by first | (rw [← fx_f3 (by assumption) (by assumption)]; assumption))]; rfl) | (rw [← fx_s2 (by first | exact (fx_n1 (by assumption)).symm | exact (fx_n2 (by assumption)).symm | (rw [← fx_f3 (by assumption) (by assumption)]; assumption))]; rfl)), rfl, hU0, (by first | omega | assumption | (simp_all; done) | (simp_all; omega))⟩, by omega⟩
    try simp only [decide_eq_true_eq, decide_eq_false_iff_not, Bool.not_eq_true', Bool.not_eq_false', Bool.not_eq_eq_eq_not, Bool.not_true, Bool.not_false, Int.not_lt, Int.not_le, Classical.not_not, beq_iff_eq, beq_eq_false_iff_ne] at hc17
    refine CW.skip ?_
    refine NQ.block ?_
    refine NQ.then ?_
    refine CW.reg ?_
    refine WL.pure rfl rfl rfl (PV.move rfl) ?_
    refine WL.pure rfl rfl rfl (PV.add rfl rfl (by constructor <;> omega)) ?_
    refine WL.pure rfl rfl rfl (PV.assign rfl) ?_
    refine WL.nil ?_
    refine NQ.next (ρ := [(22, _), (23, _)]) ⟨rfl, rfl, rfl, rfl, rfl, rfl, rfl, rfl, rfl, trivial⟩ ?_
    exact ⟨_, ⟨k + 1, (by first | rfl | (rw [← fx_s1 (by first | (rw [← fx_f3 (by assumption) (by assumption)]; assumption))]; rfl) | (rw [← fx_s2 (by first | exact (fx_n1 (by assumption)).symm | exact (fx_n2 (by assumption)).symm | (rw [← fx_f3 (by assumption) (by assumption)]; assumption))]; rfl)), rfl, hU0, (by first | omega | assumption | (simp_all; done) | (simp_all; omega))⟩, by omega⟩
  try simp only [decide_eq_true_eq, decide_eq_false_iff_not, Bool.not_eq_true', Bool.not_eq_false', Bool.not_eq_eq_eq_not, Bool.not_true, Bool.not_false, Int.not_lt, Int.not_le, Classical.not_not, beq_iff_eq, beq_eq_false_iff_ne] at hc4
  refine CW.exit ?_
  refine XQ.then ?_
  refine XQ.then ?_
  refine XQ.here ?_
  refine NQ.then ?_
  refine CW.seq ?_
  refine CW.seq ?_
  refine CW.reg ?_
  refine WL.pure rfl rfl rfl (PV.move rfl) ?_
  refine WL.pure rfl rfl rfl (PV.move rfl) ?_
  refine WL.pure rfl rfl rfl ((PV.lenOs rfl ho10 T.sl26)) ?_
  refine WL.pure rfl rfl rfl (PV.neq rfl rfl) ?_
  refine WL.nilS ?_
  refine CW.cond rfl (fun hc18 => ?_) (fun hc18 => ?_)
  · skip
    try simp only [decide_eq_true_eq, decide_eq_false_iff_not, Bool.not_eq_true', Bool.not_eq_false', Bool.not_eq_eq_eq_not, Bool.not_true, Bool.not_false, Int.not_lt, Int.not_le, Classical.not_not, beq_iff_eq, beq_eq_false_iff_ne] at hc18
    exfalso; obtain rfl : k = ws7.length := (by omega); exact absurd rfl hc18
  try simp only [decide_eq_true_eq, decide_eq_false_iff_not, Bool.not_eq_true', Bool.not_eq_false', Bool.not_eq_eq_eq_not, Bool.not_true, Bool.not_false, Int.not_lt, Int.not_le, Classical.not_not, beq_iff_eq, beq_eq_false_iff_ne] at hc18
  refine CW.skipS ?_
  refine CW.seq ?_
  refine CW.seq ?_
  refine CW.reg ?_
  obtain rfl : k = ws7.length := (by omega)
  refine WL.pure rfl rfl rfl (PV.move rfl) ?_
  refine WL.pure rfl rfl rfl (PV.eql rfl rfl) ?_
  refine WL.nilS ?_
  refine CW.cond rfl (fun hc19 => ?_) (fun hc19 => ?_)
  · skip
    try simp only [decide_eq_true_eq, decide_eq_false_iff_not, Bool.not_eq_true', Bool.not_eq_false', Bool.not_eq_eq_eq_not, Bool.not_true, Bool.not_false, Int.not_lt, Int.not_le, Classical.not_not, beq_iff_eq, beq_eq_false_iff_ne] at hc19
    have hz0 := fx_no (c := c) (ws := ws7) (by omega); have hz1 : cfL c ws7 = ws7 := cfL_no hz0; have hz2 : allL c ws7 = ws7 := fx_none hd1 hz0
    refine CW.seq ?_
    refine CW.reg ?_
    refine WL.pure rfl rfl rfl (PV.move rfl) ?_
    refine WL.pure rfl rfl rfl (PV.move rfl) ?_
    refine WL.op rfl (OpK.callR rfl T.cf68 rfl (c_laws_b10Ints_y (by first | assumption | exact Rd.up (by assumption) hB | exact Osl.rd (by assumption) | exact Osn.rdR (by assumption) | exact NL.rd (by assumption) | exact rdII (by assumption) (by assumption) | exact Inn.rd (by assumption) (by omega)) (by first | assumption | exact Rd.up (by assumption) hB | exact Osl.rd (by assumption) | exact Osn.rdR (by assumption) | exact NL.rd (by assumption) | exact rdII (by assumption) (by assumption) | exact Inn.rd (by assumption) (by omega)) (by first | rfl | assumption | exact (fx_want (by assumption)).symm)) (fun w24 hXw24 => ?_))
    have hB := hB.trans hXw24
    have ho1 := ho1.up hXw24
    have hn2 := hn2.up hXw24
    have hb5 := hb5.up hXw24
    have ho8 := ho8.up hXw24
    have ho10 := ho10.up hXw24
    have ho11 := ho11.up hXw24
    have ho12 := ho12.up hXw24
    have ho13 := ho13.up hXw24
    have ho14 := ho14.up hXw24
    have ho15 := ho15.up hXw24
    have ho16 := ho16.up hXw24
    have hn17 := hn17.up hXw24
    obtain ⟨hqp1_0, hqp1_1, hqp1_2, hqp1_3⟩ := hqFp1 _ hn2
    obtain ⟨hqp2_0, hqp2_1, hqp2_2, hqp2_3⟩ := hqFp2 _ hn2
    refine WL.pure rfl rfl rfl (PV.move rfl) ?_
    refine WL.pureG rfl rfl rfl rfl rfl (PV.move rfl) ?_
    refine WL.pureG rfl rfl rfl rfl rfl (PV.move rfl) ?_
    refine WL.opG rfl rfl rfl (OpK.callR rfl T.cf68 rfl (c_laws_b10Ints_y (by first | assumption | exact Rd.up (by assumption) hB | exact Osl.rd (by assumption) | exact Osn.rdR (by assumption) | exact NL.rd (by assumption) | exact rdII (by assumption) (by assumption) | exact Inn.rd (by assumption) (by omega)) (by first | assumption | exact Rd.up (by assumption) hB | exact Osl.rd (by assumption) | exact Osn.rdR (by assumption) | exact NL.rd (by assumption) | exact rdII (by assumption) (by assumption) | exact Inn.rd (by assumption) (by omega)) (by first | rfl | assumption | exact (fx_want (by assumption)).symm)) (fun w25 hXw25 => ?_))
    have hB := hB.trans hXw25
    have ho1 := ho1.up hXw25
    have hn2 := hn2.up hXw25
    have hb5 := hb5.up hXw25
    have ho8 := ho8.up hXw25
    have ho10 := ho10.up hXw25
    have ho11 := ho11.up hXw25
    have ho12 := ho12.up hXw25
    have ho13 := ho13.up hXw25
    have ho14 := ho14.up hXw25
    have ho15 := ho15.up hXw25
    have ho16 := ho16.up hXw25
    have hn17 := hn17.up hXw25
    obtain ⟨hqp1_0, hqp1_1, hqp1_2, hqp1_3⟩ := hqFp1 _ hn2
    obtain ⟨hqp2_0, hqp2_1, hqp2_2, hqp2_3⟩ := hqFp2 _ hn2
    refine WL.pure rfl rfl rfl (PV.pickT rfl rfl) ?_
    refine WL.pure rfl rfl rfl (PV.assign rfl) ?_
    refine WL.nilS ?_
    refine CW.ret ?_
    refine RQ.then ?_
    refine RQ.r1 rfl ?_
    refine ⟨?_, hB⟩
    first | rfl | (exfalso; revert hc1; simp; omega)
  try simp only [decide_eq_true_eq, decide_eq_false_iff_not, Bool.not_eq_true', Bool.not_eq_false', Bool.not_eq_eq_eq_not, Bool.not_true, Bool.not_false, Int.not_lt, Int.not_le, Classical.not_not, beq_iff_eq, beq_eq_false_iff_ne] at hc19
  have hnz : (placesL c ws7 ws7.length).length ≠ 0 := (by omega); have hfr0 := fx_rng hnz; have hfr : 0 ≤ (placesL c ws7 ws7.length).getD (0 : Int).toNat 0 ∧ (placesL c ws7 ws7.length).getD (0 : Int).toNat 0 + c.2.1.length ≤ ws7.length := fx_rng hnz; have hff := fx_first hnz
  refine CW.skipS ?_
  refine CW.seq ?_
  refine CW.reg ?_
  refine WL.op rfl (OpK.buildS VI (os := []) [] rfl T.sl26 rfl rfl T.zv2 rfl (by intro z hz; cases hz) rfl (fun v18 g18 w26 hXw26 ho18 hge18 => ?_))
  have hl18 := Lo.new hB hge18
  have hd1_18 := Dj.new ho1.ltO hge18
  have hd2_18 := DI.new hn2 hge18
  have hd5_18 := Dj.new hb5.ltO hge18
  have hd8_18 := Dj.new ho8.ltO hge18
  have hd10_18 := Dj.new ho10.ltO hge18
  have hd11_18 := Dj.new ho11.ltO hge18
  have hd12_18 := Dj.new ho12.ltO hge18
  have hd13_18 := Dj.new ho13.ltO hge18
  have hd14_18 := Dj.new ho14.ltO hge18
  have hd15_18 := Dj.new ho15.ltO hge18
  have hd16_18 := Dj.new ho16.ltO hge18
  have hd17_18 := DI.new hn17 hge18
  have hB := hB.trans hXw26
  have ho1 := ho1.up hXw26
  have hn2 := hn2.up hXw26
  have hb5 := hb5.up hXw26
  have ho8 := ho8.up hXw26
  have ho10 := ho10.up hXw26
  have ho11 := ho11.up hXw26
  have ho12 := ho12.up hXw26
  have ho13 := ho13.up hXw26
  have ho14 := ho14.up hXw26
  have ho15 := ho15.up hXw26
  have ho16 := ho16.up hXw26
  have hn17 := hn17.up hXw26
  obtain ⟨hqp1_0, hqp1_1, hqp1_2, hqp1_3⟩ := hqFp1 _ hn2
  obtain ⟨hqp2_0, hqp2_1, hqp2_2, hqp2_3⟩ := hqFp2 _ hn2
  refine WL.pure rfl rfl rfl (PV.move rfl) ?_
  refine WL.pure rfl rfl rfl (PV.move rfl) ?_
  first
    | refine WL.atO (x := .tmp 229) (y := .const (.int .i64 0)) (f := VI) (0) rfl rfl ho10 (by first | omega | (simp only [List.length_set]; omega) | (simp only [List.length_append, List.length_take, List.length_replicate, List.length_drop]; omega)) (fun p8 hpp8 hcp8 => ?_)
    | refine WL.atOZ (x := .tmp 229) (y := .const (.int .i64 0)) (f := VI) (0) rfl rfl ho10 (by first | omega | (simp only [List.length_set]; omega) | (simp only [List.length_append, List.length_take, List.length_replicate, List.length_drop]; omega)) (fun p8 hpp8 hzp8 hcp8 => ?_)
  refine WL.pure rfl rfl rfl ((by first | exact PV.indexAddr hpp8 rfl rfl T.sl26 | exact PV.indexAddr hpp8 rfl (by rw [← hzp8]; rfl) T.sl26)) ?_
  refine WL.pure rfl rfl rfl ((by first | exact PV.load0 T.na2 rfl (by first | exact Cells.up (by assumption) hB | exact Bx.cells (by assumption) | assumption) (Ext.refl _) rfl | exact PV.load1 T.na2 rfl (by first | exact Cells.up (by assumption) hB | exact Bx.cells (by assumption) | assumption) (Ext.refl _) rfl)) ?_
  refine WL.slRH (x := .tmp 228) (hi := .tmp 231) (E := EI) T.sl26 rfl rfl  (by first | assumption | exact Osl.rd (by assumption)) (by exact ⟨hfr0.1, Int.le_trans (Int.le_add_of_nonneg_right (Int.natCast_nonneg _)) hfr0.2⟩) (fun u1 huu1 hru1 => ?_)
  refine WL.pure rfl rfl rfl ((huu1 _ _ _ _ _ _)) ?_
  refine WL.op rfl (OpK.appendS (f := VI) rfl T.sl26 T.zv2 rfl rfl ho18 rfl (Rd.src (by first | assumption | exact Rd.up (by assumption) hB | exact Inn.rd (by assumption) (by omega)) (fun _ => rfl)) (by first | (simp only [List.length_cons, List.length_nil]; omega) | (simp only [List.length_append, List.length_take, List.length_nil, List.length_drop]; omega)) (fun v19 og19 w27 hXw27 ho19 hap19 => ?_))
  have hl19 := Lo.app hl18 hB hap19
  have hd1_19 := Dj.app hd1_18 ho1.ltO hap19
  have hd2_19 := DI.app hd2_18 hn2 hap19
  have hd5_19 := Dj.app hd5_18 hb5.ltO hap19
  have hd8_19 := Dj.app hd8_18 ho8.ltO hap19
  have hd10_19 := Dj.app hd10_18 ho10.ltO hap19
  have hd11_19 := Dj.app hd11_18 ho11.ltO hap19
  have hd12_19 := Dj.app hd12_18 ho12.ltO hap19
  have hd13_19 := Dj.app hd13_18 ho13.ltO hap19
  have hd14_19 := Dj.app hd14_18 ho14.ltO hap19
  have hd15_19 := Dj.app hd15_18 ho15.ltO hap19
  have hd16_19 := Dj.app hd16_18 ho16.ltO hap19
  have hd17_19 := DI.app hd17_18 hn17 hap19
  have hB := hB.updL hXw27 hl18
  have ho1 := ho1.updD hXw27 hd1_18
  have hn2 := hn2.updD hXw27 hd2_18
  have hb5 := hb5.updD hXw27 hd5_18
  have ho8 := ho8.updD hXw27 hd8_18
  have ho10 := ho10.updD hXw27 hd10_18
  have ho11 := ho11.updD hXw27 hd11_18
  have ho12 := ho12.updD hXw27 hd12_18
  have ho13 := ho13.updD hXw27 hd13_18
  have ho14 := ho14.updD hXw27 hd14_18
  have ho15 := ho15.updD hXw27 hd15_18
  have ho16 := ho16.updD hXw27 hd16_18
  have hn17 := hn17.updD hXw27 hd17_18
  obtain ⟨hqp1_0, hqp1_1, hqp1_2, hqp1_3⟩ := hqFp1 _ hn2
  obtain ⟨hqp2_0, hqp2_1, hqp2_2, hqp2_3⟩ := hqFp2 _ hn2
  refine WL.pure rfl rfl rfl (PV.assign rfl) ?_
  refine WL.nilS ?_
  refine CW.seq ?_
  refine CW.reg ?_
  refine WL.pure rfl rfl rfl (PV.move rfl) ?_
  refine WL.pure rfl rfl rfl ((by first | exact PV.fieldAddr T.fl58_2 rfl (by first | assumption | exact Bx.cells (by assumption)) | exact PV.fieldAddrP T.fl58_2 rfl rfl)) ?_
  refine WL.pure rfl rfl rfl ((by first | exact PV.load0 T.na26 rfl (by first | exact Cells.up (by assumption) hB | exact Bx.cells (by assumption) | assumption) (Ext.refl _) rfl | exact PV.load1 T.na26 rfl (by first | exact Cells.up (by assumption) hB | exact Bx.cells (by assumption) | assumption) (Ext.refl _) rfl)) ?_
  refine WL.op rfl (OpK.appendS (f := VI) rfl T.sl26 T.zv2 rfl rfl ho19 rfl (Rd.src (by first | assumption | exact Rd.up (by assumption) hB | exact Inn.rd (by assumption) (by omega)) (fun _ => rfl)) (by first | (simp only [List.length_cons, List.length_nil]; omega) | (simp only [List.length_append, List.length_take, List.length_nil, List.length_drop]; omega)) (fun v20 og20 w28 hXw28 ho20 hap20 => ?_))
  have hl20 := Lo.app hl19 hB hap20
  have hd1_20 := Dj.app hd1_19 ho1.ltO hap20
  have hd2_20 := DI.app hd2_19 hn2 hap20
  have hd5_20 := Dj.app hd5_19 hb5.ltO hap20
  have hd8_20 := Dj.app hd8_19 ho8.ltO hap20
  have hd10_20 := Dj.app hd10_19 ho10.ltO hap20
  have hd11_20 := Dj.app hd11_19 ho11.ltO hap20
  have hd12_20 := Dj.app hd12_19 ho12.ltO hap20
  have hd13_20 := Dj.app hd13_19 ho13.ltO hap20
  have hd14_20 := Dj.app hd14_19 ho14.ltO hap20
  have hd15_20 := Dj.app hd15_19 ho15.ltO hap20
  have hd16_20 := Dj.app hd16_19 ho16.ltO hap20
  have hd17_20 := DI.app hd17_19 hn17 hap20
  have hB := hB.updL hXw28 hl19
  have ho1 := ho1.updD hXw28 hd1_19
  have hn2 := hn2.updD hXw28 hd2_19
  have hb5 := hb5.updD hXw28 hd5_19
  have ho8 := ho8.updD hXw28 hd8_19
  have ho10 := ho10.updD hXw28 hd10_19
  have ho11 := ho11.updD hXw28 hd11_19
  have ho12 := ho12.updD hXw28 hd12_19
  have ho13 := ho13.updD hXw28 hd13_19
  have ho14 := ho14.updD hXw28 hd14_19
  have ho15 := ho15.updD hXw28 hd15_19
  have ho16 := ho16.updD hXw28 hd16_19
  have hn17 := hn17.updD hXw28 hd17_19
  obtain ⟨hqp1_0, hqp1_1, hqp1_2, hqp1_3⟩ := hqFp1 _ hn2
  obtain ⟨hqp2_0, hqp2_1, hqp2_2, hqp2_3⟩ := hqFp2 _ hn2
  refine WL.pure rfl rfl rfl (PV.assign rfl) ?_
  refine WL.nilS ?_
  refine CW.seq ?_
  refine CW.draw T.mixed (by kernel_rfl) (fun _ _ _ _ _ h => h) (fun w8 w9 => Upd og20 w8 w9) 12 (.take 0 (.take 1 (.take 2 (.take 3 (.take 4 (.take 5 (.take 6 (.take 7 (.take 8 (.take 9 (.must 10 (.take 11 .done)))))))))))) (by kernel_rfl) (fun w29 hXd => ?_)
  have hB := hB.trans hXd
  have ho1 := ho1.up hXd
  have hn2 := hn2.up hXd
  have hb5 := hb5.up hXd
  have ho8 := ho8.up hXd
  have ho10 := ho10.up hXd
  have ho11 := ho11.up hXd
  have ho12 := ho12.up hXd
  have ho13 := ho13.up hXd
  have ho14 := ho14.up hXd
  have ho15 := ho15.up hXd
  have ho16 := ho16.up hXd
  have hn17 := hn17.up hXd
  have ho20 := ho20.up hXd
  have hBr := hB
  have hS : Upd og20 w29 w29 := Ext.toUpd (Ext.refl _)
  obtain ⟨hqp1_0, hqp1_1, hqp1_2, hqp1_3⟩ := hqFp1 _ hn2
  obtain ⟨hqp2_0, hqp2_1, hqp2_2, hqp2_3⟩ := hqFp2 _ hn2
  refine HP.take rfl rfl rfl rfl hS (fun wS hS1 => PV.move rfl) ?_
  refine HP.take rfl rfl rfl rfl hS (fun wS hS1 => PV.move rfl) ?_
  refine HP.take rfl rfl rfl rfl hS (fun wS hS1 => PV.move rfl) ?_
  first
    | refine HP.atO (wb := w29) (x := .tmp 240) (y := .const (.int .i64 0)) (f := VI) (0) rfl rfl (by assumption) (by first | omega | (simp only [List.length_set]; omega) | (simp only [List.length_append, List.length_take, List.length_replicate, List.length_drop]; omega)) (fun p9 hpp9 hcp9 => ?_)
    | refine HP.atOZ (wb := w29) (x := .tmp 240) (y := .const (.int .i64 0)) (f := VI) (0) rfl rfl (by assumption) (by first | omega | (simp only [List.length_set]; omega) | (simp only [List.length_append, List.length_take, List.length_replicate, List.length_drop]; omega)) (fun p9 hpp9 hzp9 hcp9 => ?_)
  refine HP.take rfl rfl rfl rfl hS (fun wS hS1 => (by first | exact PV.indexAddr hpp9 rfl rfl T.sl26 | exact PV.indexAddr hpp9 rfl (by rw [← hzp9]; rfl) T.sl26)) ?_
  refine HP.take rfl rfl rfl rfl hS (fun wS hS1 => (by first | exact PV.load0 T.na2 rfl (by first | exact Cells.updO hpp9 ho10 hcp9 hS1 (by first | assumption | exact Dj.symm (by assumption)) | exact Cells.up (by assumption) (hBr.updL hS1 hl20) | exact Bx.cells (Bx.updD (by assumption) hS1 (by first | assumption | exact Dj.symm (by assumption))) | exact Cells.upd (by assumption) hS1 (by simp)) (Ext.refl _) rfl | exact PV.load1 T.na2 rfl (by first | exact Cells.updO hpp9 ho10 hcp9 hS1 (by first | assumption | exact Dj.symm (by assumption)) | exact Cells.up (by assumption) (hBr.updL hS1 hl20) | exact Bx.cells (Bx.updD (by assumption) hS1 (by first | assumption | exact Dj.symm (by assumption))) | exact Cells.upd (by assumption) hS1 (by simp)) (Ext.refl _) rfl)) ?_
  refine HP.take rfl rfl rfl rfl hS (fun wS hS1 => (by first | exact PV.fieldAddr T.fl58_1 rfl (by first | assumption | exact Bx.cells (by assumption)) | exact PV.fieldAddrP T.fl58_1 rfl rfl)) ?_
  refine HP.take rfl rfl rfl rfl hS (fun wS hS1 => (by first | exact PV.load0 T.na26 rfl (by first | exact Cells.up (by assumption) (hBr.updL hS1 hl20) | exact Bx.cells (Bx.updD (by assumption) hS1 (by first | assumption | exact Dj.symm (by assumption))) | exact Cells.upd (by assumption) hS1 (by simp)) (Ext.refl _) rfl | exact PV.load1 T.na26 rfl (by first | exact Cells.up (by assumption) (hBr.updL hS1 hl20) | exact Bx.cells (Bx.updD (by assumption) hS1 (by first | assumption | exact Dj.symm (by assumption))) | exact Cells.upd (by assumption) hS1 (by simp)) (Ext.refl _) rfl)) ?_
  refine HP.take rfl rfl rfl rfl hS (fun wS hS1 => (by first | exact PV.len rfl (by assumption) T.sl26 | exact PV.lenOs rfl (by assumption) T.sl26 | exact PV.len rfl (NL.rd (by assumption)) T.sl26 | exact PV.len rfl (Inn.rd (by assumption) (by omega)) T.sl26)) ?_
  refine HP.take rfl rfl rfl rfl hS (fun wS hS1 => PV.add rfl rfl (by exact ⟨Int.le_trans (by decide) (Int.add_nonneg hfr0.1 (Int.natCast_nonneg _)), Int.le_trans hfr0.2 (by omega)⟩)) ?_
  refine HP.slRL (x := .tmp 239) (lo := .tmp 246) (E := EI) T.sl26 rfl rfl  (by first | assumption | exact Osl.rd (by assumption)) (by exact ⟨Int.add_nonneg hfr0.1 (Int.natCast_nonneg _), hfr0.2⟩) (fun u2 huu2 hru2 => ?_)
  refine HP.take rfl rfl rfl rfl hS (fun wS hS1 => (huu2 _ _ _ _ _ _)) ?_
  refine HP.must rfl rfl (OpK.appendS (f := VI) rfl T.sl26 T.zv2 rfl rfl ho20 rfl (Rd.src (by first | assumption | exact Rd.up (by assumption) hB | exact Inn.rd (by assumption) (by omega)) (fun _ => rfl)) (by first | (simp only [List.length_cons, List.length_nil]; omega) | (simp only [List.length_append, List.length_take, List.length_nil, List.length_drop]; omega)) (fun v21 og21 w30 hXw30 ho21 hap21 => ?_))
  have hl21 := Lo.app hl20 hB hap21
  have hd1_21 := Dj.app hd1_20 ho1.ltO hap21
  have hd2_21 := DI.app hd2_20 hn2 hap21
  have hd5_21 := Dj.app hd5_20 hb5.ltO hap21
  have hd8_21 := Dj.app hd8_20 ho8.ltO hap21
  have hd10_21 := Dj.app hd10_20 ho10.ltO hap21
  have hd11_21 := Dj.app hd11_20 ho11.ltO hap21
  have hd12_21 := Dj.app hd12_20 ho12.ltO hap21
  have hd13_21 := Dj.app hd13_20 ho13.ltO hap21
  have hd14_21 := Dj.app hd14_20 ho14.ltO hap21
  have hd15_21 := Dj.app hd15_20 ho15.ltO hap21
  have hd16_21 := Dj.app hd16_20 ho16.ltO hap21
  have hd17_21 := DI.app hd17_20 hn17 hap21
  refine ⟨Upd.trans hS hXw30, ?_⟩
  have hS := Upd.trans hS hXw30
  have hB := hB.updL hXw30 hl20
  have ho1 := ho1.updD hXw30 hd1_20
  have hn2 := hn2.updD hXw30 hd2_20
  have hb5 := hb5.updD hXw30 hd5_20
  have ho8 := ho8.updD hXw30 hd8_20
  have ho10 := ho10.updD hXw30 hd10_20
  have ho11 := ho11.updD hXw30 hd11_20
  have ho12 := ho12.updD hXw30 hd12_20
  have ho13 := ho13.updD hXw30 hd13_20
  have ho14 := ho14.updD hXw30 hd14_20
  have ho15 := ho15.updD hXw30 hd15_20
  have ho16 := ho16.updD hXw30 hd16_20
  have hn17 := hn17.updD hXw30 hd17_20
  obtain ⟨hqp1_0, hqp1_1, hqp1_2, hqp1_3⟩ := hqFp1 _ hn2
  obtain ⟨hqp2_0, hqp2_1, hqp2_2, hqp2_3⟩ := hqFp2 _ hn2
  refine HP.take rfl rfl rfl rfl hS (fun wS hS1 => PV.assign rfl) ?_
  refine HP.doneS ?_
  refine CW.seq ?_
  refine CW.reg ?_
  refine WL.pure rfl rfl rfl ((by first | exact PV.loadA T.ag58 rfl (by first | exact Cells.up (by assumption) hB | exact Bx.cells (by assumption) | assumption) (Ext.refl _) rfl | exact PV.loadP (ds := [_, _, _, _]) T.ag58 rfl (by first | exact Cells.up (by assumption) hB | exact Bx.cells (by assumption) | assumption) (Ext.refl _) rfl rfl)) ?_
  refine WL.pure rfl rfl rfl (PV.move rfl) ?_
  refine WL.pure rfl rfl rfl (PV.move rfl) ?_
  refine WL.op rfl (OpK.call rfl T.cf38 rfl (c_impl_ChangeEnd (by first | assumption | exact Rd.up (by assumption) hB | exact Osl.rd (by assumption) | exact Osn.rdR (by assumption) | exact NL.rd (by assumption) | exact rdII (by assumption) (by assumption) | exact Inn.rd (by assumption) (by omega)) (by first | assumption | exact Rd.up (by assumption) hB | exact Osl.rd (by assumption) | exact Osn.rdR (by assumption) | exact NL.rd (by assumption) | exact rdII (by assumption) (by assumption) | exact Inn.rd (by assumption) (by omega)) (by first | assumption | exact Rd.up (by assumption) hB | exact Osl.rd (by assumption) | exact Osn.rdR (by assumption) | exact NL.rd (by assumption) | exact rdII (by assumption) (by assumption) | exact Inn.rd (by assumption) (by omega)) (by first | assumption | exact Rd.up (by assumption) hB | exact Osl.rd (by assumption) | exact Osn.rdR (by assumption) | exact NL.rd (by assumption) | exact rdII (by assumption) (by assumption) | exact Inn.rd (by assumption) (by omega)) (by first | assumption | exact Rd.up (by assumption) hB | exact Osl.rd (by assumption) | exact Osn.rdR (by assumption) | exact NL.rd (by assumption) | exact rdII (by assumption) (by assumption) | exact Inn.rd (by assumption) (by omega))) (fun rv9 w31 hR => ?_))
  obtain ⟨hXw31, v22, og22, rfl, ho22, hq22⟩ := hR
  have hl22 := Lo.up hq22 hB
  have hd1_22 := Dj.lo ho1.ltO hq22
  have hd2_22 := DI.fresh hn2 hq22
  have hd5_22 := Dj.lo hb5.ltO hq22
  have hd8_22 := Dj.lo ho8.ltO hq22
  have hd10_22 := Dj.lo ho10.ltO hq22
  have hd11_22 := Dj.lo ho11.ltO hq22
  have hd12_22 := Dj.lo ho12.ltO hq22
  have hd13_22 := Dj.lo ho13.ltO hq22
  have hd14_22 := Dj.lo ho14.ltO hq22
  have hd15_22 := Dj.lo ho15.ltO hq22
  have hd16_22 := Dj.lo ho16.ltO hq22
  have hd17_22 := DI.fresh hn17 hq22
  have hd21_22 := Dj.lo ho21.ltO hq22
  have hB := hB.trans hXw31
  have ho1 := ho1.up hXw31
  have hn2 := hn2.up hXw31
  have hb5 := hb5.up hXw31
  have ho8 := ho8.up hXw31
  have ho10 := ho10.up hXw31
  have ho11 := ho11.up hXw31
  have ho12 := ho12.up hXw31
  have ho13 := ho13.up hXw31
  have ho14 := ho14.up hXw31
  have ho15 := ho15.up hXw31
  have ho16 := ho16.up hXw31
  have hn17 := hn17.up hXw31
  have ho21 := ho21.up hXw31
  obtain ⟨hqp1_0, hqp1_1, hqp1_2, hqp1_3⟩ := hqFp1 _ hn2
  obtain ⟨hqp2_0, hqp2_1, hqp2_2, hqp2_3⟩ := hqFp2 _ hn2
  refine WL.pure rfl rfl rfl (PV.move rfl) ?_
  refine WL.pure rfl rfl rfl (PV.extract rfl rfl) ?_
  refine WL.pure rfl rfl rfl (PV.extract rfl rfl) ?_
  refine WL.pure rfl rfl rfl (PV.extract rfl rfl) ?_
  refine WL.pure rfl rfl rfl (PV.assign rfl) ?_
  refine WL.pure rfl rfl rfl (PV.assign rfl) ?_
  refine WL.pure rfl rfl rfl (PV.assign rfl) ?_
  refine WL.nilS ?_
  refine CW.seq ?_
  refine CW.reg ?_
  refine WL.pure rfl rfl rfl ((by first | exact PV.loadA T.ag58 rfl (by first | exact Cells.up (by assumption) hB | exact Bx.cells (by assumption) | assumption) (Ext.refl _) rfl | exact PV.loadP (ds := [_, _, _, _]) T.ag58 rfl (by first | exact Cells.up (by assumption) hB | exact Bx.cells (by assumption) | assumption) (Ext.refl _) rfl rfl)) ?_
  refine WL.pure rfl rfl rfl (PV.move rfl) ?_
  refine WL.pure rfl rfl rfl (PV.move rfl) ?_
  refine WL.op rfl (OpK.call rfl T.cf36 rfl (c_spec_ChangeEnd (by first | assumption | exact Rd.up (by assumption) hB | exact Osl.rd (by assumption) | exact Osn.rdR (by assumption) | exact NL.rd (by assumption) | exact rdII (by assumption) (by assumption) | exact Inn.rd (by assumption) (by omega)) (by first | assumption | exact Rd.up (by assumption) hB | exact Osl.rd (by assumption) | exact Osn.rdR (by assumption) | exact NL.rd (by assumption) | exact rdII (by assumption) (by assumption) | exact Inn.rd (by assumption) (by omega)) (by first | assumption | exact Rd.up (by assumption) hB | exact Osl.rd (by assumption) | exact Osn.rdR (by assumption) | exact NL.rd (by assumption) | exact rdII (by assumption) (by assumption) | exact Inn.rd (by assumption) (by omega)) (by first | assumption | exact Rd.up (by assumption) hB | exact Osl.rd (by assumption) | exact Osn.rdR (by assumption) | exact NL.rd (by assumption) | exact rdII (by assumption) (by assumption) | exact Inn.rd (by assumption) (by omega)) (by first | assumption | exact Rd.up (by assumption) hB | exact Osl.rd (by assumption) | exact Osn.rdR (by assumption) | exact NL.rd (by assumption) | exact rdII (by assumption) (by assumption) | exact Inn.rd (by assumption) (by omega))) (fun rv10 w32 hR => ?_))
  obtain ⟨hXw32, v23, og23, rfl, ho23, hq23⟩ := hR
  have hl23 := Lo.up hq23 hB
  have hd1_23 := Dj.lo ho1.ltO hq23
  have hd2_23 := DI.fresh hn2 hq23
  have hd5_23 := Dj.lo hb5.ltO hq23
  have hd8_23 := Dj.lo ho8.ltO hq23
  have hd10_23 := Dj.lo ho10.ltO hq23
  have hd11_23 := Dj.lo ho11.ltO hq23
  have hd12_23 := Dj.lo ho12.ltO hq23
  have hd13_23 := Dj.lo ho13.ltO hq23
  have hd14_23 := Dj.lo ho14.ltO hq23
  have hd15_23 := Dj.lo ho15.ltO hq23
  have hd16_23 := Dj.lo ho16.ltO hq23
  have hd17_23 := DI.fresh hn17 hq23
  have hd21_23 := Dj.lo ho21.ltO hq23
  have hd22_23 := Dj.lo ho22.ltO hq23
  have hB := hB.trans hXw32
  have ho1 := ho1.up hXw32
  have hn2 := hn2.up hXw32
  have hb5 := hb5.up hXw32
  have ho8 := ho8.up hXw32
  have ho10 := ho10.up hXw32
  have ho11 := ho11.up hXw32
  have ho12 := ho12.up hXw32
  have ho13 := ho13.up hXw32
  have ho14 := ho14.up hXw32
  have ho15 := ho15.up hXw32
  have ho16 := ho16.up hXw32
  have hn17 := hn17.up hXw32
  have ho21 := ho21.up hXw32
  have ho22 := ho22.up hXw32
  obtain ⟨hqp1_0, hqp1_1, hqp1_2, hqp1_3⟩ := hqFp1 _ hn2
  obtain ⟨hqp2_0, hqp2_1, hqp2_2, hqp2_3⟩ := hqFp2 _ hn2
  refine WL.pure rfl rfl rfl (PV.move rfl) ?_
  refine WL.pure rfl rfl rfl (PV.extract rfl rfl) ?_
  refine WL.pure rfl rfl rfl (PV.extract rfl rfl) ?_
  refine WL.pure rfl rfl rfl (PV.extract rfl rfl) ?_
  refine WL.pure rfl rfl rfl (PV.assign rfl) ?_
  refine WL.pure rfl rfl rfl (PV.assign rfl) ?_
  refine WL.pure rfl rfl rfl (PV.assign rfl) ?_
  refine WL.nilS ?_
  refine CW.seq ?_
  refine CW.reg ?_
  refine WL.pure rfl rfl rfl (PV.move rfl) ?_
  refine WL.pure rfl rfl rfl (PV.move rfl) ?_
  refine WL.op rfl (OpK.callR rfl T.cf68 rfl (c_laws_b10Ints_y (by first | assumption | exact Rd.up (by assumption) hB | exact Osl.rd (by assumption) | exact Osn.rdR (by assumption) | exact NL.rd (by assumption) | exact rdII (by assumption) (by assumption) | exact Inn.rd (by assumption) (by omega)) (by first | assumption | exact Rd.up (by assumption) hB | exact Osl.rd (by assumption) | exact Osn.rdR (by assumption) | exact NL.rd (by assumption) | exact rdII (by assumption) (by assumption) | exact Inn.rd (by assumption) (by omega)) (by first | rfl | assumption | exact (fx_want (by assumption)).symm)) (fun w33 hXw33 => ?_))
  have hB := hB.trans hXw33
  have ho1 := ho1.up hXw33
  have hn2 := hn2.up hXw33
  have hb5 := hb5.up hXw33
  have ho8 := ho8.up hXw33
  have ho10 := ho10.up hXw33
  have ho11 := ho11.up hXw33
  have ho12 := ho12.up hXw33
  have ho13 := ho13.up hXw33
  have ho14 := ho14.up hXw33
  have ho15 := ho15.up hXw33
  have ho16 := ho16.up hXw33
  have hn17 := hn17.up hXw33
  have ho21 := ho21.up hXw33
  have ho22 := ho22.up hXw33
  have ho23 := ho23.up hXw33
  obtain ⟨hqp1_0, hqp1_1, hqp1_2, hqp1_3⟩ := hqFp1 _ hn2
  obtain ⟨hqp2_0, hqp2_1, hqp2_2, hqp2_3⟩ := hqFp2 _ hn2
  refine WL.pure rfl rfl rfl (PV.move rfl) ?_
  refine WL.pureG rfl rfl rfl rfl rfl (PV.move rfl) ?_
  refine WL.pureG rfl rfl rfl rfl rfl (PV.move rfl) ?_
  refine WL.pureG rfl rfl rfl rfl rfl (PV.eqlB T.bl4 rfl rfl) ?_
  refine WL.pure rfl rfl rfl (PV.pickT rfl rfl) ?_
  refine WL.pure rfl rfl rfl (PV.move rfl) ?_
  refine WL.split (t := 273) rfl (fun hc20 => ?_) (fun hc20 => ?_)
  rotate_left
  · skip
    try simp only [decide_eq_true_eq, decide_eq_false_iff_not, Bool.not_eq_true', Bool.not_eq_false', Bool.not_eq_eq_eq_not, Bool.not_true, Bool.not_false, Int.not_lt, Int.not_le, Classical.not_not, beq_iff_eq, beq_eq_false_iff_ne] at hc20
    exfalso; revert hc20; simp
  try simp only [decide_eq_true_eq, decide_eq_false_iff_not, Bool.not_eq_true', Bool.not_eq_false', Bool.not_eq_eq_eq_not, Bool.not_true, Bool.not_false, Int.not_lt, Int.not_le, Classical.not_not, beq_iff_eq, beq_eq_false_iff_ne] at hc20
  refine WL.pureG rfl rfl rfl rfl rfl (PV.move rfl) ?_
  refine WL.pureG rfl rfl rfl rfl rfl (PV.not rfl) ?_
  refine WL.pureG rfl rfl rfl rfl rfl (PV.move rfl) ?_
  refine WL.split (t := 276) rfl (fun hc21 => ?_) (fun hc21 => ?_)
  · skip
    try simp only [decide_eq_true_eq, decide_eq_false_iff_not, Bool.not_eq_true', Bool.not_eq_false', Bool.not_eq_eq_eq_not, Bool.not_true, Bool.not_false, Int.not_lt, Int.not_le, Classical.not_not, beq_iff_eq, beq_eq_false_iff_ne] at hc21
    refine WL.skip rfl rfl rfl rfl rfl ?_
    refine WL.skip rfl rfl rfl rfl rfl ?_
    refine WL.skip rfl rfl rfl rfl rfl ?_
    refine WL.skip rfl rfl rfl rfl rfl ?_
    refine WL.skipU rfl rfl rfl rfl rfl ?_
    refine WL.skipU rfl rfl rfl rfl rfl ?_
    refine WL.skipU rfl rfl rfl rfl rfl ?_
    refine WL.skip rfl rfl rfl rfl rfl ?_
    refine WL.skip rfl rfl rfl rfl rfl ?_
    refine WL.skipU rfl rfl rfl rfl rfl ?_
    refine WL.skipU rfl rfl rfl rfl rfl ?_
    refine WL.skip rfl rfl rfl rfl rfl ?_
    refine WL.pureG rfl rfl rfl rfl rfl (PV.pickT rfl rfl) ?_
    refine WL.pure rfl rfl rfl (PV.pickT rfl rfl) ?_
    refine WL.pure rfl rfl rfl (PV.assign rfl) ?_
    refine WL.nilS ?_
    refine CW.ret ?_
    refine RQ.r1 rfl ?_
    refine ⟨?_, hB⟩
    first | rfl | exact (bT (fx_pos hff.1 (by assumption))).symm
  try simp only [decide_eq_true_eq, decide_eq_false_iff_not, Bool.not_eq_true', Bool.not_eq_false', Bool.not_eq_eq_eq_not, Bool.not_true, Bool.not_false, Int.not_lt, Int.not_le, Classical.not_not, beq_iff_eq, beq_eq_false_iff_ne] at hc21
  refine WL.pureG rfl rfl rfl rfl rfl (PV.move rfl) ?_
  refine WL.pureG rfl rfl rfl rfl rfl (PV.move rfl) ?_
  refine WL.opG rfl rfl rfl (OpK.callR rfl T.cf68 rfl (c_laws_b10Ints_y (by first | assumption | exact Rd.up (by assumption) hB | exact Osl.rd (by assumption) | exact Osn.rdR (by assumption) | exact NL.rd (by assumption) | exact rdII (by assumption) (by assumption) | exact Inn.rd (by assumption) (by omega)) (by first | assumption | exact Rd.up (by assumption) hB | exact Osl.rd (by assumption) | exact Osn.rdR (by assumption) | exact NL.rd (by assumption) | exact rdII (by assumption) (by assumption) | exact Inn.rd (by assumption) (by omega)) (by first | rfl | assumption | exact (fx_want (by assumption)).symm)) (fun w34 hXw34 => ?_))
  have hB := hB.trans hXw34
  have ho1 := ho1.up hXw34
  have hn2 := hn2.up hXw34
  have hb5 := hb5.up hXw34
  have ho8 := ho8.up hXw34
  have ho10 := ho10.up hXw34
  have ho11 := ho11.up hXw34
  have ho12 := ho12.up hXw34
  have ho13 := ho13.up hXw34
  have ho14 := ho14.up hXw34
  have ho15 := ho15.up hXw34
  have ho16 := ho16.up hXw34
  have hn17 := hn17.up hXw34
  have ho21 := ho21.up hXw34
  have ho22 := ho22.up hXw34
  have ho23 := ho23.up hXw34
  obtain ⟨hqp1_0, hqp1_1, hqp1_2, hqp1_3⟩ := hqFp1 _ hn2
  obtain ⟨hqp2_0, hqp2_1, hqp2_2, hqp2_3⟩ := hqFp2 _ hn2
  refine WL.pureG rfl rfl rfl rfl rfl (PV.move rfl) ?_
  refine WL.pureG rfl rfl rfl rfl rfl (PV.move rfl) ?_
  refine WL.pureG rfl rfl rfl rfl rfl (PV.move rfl) ?_
  refine WL.pureG rfl rfl rfl rfl rfl (PV.eql rfl rfl) ?_
  refine WL.pureG rfl rfl rfl rfl rfl (PV.pickT rfl rfl) ?_
  refine WL.pureG rfl rfl rfl rfl rfl (PV.move rfl) ?_
  refine WL.split (t := 285) rfl (fun hc22 => ?_) (fun hc22 => ?_)
  rotate_left
  · skip
    try simp only [decide_eq_true_eq, decide_eq_false_iff_not, Bool.not_eq_true', Bool.not_eq_false', Bool.not_eq_eq_eq_not, Bool.not_true, Bool.not_false, Int.not_lt, Int.not_le, Classical.not_not, beq_iff_eq, beq_eq_false_iff_ne] at hc22
    exfalso; revert hc22; simp
  try simp only [decide_eq_true_eq, decide_eq_false_iff_not, Bool.not_eq_true', Bool.not_eq_false', Bool.not_eq_eq_eq_not, Bool.not_true, Bool.not_false, Int.not_lt, Int.not_le, Classical.not_not, beq_iff_eq, beq_eq_false_iff_ne] at hc22
  refine WL.pureG rfl rfl rfl rfl rfl (PV.move rfl) ?_
  refine WL.pureG rfl rfl rfl rfl rfl (PV.gtr rfl rfl) ?_
  refine WL.pureG rfl rfl rfl rfl rfl (PV.pickT rfl rfl) ?_
  refine WL.pureG rfl rfl rfl rfl rfl (PV.pickF rfl rfl) ?_
  refine WL.pure rfl rfl rfl (PV.pickT rfl rfl) ?_
  refine WL.pure rfl rfl rfl (PV.assign rfl) ?_
  refine WL.nilS ?_
  refine CW.ret ?_
  refine RQ.r1 rfl ?_
  refine ⟨?_, hB⟩
  first | rfl | exact (bT (fx_pos hff.1 (by assumption))).symm

end Go.Proofs.Ythjeebjgdeldkaa
