/- Walks of the functions that the law FnLettered reaches: each says what its function computes. No condition. -/
import Derived.Test.YthemmoceomdccaaProg
import Derived.Test.YthemmoceomdccaaLibM
import Derived.Test.YthemmoceomdccaaPlA
import Derived.Test.YthemmoceomdccaaLibT
import Derived.Test.YthemmoceomdccaaLibV
import Derived.Test.YthemmoceomdccaaPlK
import Derived.Test.YthemmoceomdccaaPlQ
import Derived.Test.YthemmoceomdccaaPlL
import Derived.Test.YthemmoceomdccaaPlO
import Derived.Test.YthemmoceomdccaaPlG
import Derived.Test.YthemmoceomdccaaLibW
import Derived.Test.YthemmoceomdccaaPlSo
import Derived.Test.YthemmoceomdccaaPlFc
import Derived.Test.YthemmoceomdccaaPlDr
import Derived.Test.YthemmoceomdccaaPlFs
import Derived.Test.YthemmoceomdccaaPlFl
import Derived.Test.YthemmoceomdccaaWFnLetteredc
namespace Go.Proofs.Ythemmoceomdccaa
open Go Go.WX Go.Proofs
set_option linter.unusedSimpArgs false
set_option linter.unusedVariables false

theorem c_impl_Transliterate_y {w : World} {va : Value} {cs : List C4} {vw : Value} {xs : List Int} {L : Int} (ha : Rd ECh w va cs) (hw : Rd EI w vw xs) (hV : trnB cs xs L = true) : Calls Try.prog 77 #[va, vw, .int .i64 L] w (Ret1 (fun v w' => Ext w w' ∧ ∃ u og_u, v = .tuple #[u, .bool true] ∧ Osl VI w' og_u u (traL cs xs) ∧ Lo w og_u)) := by
  have h := c_impl_Transliterate ha hw (L := L)
  rw [hV] at h; exact h
theorem c_spec_Transliterate_y {w : World} {va : Value} {cs : List C4} {vw : Value} {xs : List Int} {L : Int} (ha : Rd ECh w va cs) (hw : Rd EI w vw xs) (hV : trnB cs xs L = true) : Calls Try.prog 78 #[va, vw, .int .i64 L] w (Ret1 (fun v w' => Ext w w' ∧ ∃ u og_u, v = .tuple #[u, .bool true] ∧ Osl VI w' og_u u (traL cs xs) ∧ Lo w og_u)) := by
  have h := c_spec_Transliterate ha hw (L := L)
  rw [hV] at h; exact h
theorem c_impl_BackLiterate_y {w : World} {va : Value} {cs : List C4} {vw : Value} {xs : List Int} {L : Int} (ha : Rd ECh w va cs) (hw : Rd EI w vw xs) (hV : bckB cs xs L = true) : Calls Try.prog 79 #[va, vw, .int .i64 L] w (Ret1 (fun v w' => Ext w w' ∧ ∃ u og_u vs_u os_u, v = .tuple #[u, .bool true] ∧ Osl VV w' og_u u vs_u ∧ Lo w og_u ∧ Inn w' os_u vs_u (srcL (traF cs) xs L 5) ∧ LoI w os_u ∧ DI os_u og_u)) := by
  have h := c_impl_BackLiterate ha hw (L := L)
  rw [hV] at h; exact h
theorem c_spec_BackLiterate_y {w : World} {va : Value} {cs : List C4} {vw : Value} {xs : List Int} {L : Int} (ha : Rd ECh w va cs) (hw : Rd EI w vw xs) (hV : bckB cs xs L = true) : Calls Try.prog 80 #[va, vw, .int .i64 L] w (Ret1 (fun v w' => Ext w w' ∧ ∃ u og_u vs_u os_u, v = .tuple #[u, .bool true] ∧ Osl VV w' og_u u vs_u ∧ Lo w og_u ∧ Inn w' os_u vs_u (srcL (traF cs) xs L 5) ∧ LoI w os_u ∧ DI os_u og_u)) := by
  have h := c_spec_BackLiterate ha hw (L := L)
  rw [hV] at h; exact h
theorem c_laws_b10Ints_y {w : World} {va vb : Value} {xs ys : List Int} (ha : Rd EI w va xs) (hb : Rd EI w vb ys) (hV : xs = ys) : Calls Try.prog 75 #[va, vb] w (Ret1 (RQt (.bool true) w)) := by
  have h := c_laws_b10Ints ha hb
  rw [decide_eq_true hV] at h; exact h
set_option maxHeartbeats 8000000 in
theorem c_laws_FnLettered {w : World} {va vb : Value} {xs ys : List Int} (ha : Rd EU8 w va xs) (hb : Rd EU8 w vb ys) (hg : ∀ x ∈ xs, 0 ≤ x ∧ x ≤ 255) (hgb : ∀ x ∈ ys, 0 ≤ x ∧ x ≤ 255) : Calls Try.prog 7 #[va, vb] w (Ret1 (RQt (.bool true) w)) := by
  have hB : Ext w w := Ext.refl w
  have hla := ha.leI; have hlb := hb.leI; have hr0 := atN_rng (i := (0 : Int).toNat) (n := 3) hgb (by decide); have hr1 := atN_rng (i := (1 : Int).toNat) (n := 5) hgb (by decide); have hr2 := atN_rng (i := (2 : Int).toNat) (n := 4) hgb (by decide); have hr3 := atN_rng (i := (3 : Int).toNat) (n := 4) hgb (by decide); have hr4 := atN_rng (i := (4 : Int).toNat) (n := 8) hgb (by decide); have hr5 := atN_rng (i := (5 : Int).toNat) (n := 4) hgb (by decide); have hr6 := atN_rng (i := (6 : Int).toNat) (n := 4) hgb (by decide); have hL12 : (1 : Int) ≤ 2 ∧ (2 : Int) ≤ 4 := (by decide); have hL14 : (1 : Int) ≤ 4 ∧ (4 : Int) ≤ 4 := (by decide)
  refine callsOf (vs := [_, _]) Try.func7 rfl Try.ntmps7 rfl rfl ?_
  refine CW.seq ?_
  refine CW.reg ?_
  refine WL.pure rfl rfl rfl (PV.assign rfl) ?_
  refine WL.nilS ?_
  refine CW.seq ?_
  refine CW.seq ?_
  refine CW.reg ?_
  refine WL.pure rfl rfl rfl (PV.move rfl) ?_
  refine WL.pure rfl rfl rfl (PV.move rfl) ?_
  refine WL.op rfl (OpK.callR rfl T.cf60 rfl (c_laws_b10Long (by first | assumption | exact Rd.up (by assumption) hB | exact Osl.rd (by assumption) | exact Osn.rdR (by assumption) | exact NL.rd (by assumption) | exact rdII (by assumption) (by assumption) | exact Inn.rd (by assumption) (by omega)) (by first | assumption | exact Rd.up (by assumption) hB | exact Osl.rd (by assumption) | exact Osn.rdR (by assumption) | exact NL.rd (by assumption) | exact rdII (by assumption) (by assumption) | exact Inn.rd (by assumption) (by omega))) (fun w1 hXw1 => ?_))
  have hB := hB.trans hXw1
  refine WL.nilS ?_
  refine CW.cond rfl (fun hc1 => ?_) (fun hc1 => ?_)
  · skip
    try simp only [decide_eq_true_eq, decide_eq_false_iff_not, Bool.not_eq_true', Bool.not_eq_false', Bool.not_eq_eq_eq_not, Bool.not_true, Bool.not_false, Int.not_lt, Int.not_le, Classical.not_not, beq_iff_eq, beq_eq_false_iff_ne] at hc1
    refine CW.seq ?_
    refine CW.reg ?_
    refine WL.pure rfl rfl rfl (PV.assign rfl) ?_
    refine WL.nilS ?_
    refine CW.ret ?_
    refine RQ.then ?_
    refine RQ.r1 rfl ?_
    refine ⟨?_, hB⟩
    first | rfl | exact bT (by omega) | exact bF (by omega) | exact bD (by omega) | exact iE (by omega) | (simp_all; done) | (simp_all; omega) | (simp_all; intros; omega)
  try simp only [decide_eq_true_eq, decide_eq_false_iff_not, Bool.not_eq_true', Bool.not_eq_false', Bool.not_eq_eq_eq_not, Bool.not_true, Bool.not_false, Int.not_lt, Int.not_le, Classical.not_not, beq_iff_eq, beq_eq_false_iff_ne] at hc1
  refine CW.skipS ?_
  refine CW.seq ?_
  refine CW.reg ?_
  refine WL.pure rfl rfl rfl (PV.move rfl) ?_
  refine WL.pure rfl rfl rfl (PV.move rfl) ?_
  refine WL.op rfl (OpK.callR rfl T.cf63 rfl (c_laws_b10At (by first | assumption | exact Rd.up (by assumption) hB | exact Osl.rd (by assumption) | exact Osn.rdR (by assumption) | exact NL.rd (by assumption) | exact rdII (by assumption) (by assumption) | exact Inn.rd (by assumption) (by omega)) (by first | assumption | omega | (simp only [marks_len, marksB_len, marksR_len, sumL_marksS]; omega)) (by first | assumption | omega | (simp only [marks_len, marksB_len, marksR_len, sumL_marksS]; omega))) (fun w2 hXw2 => ?_))
  have hB := hB.trans hXw2
  refine WL.pure rfl rfl rfl (PV.add rfl rfl (by constructor <;> omega)) ?_
  refine WL.op rfl (OpK.call rfl T.cf76 rfl (c_spec_B10Changes (by first | assumption | exact Rd.up (by assumption) hB | exact Osl.rd (by assumption) | exact Osn.rdR (by assumption) | exact NL.rd (by assumption) | exact rdII (by assumption) (by assumption) | exact Inn.rd (by assumption) (by omega)) (by first | assumption | omega | (simp only [marks_len, marksB_len, marksR_len, sumL_marksS]; omega)) (by first | assumption | omega | (simp only [marks_len, marksB_len, marksR_len, sumL_marksS]; omega)) (by first | assumption | omega | (simp only [marks_len, marksB_len, marksR_len, sumL_marksS]; omega))) (fun rv1 w3 hR => ?_))
  obtain ⟨hXw3, cs3, v1, og1, vs2, os2, rfl, hm4, ho1, hq1, hn2, hq2, hd1_2⟩ := hR
  have hl1 := Lo.up hq1 hB
  have hl2 := LoI.up hq2 hB
  have hlv2 := hn2.lv
  have hB := hB.trans hXw3
  refine WL.pure rfl rfl rfl (PV.assign rfl) ?_
  refine WL.nilS ?_
  refine CW.seq ?_
  refine CW.reg ?_
  refine WL.pure rfl rfl rfl (PV.move rfl) ?_
  refine WL.pure rfl rfl rfl (PV.move rfl) ?_
  refine WL.op rfl (OpK.callR rfl T.cf63 rfl (c_laws_b10At (by first | assumption | exact Rd.up (by assumption) hB | exact Osl.rd (by assumption) | exact Osn.rdR (by assumption) | exact NL.rd (by assumption) | exact rdII (by assumption) (by assumption) | exact Inn.rd (by assumption) (by omega)) (by first | assumption | omega | (simp only [marks_len, marksB_len, marksR_len, sumL_marksS]; omega)) (by first | assumption | omega | (simp only [marks_len, marksB_len, marksR_len, sumL_marksS]; omega))) (fun w4 hXw4 => ?_))
  have hB := hB.trans hXw4
  have ho1 := ho1.up hXw4
  have hn2 := hn2.up hXw4
  refine WL.op rfl (OpK.call rfl T.cf62 rfl (c_spec_B10Word hB (by first | assumption | exact Rd.up (by assumption) hB | exact Osl.rd (by assumption) | exact Osn.rdR (by assumption) | exact NL.rd (by assumption) | exact rdII (by assumption) (by assumption) | exact Inn.rd (by assumption) (by omega)) (by first | assumption | omega | (simp only [marks_len, marksB_len, marksR_len, sumL_marksS]; omega)) (by first | assumption | omega | (simp only [marks_len, marksB_len, marksR_len, sumL_marksS]; omega)) (by first | assumption | omega | (simp only [marks_len, marksB_len, marksR_len, sumL_marksS]; omega))) (fun rv2 w5 hR => ?_))
  obtain ⟨hUC5, ws6, v7, og7, rfl, hm8, ho7, hq7⟩ := hR
  have hl7 := Lo.up hq7 hB
  have hd1_7 := Dj.lo ho1.ltO hq7
  have hd2_7 := DI.fresh hn2 hq7
  have ho1 := ho1.loop hUC5 trivial
  have hn2 := hn2.loop hUC5 trivial
  have hB := hB.loop hUC5 trivial
  refine WL.pure rfl rfl rfl (PV.assign rfl) ?_
  refine WL.nilS ?_
  refine CW.seq ?_
  refine CW.reg ?_
  have hLB := fs_list hL12 (by omega) (fun x hx => (hm4.2 x hx).1); have hPL := fs_pln hLB (fun x hx => (hm4.2 x hx).2 rfl); have hW := longB_mk hL12 (by omega) hm8.2; have hT := fl_tra hPL (fun x hx => (hm4.2 x hx).1) hW (by omega); have hTV := hT.1; have hS := bck_y hPL hT.2; have hFD := fl_there hTV (by omega) hm8.2
  refine WL.pure rfl rfl rfl (PV.move rfl) ?_
  refine WL.pure rfl rfl rfl (PV.move rfl) ?_
  refine WL.op rfl (OpK.call rfl T.cf77 rfl (c_impl_Transliterate_y (by first | assumption | exact Rd.up (by assumption) hB | exact rdCh (by assumption) (by assumption)) (by first | assumption | exact Rd.up (by assumption) hB | exact Osl.rd (by assumption) | exact Osn.rdR (by assumption) | exact NL.rd (by assumption) | exact rdII (by assumption) (by assumption) | exact Inn.rd (by assumption) (by omega)) (by first | assumption | omega | (simp only [marks_len, marksB_len, marksR_len, sumL_marksS]; omega))) (fun rv3 w6 hR => ?_))
  obtain ⟨hXw6, v9, og9, rfl, ho9, hq9⟩ := hR
  have hl9 := Lo.up hq9 hB
  have hd1_9 := Dj.lo ho1.ltO hq9
  have hd2_9 := DI.fresh hn2 hq9
  have hd7_9 := Dj.lo ho7.ltO hq9
  have hB := hB.trans hXw6
  have ho1 := ho1.up hXw6
  have hn2 := hn2.up hXw6
  have ho7 := ho7.up hXw6
  refine WL.pure rfl rfl rfl (PV.move rfl) ?_
  refine WL.pure rfl rfl rfl (PV.extract rfl rfl) ?_
  refine WL.pure rfl rfl rfl (PV.extract rfl rfl) ?_
  refine WL.pure rfl rfl rfl (PV.assign rfl) ?_
  refine WL.pure rfl rfl rfl (PV.assign rfl) ?_
  refine WL.nilS ?_
  refine CW.seq ?_
  refine CW.reg ?_
  refine WL.pure rfl rfl rfl (PV.move rfl) ?_
  refine WL.pure rfl rfl rfl (PV.move rfl) ?_
  refine WL.op rfl (OpK.call rfl T.cf78 rfl (c_spec_Transliterate_y (by first | assumption | exact Rd.up (by assumption) hB | exact rdCh (by assumption) (by assumption)) (by first | assumption | exact Rd.up (by assumption) hB | exact Osl.rd (by assumption) | exact Osn.rdR (by assumption) | exact NL.rd (by assumption) | exact rdII (by assumption) (by assumption) | exact Inn.rd (by assumption) (by omega)) (by first | assumption | omega | (simp only [marks_len, marksB_len, marksR_len, sumL_marksS]; omega))) (fun rv4 w7 hR => ?_))
  obtain ⟨hXw7, v10, og10, rfl, ho10, hq10⟩ := hR
  have hl10 := Lo.up hq10 hB
  have hd1_10 := Dj.lo ho1.ltO hq10
  have hd2_10 := DI.fresh hn2 hq10
  have hd7_10 := Dj.lo ho7.ltO hq10
  have hd9_10 := Dj.lo ho9.ltO hq10
  have hB := hB.trans hXw7
  have ho1 := ho1.up hXw7
  have hn2 := hn2.up hXw7
  have ho7 := ho7.up hXw7
  have ho9 := ho9.up hXw7
  refine WL.pure rfl rfl rfl (PV.move rfl) ?_
  refine WL.pure rfl rfl rfl (PV.extract rfl rfl) ?_
  refine WL.pure rfl rfl rfl (PV.extract rfl rfl) ?_
  refine WL.pure rfl rfl rfl (PV.assign rfl) ?_
  refine WL.pure rfl rfl rfl (PV.assign rfl) ?_
  refine WL.nilS ?_
  refine CW.seq ?_
  refine CW.seq ?_
  refine CW.reg ?_
  refine WL.pure rfl rfl rfl (PV.move rfl) ?_
  refine WL.pure rfl rfl rfl (PV.not rfl) ?_
  refine WL.pure rfl rfl rfl (PV.move rfl) ?_
  refine WL.pureG rfl rfl rfl rfl rfl (PV.move rfl) ?_
  refine WL.pureG rfl rfl rfl rfl rfl (PV.not rfl) ?_
  refine WL.pure rfl rfl rfl (PV.pickF rfl rfl) ?_
  refine WL.pure rfl rfl rfl (PV.move rfl) ?_
  refine WL.pureG rfl rfl rfl rfl rfl (PV.move rfl) ?_
  refine WL.pureG rfl rfl rfl rfl rfl (PV.move rfl) ?_
  refine WL.opG rfl rfl rfl (OpK.callR rfl T.cf75 rfl (c_laws_b10Ints_y (by first | assumption | exact Rd.up (by assumption) hB | exact Osl.rd (by assumption) | exact Osn.rdR (by assumption) | exact NL.rd (by assumption) | exact rdII (by assumption) (by assumption) | exact Inn.rd (by assumption) (by omega)) (by first | assumption | exact Rd.up (by assumption) hB | exact Osl.rd (by assumption) | exact Osn.rdR (by assumption) | exact NL.rd (by assumption) | exact rdII (by assumption) (by assumption) | exact Inn.rd (by assumption) (by omega)) (by first | rfl | assumption)) (fun w8 hXw8 => ?_))
  have hB := hB.trans hXw8
  have ho1 := ho1.up hXw8
  have hn2 := hn2.up hXw8
  have ho7 := ho7.up hXw8
  have ho9 := ho9.up hXw8
  have ho10 := ho10.up hXw8
  refine WL.pureG rfl rfl rfl rfl rfl (PV.not rfl) ?_
  refine WL.pure rfl rfl rfl (PV.pickF rfl rfl) ?_
  refine WL.nilS ?_
  refine CW.condF rfl ?_
  refine CW.skipS ?_
  refine CW.seq ?_
  refine CW.reg ?_
  refine WL.pure rfl rfl rfl (PV.move rfl) ?_
  refine WL.pure rfl rfl rfl (PV.move rfl) ?_
  refine WL.op rfl (OpK.call rfl T.cf79 rfl (c_impl_BackLiterate_y (by first | assumption | exact Rd.up (by assumption) hB | exact rdCh (by assumption) (by assumption)) (by first | assumption | exact Rd.up (by assumption) hB | exact Osl.rd (by assumption) | exact Osn.rdR (by assumption) | exact NL.rd (by assumption) | exact rdII (by assumption) (by assumption) | exact Inn.rd (by assumption) (by omega)) (by first | assumption | omega | (simp only [marks_len, marksB_len, marksR_len, sumL_marksS]; omega))) (fun rv5 w9 hR => ?_))
  obtain ⟨hXw9, v11, og11, vs12, os12, rfl, ho11, hq11, hn12, hq12, hd11_12⟩ := hR
  have hl11 := Lo.up hq11 hB
  have hd1_11 := Dj.lo ho1.ltO hq11
  have hd2_11 := DI.fresh hn2 hq11
  have hd7_11 := Dj.lo ho7.ltO hq11
  have hd9_11 := Dj.lo ho9.ltO hq11
  have hd10_11 := Dj.lo ho10.ltO hq11
  have hl12 := LoI.up hq12 hB
  have hlv12 := hn12.lv
  have hd1_12 := DI.lo ho1.ltO hq12
  have hdd2_12 := DD.symm (DD.lo hn2 hq12)
  have hd7_12 := DI.lo ho7.ltO hq12
  have hd9_12 := DI.lo ho9.ltO hq12
  have hd10_12 := DI.lo ho10.ltO hq12
  have hB := hB.trans hXw9
  have ho1 := ho1.up hXw9
  have hn2 := hn2.up hXw9
  have ho7 := ho7.up hXw9
  have ho9 := ho9.up hXw9
  have ho10 := ho10.up hXw9
  refine WL.pure rfl rfl rfl (PV.move rfl) ?_
  refine WL.pure rfl rfl rfl (PV.extract rfl rfl) ?_
  refine WL.pure rfl rfl rfl (PV.extract rfl rfl) ?_
  refine WL.pure rfl rfl rfl (PV.assign rfl) ?_
  refine WL.pure rfl rfl rfl (PV.assign rfl) ?_
  refine WL.nilS ?_
  refine CW.seq ?_
  refine CW.reg ?_
  refine WL.pure rfl rfl rfl (PV.move rfl) ?_
  refine WL.pure rfl rfl rfl (PV.move rfl) ?_
  refine WL.op rfl (OpK.call rfl T.cf80 rfl (c_spec_BackLiterate_y (by first | assumption | exact Rd.up (by assumption) hB | exact rdCh (by assumption) (by assumption)) (by first | assumption | exact Rd.up (by assumption) hB | exact Osl.rd (by assumption) | exact Osn.rdR (by assumption) | exact NL.rd (by assumption) | exact rdII (by assumption) (by assumption) | exact Inn.rd (by assumption) (by omega)) (by first | assumption | omega | (simp only [marks_len, marksB_len, marksR_len, sumL_marksS]; omega))) (fun rv6 w10 hR => ?_))
  obtain ⟨hXw10, v13, og13, vs14, os14, rfl, ho13, hq13, hn14, hq14, hd13_14⟩ := hR
  have hl13 := Lo.up hq13 hB
  have hd1_13 := Dj.lo ho1.ltO hq13
  have hd2_13 := DI.fresh hn2 hq13
  have hd7_13 := Dj.lo ho7.ltO hq13
  have hd9_13 := Dj.lo ho9.ltO hq13
  have hd10_13 := Dj.lo ho10.ltO hq13
  have hd11_13 := Dj.lo ho11.ltO hq13
  have hd12_13 := DI.fresh hn12 hq13
  have hl14 := LoI.up hq14 hB
  have hlv14 := hn14.lv
  have hd1_14 := DI.lo ho1.ltO hq14
  have hdd2_14 := DD.symm (DD.lo hn2 hq14)
  have hd7_14 := DI.lo ho7.ltO hq14
  have hd9_14 := DI.lo ho9.ltO hq14
  have hd10_14 := DI.lo ho10.ltO hq14
  have hd11_14 := DI.lo ho11.ltO hq14
  have hdd12_14 := DD.symm (DD.lo hn12 hq14)
  have hB := hB.trans hXw10
  have ho1 := ho1.up hXw10
  have hn2 := hn2.up hXw10
  have ho7 := ho7.up hXw10
  have ho9 := ho9.up hXw10
  have ho10 := ho10.up hXw10
  have ho11 := ho11.up hXw10
  have hn12 := hn12.up hXw10
  refine WL.pure rfl rfl rfl (PV.move rfl) ?_
  refine WL.pure rfl rfl rfl (PV.extract rfl rfl) ?_
  refine WL.pure rfl rfl rfl (PV.extract rfl rfl) ?_
  refine WL.pure rfl rfl rfl (PV.assign rfl) ?_
  refine WL.pure rfl rfl rfl (PV.assign rfl) ?_
  refine WL.nilS ?_
  refine CW.seq ?_
  refine CW.seq ?_
  refine CW.reg ?_
  refine WL.pure rfl rfl rfl (PV.move rfl) ?_
  refine WL.pure rfl rfl rfl (PV.not rfl) ?_
  refine WL.pure rfl rfl rfl (PV.move rfl) ?_
  refine WL.pureG rfl rfl rfl rfl rfl (PV.move rfl) ?_
  refine WL.pureG rfl rfl rfl rfl rfl (PV.not rfl) ?_
  refine WL.pure rfl rfl rfl (PV.pickF rfl rfl) ?_
  refine WL.pure rfl rfl rfl (PV.move rfl) ?_
  refine WL.pureG rfl rfl rfl rfl rfl (PV.move rfl) ?_
  refine WL.pureG rfl rfl rfl rfl rfl ((PV.lenOs rfl ho11 T.sl25)) ?_
  refine WL.pureG rfl rfl rfl rfl rfl (PV.move rfl) ?_
  refine WL.pureG rfl rfl rfl rfl rfl ((PV.lenOs rfl ho13 T.sl25)) ?_
  refine WL.pureG rfl rfl rfl rfl rfl (PV.neq rfl rfl) ?_
  refine WL.pure rfl rfl rfl (PV.pickF rfl rfl) ?_
  refine WL.nilS ?_
  refine CW.cond rfl (fun hc2 => ?_) (fun hc2 => ?_)
  · skip
    try simp only [decide_eq_true_eq, decide_eq_false_iff_not, Bool.not_eq_true', Bool.not_eq_false', Bool.not_eq_eq_eq_not, Bool.not_true, Bool.not_false, Int.not_lt, Int.not_le, Classical.not_not, beq_iff_eq, beq_eq_false_iff_ne] at hc2
    exact absurd (by rw [hlv12, hlv14]) hc2
  try simp only [decide_eq_true_eq, decide_eq_false_iff_not, Bool.not_eq_true', Bool.not_eq_false', Bool.not_eq_eq_eq_not, Bool.not_true, Bool.not_false, Int.not_lt, Int.not_le, Classical.not_not, beq_iff_eq, beq_eq_false_iff_ne] at hc2
  refine CW.skipS ?_
  refine CW.seq ?_
  refine CW.reg ?_
  refine WL.pure rfl rfl rfl (PV.assign rfl) ?_
  refine WL.nilS ?_
  refine CW.seq ?_
  refine CW.seq ?_
  refine CW.reg ?_
  have hb12 : vs12.length ≤ 1365 := (by have h9 := (bcks_len (cs := cs3) (xs := traL cs3 ws6) (L := 2) (f := traF cs3)).1; rw [onT_yes hS] at h9; rw [hlv12]; exact h9)
  refine WL.pure rfl rfl rfl (PV.move rfl) ?_
  refine WL.pure rfl rfl rfl ((PV.lenOs rfl ho11 T.sl25)) ?_
  refine WL.pure rfl rfl rfl (PV.move rfl) ?_
  refine WL.nilS ?_
  refine CW.block ?_
  refine CW.loop (σk := [(0, _), (1, _), (5, _), (6, _), (7, _), (11, _), (13, _), (95, _)]) (fun ρ wz m => ∃ (k : Nat), ρ = [(15, .bool (fdB (srcL (traF cs3) (traL cs3 ws6) 2 5) ws6 k)), (96, .int .i64 (k : Nat))] ∧ m = vs12.length - k ∧ UpdL [] w10 wz ∧ (k ≤ vs12.length)) (ρ₀ := [(15, _), (96, _)]) (m₀ := _) ⟨rfl, rfl, rfl, rfl, rfl, rfl, rfl, rfl, rfl, rfl, trivial⟩ ⟨0, (by rw [← fd_zero]; rfl), rfl, (UpdL.refl _ _), (by first | omega | rfl | (simp; done) | assumption | (simp_all; done))⟩ ?_
  rintro _ wl1 _ ⟨k, rfl, rfl, hU0, hk⟩
  have ho1 := ho1.loop hU0 trivial
  have hn2 := hn2.loop hU0 trivial
  have ho7 := ho7.loop hU0 trivial
  have ho9 := ho9.loop hU0 trivial
  have ho10 := ho10.loop hU0 trivial
  have ho11 := ho11.loop hU0 trivial
  have hn12 := hn12.loop hU0 trivial
  have ho13 := ho13.loop hU0 trivial
  have hn14 := hn14.loop hU0 trivial
  have hB := hB.loop hU0 trivial
  refine CW.seq ?_
  refine CW.reg ?_
  refine WL.pure rfl rfl rfl (PV.lss rfl rfl) ?_
  refine WL.nilS ?_
  refine CW.seq ?_
  refine CW.cond rfl (fun hc3 => ?_) (fun hc3 => ?_)
  · skip
    try simp only [decide_eq_true_eq, decide_eq_false_iff_not, Bool.not_eq_true', Bool.not_eq_false', Bool.not_eq_eq_eq_not, Bool.not_true, Bool.not_false, Int.not_lt, Int.not_le, Classical.not_not, beq_iff_eq, beq_eq_false_iff_ne] at hc3
    refine CW.skipS ?_
    refine CW.seq ?_
    refine CW.block ?_
    refine CW.seq ?_
    refine CW.reg ?_
    refine WL.pure rfl rfl rfl (PV.move rfl) ?_
    refine WL.pure rfl rfl rfl (PV.assign rfl) ?_
    refine WL.nilS ?_
    refine CW.seq ?_
    refine CW.reg ?_
    have hKL := fl_sel (k := k) hPL hL12 (show k < (srcL (traF cs3) (traL cs3 ws6) 2 5).length from by omega); have hTK := hKL.1; have hKE := hKL.2
    refine WL.pure rfl rfl rfl (PV.move rfl) ?_
    refine WL.pure rfl rfl rfl (PV.move rfl) ?_
    refine WL.pure rfl rfl rfl (PV.move rfl) ?_
    first
      | refine WL.atO (x := .tmp 101) (y := .tmp 102) (f := VV) (.slice none 0 0) rfl rfl ho11 (by first | omega | (simp only [List.length_set]; omega) | (simp only [List.length_append, List.length_take, List.length_replicate, List.length_drop]; omega)) (fun p1 hpp1 hcp1 => ?_)
      | refine WL.atOZ (x := .tmp 101) (y := .tmp 102) (f := VV) (.slice none 0 0) rfl rfl ho11 (by first | omega | (simp only [List.length_set]; omega) | (simp only [List.length_append, List.length_take, List.length_replicate, List.length_drop]; omega)) (fun p1 hpp1 hzp1 hcp1 => ?_)
    refine WL.pure rfl rfl rfl ((by first | exact PV.indexAddr hpp1 rfl rfl T.sl25 | exact PV.indexAddr hpp1 rfl (by rw [← hzp1]; rfl) T.sl25)) ?_
    refine WL.pure rfl rfl rfl ((by first | exact PV.load0 T.na28 rfl (by first | exact Cells.up (by assumption) hB | exact Bx.cells (by assumption) | assumption) (Ext.refl _) rfl | exact PV.load1 T.na28 rfl (by first | exact Cells.up (by assumption) hB | exact Bx.cells (by assumption) | assumption) (Ext.refl _) rfl)) ?_
    refine WL.op rfl (OpK.call rfl T.cf77 rfl (c_impl_Transliterate_y (by first | assumption | exact Rd.up (by assumption) hB | exact rdCh (by assumption) (by assumption)) (by first | assumption | exact Rd.up (by assumption) hB | exact Osl.rd (by assumption) | exact Osn.rdR (by assumption) | exact NL.rd (by assumption) | exact rdII (by assumption) (by assumption) | exact Inn.rd (by assumption) (by omega)) (by first | assumption | omega | (simp only [marks_len, marksB_len, marksR_len, sumL_marksS]; omega))) (fun rv7 w11 hR => ?_))
    obtain ⟨hXw11, v15, og15, rfl, ho15, hq15⟩ := hR
    have hl15 := Lo.up hq15 hB
    have hd1_15 := Dj.lo ho1.ltO hq15
    have hd2_15 := DI.fresh hn2 hq15
    have hd7_15 := Dj.lo ho7.ltO hq15
    have hd9_15 := Dj.lo ho9.ltO hq15
    have hd10_15 := Dj.lo ho10.ltO hq15
    have hd11_15 := Dj.lo ho11.ltO hq15
    have hd12_15 := DI.fresh hn12 hq15
    have hd13_15 := Dj.lo ho13.ltO hq15
    have hd14_15 := DI.fresh hn14 hq15
    have hk0_15 := OkN.lo hU0 hq15
    have hg0_15 := OgR.lo hU0.size hq15
    have hB := hB.trans hXw11
    have ho1 := ho1.up hXw11
    have hn2 := hn2.up hXw11
    have ho7 := ho7.up hXw11
    have ho9 := ho9.up hXw11
    have ho10 := ho10.up hXw11
    have ho11 := ho11.up hXw11
    have hn12 := hn12.up hXw11
    have ho13 := ho13.up hXw11
    have hn14 := hn14.up hXw11
    have hU0 := hU0.ext hXw11
    refine WL.pure rfl rfl rfl (PV.move rfl) ?_
    refine WL.pure rfl rfl rfl (PV.extract rfl rfl) ?_
    refine WL.pure rfl rfl rfl (PV.extract rfl rfl) ?_
    refine WL.pure rfl rfl rfl (PV.assign rfl) ?_
    refine WL.pure rfl rfl rfl (PV.assign rfl) ?_
    refine WL.nilS ?_
    refine CW.seq ?_
    refine CW.seq ?_
    refine CW.draw T.mixed (by kernel_rfl) (fun _ _ _ _ _ h => h) (fun w8 w9 => Upd none w8 w9) 20 (.take 0 (.take 1 (.take 2 (.take 3 (.take 4 (.must 5 (.take 6 (.take 7 (.take 8 (.split (.take 9 (.take 10 (.take 11 (.take 12 (.take 13 (.take 14 (.take 15 (.take 16 (.take 17 (.take 18 (.take 19 .done))))))))))) (.take 9 (.take 10 (.take 11 (.take 12 (.take 13 (.take 14 (.take 15 (.take 16 (.must 17 (.take 18 (.take 19 .done))))))))))))))))))))) (by kernel_rfl) (fun w12 hXd => ?_)
    have hB := hB.trans hXd
    have ho1 := ho1.up hXd
    have hn2 := hn2.up hXd
    have ho7 := ho7.up hXd
    have ho9 := ho9.up hXd
    have ho10 := ho10.up hXd
    have ho11 := ho11.up hXd
    have hn12 := hn12.up hXd
    have ho13 := ho13.up hXd
    have hn14 := hn14.up hXd
    have ho15 := ho15.up hXd
    have hU0 := hU0.ext hXd
    have hBr := hB
    have hS : Upd none w12 w12 := Ext.toUpd (Ext.refl _)
    refine HP.take rfl rfl rfl rfl hS (fun wS hS1 => PV.move rfl) ?_
    refine HP.take rfl rfl rfl rfl hS (fun wS hS1 => PV.not rfl) ?_
    refine HP.take rfl rfl rfl rfl hS (fun wS hS1 => PV.move rfl) ?_
    refine HP.takeG rfl rfl rfl rfl rfl rfl hS (fun wS hS1 => PV.move rfl) ?_
    refine HP.takeG rfl rfl rfl rfl rfl rfl hS (fun wS hS1 => PV.move rfl) ?_
    refine HP.mustG rfl rfl rfl rfl (OpK.callR rfl T.cf75 rfl (c_laws_b10Ints_y (by first | assumption | exact Rd.up (by assumption) hB | exact Osl.rd (by assumption) | exact Osn.rdR (by assumption) | exact NL.rd (by assumption) | exact rdII (by assumption) (by assumption) | exact Inn.rd (by assumption) (by omega)) (by first | assumption | exact Rd.up (by assumption) hB | exact Osl.rd (by assumption) | exact Osn.rdR (by assumption) | exact NL.rd (by assumption) | exact rdII (by assumption) (by assumption) | exact Inn.rd (by assumption) (by omega)) (by first | rfl | assumption)) (fun w13 hXw13 => ?_))
    refine ⟨Upd.trans hS hXw13, ?_⟩
    have hS := Upd.trans hS hXw13
    have hB := hB.trans hXw13
    have ho1 := ho1.up hXw13
    have hn2 := hn2.up hXw13
    have ho7 := ho7.up hXw13
    have ho9 := ho9.up hXw13
    have ho10 := ho10.up hXw13
    have ho11 := ho11.up hXw13
    have hn12 := hn12.up hXw13
    have ho13 := ho13.up hXw13
    have hn14 := hn14.up hXw13
    have ho15 := ho15.up hXw13
    have hU0 := hU0.ext hXw13
    refine HP.takeG rfl rfl rfl rfl rfl rfl hS (fun wS hS1 => PV.not rfl) ?_
    refine HP.take rfl rfl rfl rfl hS (fun wS hS1 => PV.pickF rfl rfl) ?_
    refine HP.take rfl rfl rfl rfl hS (fun wS hS1 => PV.move rfl) ?_
    refine HP.split (t := 116) rfl (fun hc4 => ?_) (fun hc4 => ?_)
    · skip
      try simp only [decide_eq_true_eq, decide_eq_false_iff_not, Bool.not_eq_true', Bool.not_eq_false', Bool.not_eq_eq_eq_not, Bool.not_true, Bool.not_false, Int.not_lt, Int.not_le, Classical.not_not, beq_iff_eq, beq_eq_false_iff_ne] at hc4
      refine HP.skip rfl rfl rfl rfl rfl rfl hS ?_
      refine HP.skip rfl rfl rfl rfl rfl rfl hS ?_
      refine HP.skip rfl rfl rfl rfl rfl rfl hS ?_
      refine HP.skip rfl rfl rfl rfl rfl rfl hS ?_
      refine HP.skip rfl rfl rfl rfl rfl rfl hS ?_
      refine HP.skip rfl rfl rfl rfl rfl rfl hS ?_
      refine HP.skip rfl rfl rfl rfl rfl rfl hS ?_
      refine HP.skip rfl rfl rfl rfl rfl rfl hS ?_
      refine HP.skip rfl rfl rfl rfl rfl rfl hS ?_
      refine HP.skip rfl rfl rfl rfl rfl rfl hS ?_
      refine HP.take rfl rfl rfl rfl hS (fun wS hS1 => PV.pickT rfl rfl) ?_
      refine HP.doneS ?_
      refine CW.condT rfl ?_
      refine CW.seq ?_
      refine CW.reg ?_
      refine WL.pure rfl rfl rfl (PV.assign rfl) ?_
      refine WL.nilS ?_
      refine CW.ret ?_
      refine RQ.then ?_
      refine RQ.block ?_
      refine RQ.then ?_
      refine RQ.then ?_
      refine RQ.block ?_
      refine RQ.then ?_
      refine RQ.r1 rfl ?_
      refine ⟨?_, hB⟩
      first | rfl | exact bT (by omega) | exact bF (by omega) | exact bD (by omega) | exact iE (by omega) | (simp_all; done) | (simp_all; omega) | (simp_all; intros; omega)
    try simp only [decide_eq_true_eq, decide_eq_false_iff_not, Bool.not_eq_true', Bool.not_eq_false', Bool.not_eq_eq_eq_not, Bool.not_true, Bool.not_false, Int.not_lt, Int.not_le, Classical.not_not, beq_iff_eq, beq_eq_false_iff_ne] at hc4
    refine HP.takeG rfl rfl rfl rfl rfl rfl hS (fun wS hS1 => PV.move rfl) ?_
    refine HP.takeG rfl rfl rfl rfl rfl rfl hS (fun wS hS1 => PV.move rfl) ?_
    first
      | refine HP.atO (wb := w12) (x := .tmp 117) (y := .tmp 118) (f := VV) (.slice none 0 0) rfl rfl (by assumption) (by first | omega | (simp only [List.length_set]; omega) | (simp only [List.length_append, List.length_take, List.length_replicate, List.length_drop]; omega)) (fun p2 hpp2 hcp2 => ?_)
      | refine HP.atOZ (wb := w12) (x := .tmp 117) (y := .tmp 118) (f := VV) (.slice none 0 0) rfl rfl (by assumption) (by first | omega | (simp only [List.length_set]; omega) | (simp only [List.length_append, List.length_take, List.length_replicate, List.length_drop]; omega)) (fun p2 hpp2 hzp2 hcp2 => ?_)
    refine HP.takeG rfl rfl rfl rfl rfl rfl hS (fun wS hS1 => (by first | exact PV.indexAddr hpp2 rfl rfl T.sl25 | exact PV.indexAddr hpp2 rfl (by rw [← hzp2]; rfl) T.sl25)) ?_
    refine HP.takeG rfl rfl rfl rfl rfl rfl hS (fun wS hS1 => (by first | exact PV.load0 T.na28 rfl (by first | exact Cells.up (by assumption) (hBr.trans hS1) | exact Bx.cells (Bx.updD (by assumption) hS1 (Dj.nlR _)) | exact Cells.upd (by assumption) hS1 (by simp)) (Ext.refl _) rfl | exact PV.load1 T.na28 rfl (by first | exact Cells.up (by assumption) (hBr.trans hS1) | exact Bx.cells (Bx.updD (by assumption) hS1 (Dj.nlR _)) | exact Cells.upd (by assumption) hS1 (by simp)) (Ext.refl _) rfl)) ?_
    refine HP.takeG rfl rfl rfl rfl rfl rfl hS (fun wS hS1 => PV.move rfl) ?_
    refine HP.takeG rfl rfl rfl rfl rfl rfl hS (fun wS hS1 => PV.move rfl) ?_
    first
      | refine HP.atO (wb := w12) (x := .tmp 121) (y := .tmp 122) (f := VV) (.slice none 0 0) rfl rfl (by assumption) (by first | omega | (simp only [List.length_set]; omega) | (simp only [List.length_append, List.length_take, List.length_replicate, List.length_drop]; omega)) (fun p3 hpp3 hcp3 => ?_)
      | refine HP.atOZ (wb := w12) (x := .tmp 121) (y := .tmp 122) (f := VV) (.slice none 0 0) rfl rfl (by assumption) (by first | omega | (simp only [List.length_set]; omega) | (simp only [List.length_append, List.length_take, List.length_replicate, List.length_drop]; omega)) (fun p3 hpp3 hzp3 hcp3 => ?_)
    refine HP.takeG rfl rfl rfl rfl rfl rfl hS (fun wS hS1 => (by first | exact PV.indexAddr hpp3 rfl rfl T.sl25 | exact PV.indexAddr hpp3 rfl (by rw [← hzp3]; rfl) T.sl25)) ?_
    refine HP.takeG rfl rfl rfl rfl rfl rfl hS (fun wS hS1 => (by first | exact PV.load0 T.na28 rfl (by first | exact Cells.up (by assumption) (hBr.trans hS1) | exact Bx.cells (Bx.updD (by assumption) hS1 (Dj.nlR _)) | exact Cells.upd (by assumption) hS1 (by simp)) (Ext.refl _) rfl | exact PV.load1 T.na28 rfl (by first | exact Cells.up (by assumption) (hBr.trans hS1) | exact Bx.cells (Bx.updD (by assumption) hS1 (Dj.nlR _)) | exact Cells.upd (by assumption) hS1 (by simp)) (Ext.refl _) rfl)) ?_
    refine HP.mustG rfl rfl rfl rfl (OpK.callR rfl T.cf75 rfl (c_laws_b10Ints_y (by first | assumption | exact Rd.up (by assumption) hB | exact Osl.rd (by assumption) | exact Osn.rdR (by assumption) | exact NL.rd (by assumption) | exact rdII (by assumption) (by assumption) | exact Inn.rd (by assumption) (by omega)) (by first | assumption | exact Rd.up (by assumption) hB | exact Osl.rd (by assumption) | exact Osn.rdR (by assumption) | exact NL.rd (by assumption) | exact rdII (by assumption) (by assumption) | exact Inn.rd (by assumption) (by omega)) (by first | rfl | assumption)) (fun w14 hXw14 => ?_))
    refine ⟨Upd.trans hS hXw14, ?_⟩
    have hS := Upd.trans hS hXw14
    have hB := hB.trans hXw14
    have ho1 := ho1.up hXw14
    have hn2 := hn2.up hXw14
    have ho7 := ho7.up hXw14
    have ho9 := ho9.up hXw14
    have ho10 := ho10.up hXw14
    have ho11 := ho11.up hXw14
    have hn12 := hn12.up hXw14
    have ho13 := ho13.up hXw14
    have hn14 := hn14.up hXw14
    have ho15 := ho15.up hXw14
    have hU0 := hU0.ext hXw14
    refine HP.takeG rfl rfl rfl rfl rfl rfl hS (fun wS hS1 => PV.not rfl) ?_
    refine HP.take rfl rfl rfl rfl hS (fun wS hS1 => PV.pickF rfl rfl) ?_
    refine HP.doneS ?_
    refine CW.condF rfl ?_
    refine CW.skipS ?_
    refine CW.reg ?_
    refine WL.pure rfl rfl rfl (PV.move rfl) ?_
    refine WL.pure rfl rfl rfl (PV.move rfl) ?_
    refine WL.split (t := 129) rfl (fun hc5 => ?_) (fun hc5 => ?_)
    · skip
      try simp only [decide_eq_true_eq, decide_eq_false_iff_not, Bool.not_eq_true', Bool.not_eq_false', Bool.not_eq_eq_eq_not, Bool.not_true, Bool.not_false, Int.not_lt, Int.not_le, Classical.not_not, beq_iff_eq, beq_eq_false_iff_ne] at hc5
      refine WL.skip rfl rfl rfl rfl rfl ?_
      refine WL.skip rfl rfl rfl rfl rfl ?_
      refine WL.skip rfl rfl rfl rfl rfl ?_
      refine WL.skip rfl rfl rfl rfl rfl ?_
      refine WL.skip rfl rfl rfl rfl rfl ?_
      refine WL.skip rfl rfl rfl rfl rfl ?_
      refine WL.pure rfl rfl rfl (PV.pickT rfl rfl) ?_
      refine WL.pure rfl rfl rfl (PV.assign rfl) ?_
      refine WL.nil ?_
      refine NQ.block ?_
      refine NQ.then ?_
      refine CW.reg ?_
      refine WL.pure rfl rfl rfl (PV.add rfl rfl (by constructor <;> omega)) ?_
      refine WL.pure rfl rfl rfl (PV.move rfl) ?_
      refine WL.nil ?_
      refine NQ.next (ρ := [(15, _), (96, _)]) ⟨rfl, rfl, rfl, rfl, rfl, rfl, rfl, rfl, rfl, rfl, trivial⟩ ?_
      exact ⟨_, ⟨k + 1, (by first | (rw [← fd_yes (by omega) (by assumption)]; rfl) | (rw [← fd_no (by omega) (by assumption)]; rfl)), rfl, hU0, (by first | omega | assumption | (simp_all; done) | (simp_all; omega))⟩, by omega⟩
    try simp only [decide_eq_true_eq, decide_eq_false_iff_not, Bool.not_eq_true', Bool.not_eq_false', Bool.not_eq_eq_eq_not, Bool.not_true, Bool.not_false, Int.not_lt, Int.not_le, Classical.not_not, beq_iff_eq, beq_eq_false_iff_ne] at hc5
    refine WL.pureG rfl rfl rfl rfl rfl (PV.move rfl) ?_
    refine WL.pureG rfl rfl rfl rfl rfl (PV.move rfl) ?_
    first
      | refine WL.atO (x := .tmp 130) (y := .tmp 131) (f := VV) (.slice none 0 0) rfl rfl ho11 (by first | omega | (simp only [List.length_set]; omega) | (simp only [List.length_append, List.length_take, List.length_replicate, List.length_drop]; omega)) (fun p4 hpp4 hcp4 => ?_)
      | refine WL.atOZ (x := .tmp 130) (y := .tmp 131) (f := VV) (.slice none 0 0) rfl rfl ho11 (by first | omega | (simp only [List.length_set]; omega) | (simp only [List.length_append, List.length_take, List.length_replicate, List.length_drop]; omega)) (fun p4 hpp4 hzp4 hcp4 => ?_)
    refine WL.pureG rfl rfl rfl rfl rfl ((by first | exact PV.indexAddr hpp4 rfl rfl T.sl25 | exact PV.indexAddr hpp4 rfl (by rw [← hzp4]; rfl) T.sl25)) ?_
    refine WL.pureG rfl rfl rfl rfl rfl ((by first | exact PV.load0 T.na28 rfl (by first | exact Cells.up (by assumption) hB | exact Bx.cells (by assumption) | assumption) (Ext.refl _) rfl | exact PV.load1 T.na28 rfl (by first | exact Cells.up (by assumption) hB | exact Bx.cells (by assumption) | assumption) (Ext.refl _) rfl)) ?_
    refine WL.pureG rfl rfl rfl rfl rfl (PV.move rfl) ?_
    refine WL.opG rfl rfl rfl (OpK.callR rfl T.cf75 rfl (c_laws_b10Ints (by first | assumption | exact Rd.up (by assumption) hB | exact Osl.rd (by assumption) | exact Osn.rdR (by assumption) | exact NL.rd (by assumption) | exact rdII (by assumption) (by assumption) | exact Inn.rd (by assumption) (by omega)) (by first | assumption | exact Rd.up (by assumption) hB | exact Osl.rd (by assumption) | exact Osn.rdR (by assumption) | exact NL.rd (by assumption) | exact rdII (by assumption) (by assumption) | exact Inn.rd (by assumption) (by omega))) (fun w15 hXw15 => ?_))
    have hB := hB.trans hXw15
    have ho1 := ho1.up hXw15
    have hn2 := hn2.up hXw15
    have ho7 := ho7.up hXw15
    have ho9 := ho9.up hXw15
    have ho10 := ho10.up hXw15
    have ho11 := ho11.up hXw15
    have hn12 := hn12.up hXw15
    have ho13 := ho13.up hXw15
    have hn14 := hn14.up hXw15
    have ho15 := ho15.up hXw15
    have hU0 := hU0.ext hXw15
    refine WL.pure rfl rfl rfl (PV.pickF rfl rfl) ?_
    refine WL.pure rfl rfl rfl (PV.assign rfl) ?_
    refine WL.nil ?_
    refine NQ.block ?_
    refine NQ.then ?_
    refine CW.reg ?_
    refine WL.pure rfl rfl rfl (PV.add rfl rfl (by constructor <;> omega)) ?_
    refine WL.pure rfl rfl rfl (PV.move rfl) ?_
    refine WL.nil ?_
    refine NQ.next (ρ := [(15, _), (96, _)]) ⟨rfl, rfl, rfl, rfl, rfl, rfl, rfl, rfl, rfl, rfl, trivial⟩ ?_
    exact ⟨_, ⟨k + 1, (by first | (rw [← fd_yes (by omega) (by assumption)]; rfl) | (rw [← fd_no (by omega) (by assumption)]; rfl)), rfl, hU0, (by first | omega | assumption | (simp_all; done) | (simp_all; omega))⟩, by omega⟩
  try simp only [decide_eq_true_eq, decide_eq_false_iff_not, Bool.not_eq_true', Bool.not_eq_false', Bool.not_eq_eq_eq_not, Bool.not_true, Bool.not_false, Int.not_lt, Int.not_le, Classical.not_not, beq_iff_eq, beq_eq_false_iff_ne] at hc3
  refine CW.exit ?_
  refine XQ.then ?_
  refine XQ.then ?_
  refine XQ.here ?_
  refine NQ.then ?_
  refine CW.seq ?_
  refine CW.reg ?_
  have hfd := fd_all (ws := ws6) (ls := (srcL (traF cs3) (traL cs3 ws6) 2 5)) (k := k) (by omega) hFD
  refine WL.op rfl (OpK.buildS VI (os := [.const (.int .i64 0), .const (.int .i64 1), .const (.int .i64 2), .const (.int .i64 3)]) [_, _, _, _] rfl T.sl28 rfl rfl T.zv2 rfl (by intro z hz; first | rfl | (simp only [List.mem_cons, List.not_mem_nil, or_false] at hz; rcases hz with hz | hz | hz | hz <;> subst hz <;> exact (by first | exact Rd.cells1 (by assumption) | exact Osl.cells1 (by assumption) | exact Osn.cells1 (by assumption) | exact Rd.cells1 (NL.rd (by assumption)) | exact Inn.cell1 (by assumption) (by omega) | assumption | rfl))) rfl (fun v16 g16 w16 hXw16 ho16 hge16 => ?_))
  have hl16 := Lo.new hB hge16
  have hd1_16 := Dj.new ho1.ltO hge16
  have hd2_16 := DI.new hn2 hge16
  have hd7_16 := Dj.new ho7.ltO hge16
  have hd9_16 := Dj.new ho9.ltO hge16
  have hd10_16 := Dj.new ho10.ltO hge16
  have hd11_16 := Dj.new ho11.ltO hge16
  have hd12_16 := DI.new hn12 hge16
  have hd13_16 := Dj.new ho13.ltO hge16
  have hd14_16 := DI.new hn14 hge16
  have hB := hB.trans hXw16
  have ho1 := ho1.up hXw16
  have hn2 := hn2.up hXw16
  have ho7 := ho7.up hXw16
  have ho9 := ho9.up hXw16
  have ho10 := ho10.up hXw16
  have ho11 := ho11.up hXw16
  have hn12 := hn12.up hXw16
  have ho13 := ho13.up hXw16
  have hn14 := hn14.up hXw16
  refine WL.pure rfl rfl rfl (PV.assign rfl) ?_
  refine WL.nilS ?_
  refine CW.seq ?_
  refine CW.reg ?_
  refine WL.pure rfl rfl rfl (PV.move rfl) ?_
  refine WL.op rfl (OpK.callR rfl T.cf63 rfl (c_laws_b10At (by first | assumption | exact Rd.up (by assumption) hB | exact Osl.rd (by assumption) | exact Osn.rdR (by assumption) | exact NL.rd (by assumption) | exact rdII (by assumption) (by assumption) | exact Inn.rd (by assumption) (by omega)) (by first | assumption | omega | (simp only [marks_len, marksB_len, marksR_len, sumL_marksS]; omega)) (by first | assumption | omega | (simp only [marks_len, marksB_len, marksR_len, sumL_marksS]; omega))) (fun w17 hXw17 => ?_))
  have hB := hB.trans hXw17
  have ho1 := ho1.up hXw17
  have hn2 := hn2.up hXw17
  have ho7 := ho7.up hXw17
  have ho9 := ho9.up hXw17
  have ho10 := ho10.up hXw17
  have ho11 := ho11.up hXw17
  have hn12 := hn12.up hXw17
  have ho13 := ho13.up hXw17
  have hn14 := hn14.up hXw17
  have ho16 := ho16.up hXw17
  refine WL.pure rfl rfl rfl (PV.assign rfl) ?_
  refine WL.nilS ?_
  refine CW.seq ?_
  refine CW.reg ?_
  refine WL.pure rfl rfl rfl (PV.move rfl) ?_
  refine WL.op rfl (OpK.callR rfl T.cf63 rfl (c_laws_b10At (by first | assumption | exact Rd.up (by assumption) hB | exact Osl.rd (by assumption) | exact Osn.rdR (by assumption) | exact NL.rd (by assumption) | exact rdII (by assumption) (by assumption) | exact Inn.rd (by assumption) (by omega)) (by first | assumption | omega | (simp only [marks_len, marksB_len, marksR_len, sumL_marksS]; omega)) (by first | assumption | omega | (simp only [marks_len, marksB_len, marksR_len, sumL_marksS]; omega))) (fun w18 hXw18 => ?_))
  have hB := hB.trans hXw18
  have ho1 := ho1.up hXw18
  have hn2 := hn2.up hXw18
  have ho7 := ho7.up hXw18
  have ho9 := ho9.up hXw18
  have ho10 := ho10.up hXw18
  have ho11 := ho11.up hXw18
  have hn12 := hn12.up hXw18
  have ho13 := ho13.up hXw18
  have hn14 := hn14.up hXw18
  have ho16 := ho16.up hXw18
  refine WL.pure rfl rfl rfl (PV.assign rfl) ?_
  refine WL.nilS ?_
  refine CW.seq ?_
  refine CW.reg ?_
  refine WL.pure rfl rfl rfl (PV.move rfl) ?_
  refine WL.pure rfl rfl rfl (PV.move rfl) ?_
  refine WL.pure rfl rfl rfl (PV.move rfl) ?_
  refine WL.op rfl (OpK.call rfl T.cf81 rfl (c_impl_WithFeatures (by first | assumption | exact Rd.up (by assumption) hB | exact Osl.rd (by assumption) | exact Osn.rdR (by assumption) | exact NL.rd (by assumption) | exact rdII (by assumption) (by assumption) | exact Inn.rd (by assumption) (by omega)) (by first | assumption | omega | (simp only [marks_len, marksB_len, marksR_len, sumL_marksS]; omega)) (by first | assumption | omega | (simp only [marks_len, marksB_len, marksR_len, sumL_marksS]; omega))) (fun rv8 w19 hR => ?_))
  obtain ⟨hXw19, v17, og17, rfl, ho17, hq17⟩ := hR
  have hl17 := Lo.up hq17 hB
  have hd1_17 := Dj.lo ho1.ltO hq17
  have hd2_17 := DI.fresh hn2 hq17
  have hd7_17 := Dj.lo ho7.ltO hq17
  have hd9_17 := Dj.lo ho9.ltO hq17
  have hd10_17 := Dj.lo ho10.ltO hq17
  have hd11_17 := Dj.lo ho11.ltO hq17
  have hd12_17 := DI.fresh hn12 hq17
  have hd13_17 := Dj.lo ho13.ltO hq17
  have hd14_17 := DI.fresh hn14 hq17
  have hd16_17 := Dj.lo ho16.ltO hq17
  have hB := hB.trans hXw19
  have ho1 := ho1.up hXw19
  have hn2 := hn2.up hXw19
  have ho7 := ho7.up hXw19
  have ho9 := ho9.up hXw19
  have ho10 := ho10.up hXw19
  have ho11 := ho11.up hXw19
  have hn12 := hn12.up hXw19
  have ho13 := ho13.up hXw19
  have hn14 := hn14.up hXw19
  have ho16 := ho16.up hXw19
  refine WL.pure rfl rfl rfl (PV.move rfl) ?_
  refine WL.pure rfl rfl rfl (PV.extract rfl rfl) ?_
  refine WL.pure rfl rfl rfl (PV.extract rfl rfl) ?_
  refine WL.pure rfl rfl rfl (PV.assign rfl) ?_
  refine WL.pure rfl rfl rfl (PV.assign rfl) ?_
  refine WL.nilS ?_
  refine CW.seq ?_
  refine CW.reg ?_
  skip
  refine WL.pure rfl rfl rfl (PV.move rfl) ?_
  refine WL.pure rfl rfl rfl (PV.move rfl) ?_
  refine WL.op rfl (OpK.callR rfl T.cf63 rfl (c_laws_b10At (by first | assumption | exact Rd.up (by assumption) hB | exact Osl.rd (by assumption) | exact Osn.rdR (by assumption) | exact NL.rd (by assumption) | exact rdII (by assumption) (by assumption) | exact Inn.rd (by assumption) (by omega)) (by first | assumption | omega | (simp only [marks_len, marksB_len, marksR_len, sumL_marksS]; omega)) (by first | assumption | omega | (simp only [marks_len, marksB_len, marksR_len, sumL_marksS]; omega))) (fun w20 hXw20 => ?_))
  have hB := hB.trans hXw20
  have ho1 := ho1.up hXw20
  have hn2 := hn2.up hXw20
  have ho7 := ho7.up hXw20
  have ho9 := ho9.up hXw20
  have ho10 := ho10.up hXw20
  have ho11 := ho11.up hXw20
  have hn12 := hn12.up hXw20
  have ho13 := ho13.up hXw20
  have hn14 := hn14.up hXw20
  have ho16 := ho16.up hXw20
  have ho17 := ho17.up hXw20
  refine WL.op rfl (OpK.call rfl T.cf62 rfl (c_spec_B10Word hB (by first | assumption | exact Rd.up (by assumption) hB | exact Osl.rd (by assumption) | exact Osn.rdR (by assumption) | exact NL.rd (by assumption) | exact rdII (by assumption) (by assumption) | exact Inn.rd (by assumption) (by omega)) (by first | assumption | omega | (simp only [marks_len, marksB_len, marksR_len, sumL_marksS]; omega)) (by first | assumption | omega | (simp only [marks_len, marksB_len, marksR_len, sumL_marksS]; omega)) (by first | assumption | omega | (simp only [marks_len, marksB_len, marksR_len, sumL_marksS]; omega))) (fun rv9 w21 hR => ?_))
  obtain ⟨hUC18, ws19, v20, og20, rfl, hm21, ho20, hq20⟩ := hR
  have hl20 := Lo.up hq20 hB
  have hd1_20 := Dj.lo ho1.ltO hq20
  have hd2_20 := DI.fresh hn2 hq20
  have hd7_20 := Dj.lo ho7.ltO hq20
  have hd9_20 := Dj.lo ho9.ltO hq20
  have hd10_20 := Dj.lo ho10.ltO hq20
  have hd11_20 := Dj.lo ho11.ltO hq20
  have hd12_20 := DI.fresh hn12 hq20
  have hd13_20 := Dj.lo ho13.ltO hq20
  have hd14_20 := DI.fresh hn14 hq20
  have hd16_20 := Dj.lo ho16.ltO hq20
  have hd17_20 := Dj.lo ho17.ltO hq20
  have ho1 := ho1.loop hUC18 trivial
  have hn2 := hn2.loop hUC18 trivial
  have ho7 := ho7.loop hUC18 trivial
  have ho9 := ho9.loop hUC18 trivial
  have ho10 := ho10.loop hUC18 trivial
  have ho11 := ho11.loop hUC18 trivial
  have hn12 := hn12.loop hUC18 trivial
  have ho13 := ho13.loop hUC18 trivial
  have hn14 := hn14.loop hUC18 trivial
  have ho16 := ho16.loop hUC18 trivial
  have ho17 := ho17.loop hUC18 trivial
  have hB := hB.loop hUC18 trivial
  refine WL.pure rfl rfl rfl (PV.assign rfl) ?_
  refine WL.nilS ?_
  refine CW.seq ?_
  refine CW.reg ?_
  refine WL.pure rfl rfl rfl (PV.move rfl) ?_
  refine WL.op rfl (OpK.callR rfl T.cf63 rfl (c_laws_b10At (by first | assumption | exact Rd.up (by assumption) hB | exact Osl.rd (by assumption) | exact Osn.rdR (by assumption) | exact NL.rd (by assumption) | exact rdII (by assumption) (by assumption) | exact Inn.rd (by assumption) (by omega)) (by first | assumption | omega | (simp only [marks_len, marksB_len, marksR_len, sumL_marksS]; omega)) (by first | assumption | omega | (simp only [marks_len, marksB_len, marksR_len, sumL_marksS]; omega))) (fun w22 hXw22 => ?_))
  have hB := hB.trans hXw22
  have ho1 := ho1.up hXw22
  have hn2 := hn2.up hXw22
  have ho7 := ho7.up hXw22
  have ho9 := ho9.up hXw22
  have ho10 := ho10.up hXw22
  have ho11 := ho11.up hXw22
  have hn12 := hn12.up hXw22
  have ho13 := ho13.up hXw22
  have hn14 := hn14.up hXw22
  have ho16 := ho16.up hXw22
  have ho17 := ho17.up hXw22
  have ho20 := ho20.up hXw22
  refine WL.pure rfl rfl rfl (PV.assign rfl) ?_
  refine WL.nilS ?_
  refine CW.seq ?_
  refine CW.reg ?_
  refine WL.pure rfl rfl rfl (PV.move rfl) ?_
  refine WL.op rfl (OpK.callR rfl T.cf63 rfl (c_laws_b10At (by first | assumption | exact Rd.up (by assumption) hB | exact Osl.rd (by assumption) | exact Osn.rdR (by assumption) | exact NL.rd (by assumption) | exact rdII (by assumption) (by assumption) | exact Inn.rd (by assumption) (by omega)) (by first | assumption | omega | (simp only [marks_len, marksB_len, marksR_len, sumL_marksS]; omega)) (by first | assumption | omega | (simp only [marks_len, marksB_len, marksR_len, sumL_marksS]; omega))) (fun w23 hXw23 => ?_))
  have hB := hB.trans hXw23
  have ho1 := ho1.up hXw23
  have hn2 := hn2.up hXw23
  have ho7 := ho7.up hXw23
  have ho9 := ho9.up hXw23
  have ho10 := ho10.up hXw23
  have ho11 := ho11.up hXw23
  have hn12 := hn12.up hXw23
  have ho13 := ho13.up hXw23
  have hn14 := hn14.up hXw23
  have ho16 := ho16.up hXw23
  have ho17 := ho17.up hXw23
  have ho20 := ho20.up hXw23
  refine WL.pure rfl rfl rfl (PV.assign rfl) ?_
  refine WL.nilS ?_
  refine CW.seq ?_
  refine CW.reg ?_
  have hW19 := longB_mk hL14 (by omega) hm21.2
  refine WL.pure rfl rfl rfl (PV.move rfl) ?_
  refine WL.pure rfl rfl rfl (PV.move rfl) ?_
  refine WL.pure rfl rfl rfl (PV.move rfl) ?_
  refine WL.pure rfl rfl rfl (PV.move rfl) ?_
  refine WL.pure rfl rfl rfl (PV.move rfl) ?_
  refine WL.op rfl (OpK.call rfl T.cf82 rfl (c_impl_ShiftFeatures (by first | assumption | exact Rd.up (by assumption) hB | exact Osl.rd (by assumption) | exact Osn.rdR (by assumption) | exact NL.rd (by assumption) | exact rdII (by assumption) (by assumption) | exact Inn.rd (by assumption) (by omega)) (by first | assumption | exact Rd.up (by assumption) hB | exact Osl.rd (by assumption) | exact Osn.rdR (by assumption) | exact NL.rd (by assumption) | exact rdII (by assumption) (by assumption) | exact Inn.rd (by assumption) (by omega)) (by first | assumption | omega | (simp only [marks_len, marksB_len, marksR_len, sumL_marksS]; omega)) (by first | assumption | omega | (simp only [marks_len, marksB_len, marksR_len, sumL_marksS]; omega)) (by first | assumption | omega | (simp only [marks_len, marksB_len, marksR_len, sumL_marksS]; omega)) (by first | assumption | omega | (simp only [marks_len, marksB_len, marksR_len, sumL_marksS]; omega))) (fun rv10 w24 hR => ?_))
  obtain ⟨hXw24, v22, og22, rfl, ho22, hq22⟩ := hR
  have hl22 := Lo.up hq22 hB
  have hd1_22 := Dj.lo ho1.ltO hq22
  have hd2_22 := DI.fresh hn2 hq22
  have hd7_22 := Dj.lo ho7.ltO hq22
  have hd9_22 := Dj.lo ho9.ltO hq22
  have hd10_22 := Dj.lo ho10.ltO hq22
  have hd11_22 := Dj.lo ho11.ltO hq22
  have hd12_22 := DI.fresh hn12 hq22
  have hd13_22 := Dj.lo ho13.ltO hq22
  have hd14_22 := DI.fresh hn14 hq22
  have hd16_22 := Dj.lo ho16.ltO hq22
  have hd17_22 := Dj.lo ho17.ltO hq22
  have hd20_22 := Dj.lo ho20.ltO hq22
  have hB := hB.trans hXw24
  have ho1 := ho1.up hXw24
  have hn2 := hn2.up hXw24
  have ho7 := ho7.up hXw24
  have ho9 := ho9.up hXw24
  have ho10 := ho10.up hXw24
  have ho11 := ho11.up hXw24
  have hn12 := hn12.up hXw24
  have ho13 := ho13.up hXw24
  have hn14 := hn14.up hXw24
  have ho16 := ho16.up hXw24
  have ho17 := ho17.up hXw24
  have ho20 := ho20.up hXw24
  refine WL.pure rfl rfl rfl (PV.move rfl) ?_
  refine WL.pure rfl rfl rfl (PV.extract rfl rfl) ?_
  refine WL.pure rfl rfl rfl (PV.extract rfl rfl) ?_
  refine WL.pure rfl rfl rfl (PV.assign rfl) ?_
  refine WL.pure rfl rfl rfl (PV.assign rfl) ?_
  refine WL.nilS ?_
  refine CW.seq ?_
  refine CW.seq ?_
  refine CW.reg ?_
  refine WL.pure rfl rfl rfl (PV.move rfl) ?_
  refine WL.pure rfl rfl rfl (PV.not rfl) ?_
  refine WL.pure rfl rfl rfl (PV.move rfl) ?_
  refine WL.split (t := 169) rfl (fun hc6 => ?_) (fun hc6 => ?_)
  · skip
    try simp only [decide_eq_true_eq, decide_eq_false_iff_not, Bool.not_eq_true', Bool.not_eq_false', Bool.not_eq_eq_eq_not, Bool.not_true, Bool.not_false, Int.not_lt, Int.not_le, Classical.not_not, beq_iff_eq, beq_eq_false_iff_ne] at hc6
    exfalso; revert hc6; rw [hfd]; decide
  try simp only [decide_eq_true_eq, decide_eq_false_iff_not, Bool.not_eq_true', Bool.not_eq_false', Bool.not_eq_eq_eq_not, Bool.not_true, Bool.not_false, Int.not_lt, Int.not_le, Classical.not_not, beq_iff_eq, beq_eq_false_iff_ne] at hc6
  refine WL.pureG rfl rfl rfl rfl rfl (PV.move rfl) ?_
  refine WL.pureG rfl rfl rfl rfl rfl (PV.not rfl) ?_
  refine WL.pure rfl rfl rfl (PV.pickF rfl rfl) ?_
  refine WL.pure rfl rfl rfl (PV.move rfl) ?_
  refine WL.pureG rfl rfl rfl rfl rfl (PV.move rfl) ?_
  refine WL.pureG rfl rfl rfl rfl rfl (PV.not rfl) ?_
  refine WL.pure rfl rfl rfl (PV.pickF rfl rfl) ?_
  refine WL.pure rfl rfl rfl (PV.move rfl) ?_
  refine WL.pureG rfl rfl rfl rfl rfl (PV.move rfl) ?_
  refine WL.pureG rfl rfl rfl rfl rfl ((PV.lenOs rfl ho22 T.sl28)) ?_
  refine WL.pureG rfl rfl rfl rfl rfl (PV.move rfl) ?_
  refine WL.pureG rfl rfl rfl rfl rfl ((PV.lenOs rfl ho20 T.sl28)) ?_
  refine WL.pureG rfl rfl rfl rfl rfl (PV.neq rfl rfl) ?_
  refine WL.pure rfl rfl rfl (PV.pickF rfl rfl) ?_
  refine WL.nilS ?_
  refine CW.cond rfl (fun hc7 => ?_) (fun hc7 => ?_)
  · skip
    try simp only [decide_eq_true_eq, decide_eq_false_iff_not, Bool.not_eq_true', Bool.not_eq_false', Bool.not_eq_eq_eq_not, Bool.not_true, Bool.not_false, Int.not_lt, Int.not_le, Classical.not_not, beq_iff_eq, beq_eq_false_iff_ne] at hc7
    exfalso; revert hc7; simp
  try simp only [decide_eq_true_eq, decide_eq_false_iff_not, Bool.not_eq_true', Bool.not_eq_false', Bool.not_eq_eq_eq_not, Bool.not_true, Bool.not_false, Int.not_lt, Int.not_le, Classical.not_not, beq_iff_eq, beq_eq_false_iff_ne] at hc7
  refine CW.skipS ?_
  refine CW.seq ?_
  refine CW.seq ?_
  refine CW.reg ?_
  refine WL.pure rfl rfl rfl (PV.move rfl) ?_
  refine WL.pure rfl rfl rfl ((PV.lenOs rfl ho20 T.sl28)) ?_
  refine WL.pure rfl rfl rfl (PV.move rfl) ?_
  refine WL.nilS ?_
  refine CW.block ?_
  refine CW.loop (σk := [(20, _), (21, _), (22, _), (24, _), (25, _), (26, _), (27, _), (185, _)]) (fun ρ wz m => ∃ (k : Nat), ρ = [(186, .int .i64 (k : Nat))] ∧ m = ws19.length - k ∧ UpdL [] w24 wz ∧ (k ≤ ws19.length)) (ρ₀ := [(186, _)]) (m₀ := _) ⟨rfl, rfl, rfl, rfl, rfl, rfl, rfl, rfl, rfl, trivial⟩ ⟨0, rfl, rfl, (UpdL.refl _ _), (by first | omega | rfl | (simp; done) | assumption | (simp_all; done))⟩ ?_
  rintro _ wl2 _ ⟨k, rfl, rfl, hU1, hk⟩
  have ho1 := ho1.loop hU1 trivial
  have hn2 := hn2.loop hU1 trivial
  have ho7 := ho7.loop hU1 trivial
  have ho9 := ho9.loop hU1 trivial
  have ho10 := ho10.loop hU1 trivial
  have ho11 := ho11.loop hU1 trivial
  have hn12 := hn12.loop hU1 trivial
  have ho13 := ho13.loop hU1 trivial
  have hn14 := hn14.loop hU1 trivial
  have ho16 := ho16.loop hU1 trivial
  have ho17 := ho17.loop hU1 trivial
  have ho20 := ho20.loop hU1 trivial
  have ho22 := ho22.loop hU1 trivial
  have hB := hB.loop hU1 trivial
  refine CW.seq ?_
  refine CW.reg ?_
  refine WL.pure rfl rfl rfl (PV.lss rfl rfl) ?_
  refine WL.nilS ?_
  refine CW.seq ?_
  refine CW.cond rfl (fun hc8 => ?_) (fun hc8 => ?_)
  · skip
    try simp only [decide_eq_true_eq, decide_eq_false_iff_not, Bool.not_eq_true', Bool.not_eq_false', Bool.not_eq_eq_eq_not, Bool.not_true, Bool.not_false, Int.not_lt, Int.not_le, Classical.not_not, beq_iff_eq, beq_eq_false_iff_ne] at hc8
    refine CW.skipS ?_
    refine CW.seq ?_
    refine CW.block ?_
    refine CW.seq ?_
    refine CW.reg ?_
    refine WL.pure rfl rfl rfl (PV.move rfl) ?_
    refine WL.pure rfl rfl rfl (PV.assign rfl) ?_
    refine WL.nilS ?_
    refine CW.seq ?_
    refine CW.reg ?_
    have hxk := hm21.2 (ws19.getD k 0) (getD_mem (by omega))
    refine WL.pure rfl rfl rfl (PV.move rfl) ?_
    refine WL.pure rfl rfl rfl (PV.move rfl) ?_
    first
      | refine WL.atO (x := .tmp 189) (y := .tmp 190) (f := VI) (0) rfl rfl ho20 (by first | omega | (simp only [List.length_set]; omega) | (simp only [List.length_append, List.length_take, List.length_replicate, List.length_drop]; omega)) (fun p5 hpp5 hcp5 => ?_)
      | refine WL.atOZ (x := .tmp 189) (y := .tmp 190) (f := VI) (0) rfl rfl ho20 (by first | omega | (simp only [List.length_set]; omega) | (simp only [List.length_append, List.length_take, List.length_replicate, List.length_drop]; omega)) (fun p5 hpp5 hzp5 hcp5 => ?_)
    refine WL.pure rfl rfl rfl ((by first | exact PV.indexAddr hpp5 rfl rfl T.sl28 | exact PV.indexAddr hpp5 rfl (by rw [← hzp5]; rfl) T.sl28)) ?_
    refine WL.pure rfl rfl rfl ((by first | exact PV.load0 T.na2 rfl (by first | exact Cells.up (by assumption) hB | exact Bx.cells (by assumption) | assumption) (Ext.refl _) rfl | exact PV.load1 T.na2 rfl (by first | exact Cells.up (by assumption) hB | exact Bx.cells (by assumption) | assumption) (Ext.refl _) rfl)) ?_
    refine WL.pure rfl rfl rfl (PV.assign rfl) ?_
    refine WL.nilS ?_
    refine CW.seq ?_
    refine CW.seq ?_
    refine CW.reg ?_
    refine WL.pure rfl rfl rfl (PV.move rfl) ?_
    refine WL.pure rfl rfl rfl (PV.move rfl) ?_
    refine WL.pure rfl rfl rfl (PV.and rfl rfl) ?_
    refine WL.pure rfl rfl rfl (PV.move rfl) ?_
    refine WL.pure rfl rfl rfl (PV.eql rfl rfl) ?_
    refine WL.nilS ?_
    refine CW.cond rfl (fun hc9 => ?_) (fun hc9 => ?_)
    · skip
      try simp only [decide_eq_true_eq, decide_eq_false_iff_not, Bool.not_eq_true', Bool.not_eq_false', Bool.not_eq_eq_eq_not, Bool.not_true, Bool.not_false, Int.not_lt, Int.not_le, Classical.not_not, beq_iff_eq, beq_eq_false_iff_ne] at hc9
      refine CW.reg ?_
      refine WL.pure rfl rfl rfl (PV.move rfl) ?_
      refine WL.pure rfl rfl rfl (PV.move rfl) ?_
      refine WL.pure rfl rfl rfl (PV.or rfl rfl) ?_
      refine WL.pure rfl rfl rfl (PV.move rfl) ?_
      refine WL.pure rfl rfl rfl (PV.andNot rfl rfl) ?_
      refine WL.pure rfl rfl rfl (PV.assign rfl) ?_
      refine WL.nilS ?_
      refine CW.seq ?_
      refine CW.reg ?_
      refine WL.pure rfl rfl rfl (PV.move rfl) ?_
      refine WL.pure rfl rfl rfl (PV.move rfl) ?_
      first
        | refine WL.atO (x := .tmp 203) (y := .tmp 204) (f := VI) (0) rfl rfl ho22 (by first | omega | (simp only [List.length_set]; omega) | (simp only [List.length_append, List.length_take, List.length_replicate, List.length_drop]; omega)) (fun p6 hpp6 hcp6 => ?_)
        | refine WL.atOZ (x := .tmp 203) (y := .tmp 204) (f := VI) (0) rfl rfl ho22 (by first | omega | (simp only [List.length_set]; omega) | (simp only [List.length_append, List.length_take, List.length_replicate, List.length_drop]; omega)) (fun p6 hpp6 hzp6 hcp6 => ?_)
      refine WL.pure rfl rfl rfl ((by first | exact PV.indexAddr hpp6 rfl rfl T.sl28 | exact PV.indexAddr hpp6 rfl (by rw [← hzp6]; rfl) T.sl28)) ?_
      refine WL.pure rfl rfl rfl ((by first | exact PV.load0 T.na2 rfl (by first | exact Cells.up (by assumption) hB | exact Bx.cells (by assumption) | assumption) (Ext.refl _) rfl | exact PV.load1 T.na2 rfl (by first | exact Cells.up (by assumption) hB | exact Bx.cells (by assumption) | assumption) (Ext.refl _) rfl)) ?_
      refine WL.pure rfl rfl rfl (PV.move rfl) ?_
      refine WL.pure rfl rfl rfl (PV.neq rfl rfl) ?_
      refine WL.nilS ?_
      refine CW.cond rfl (fun hc10 => ?_) (fun hc10 => ?_)
      · skip
        try simp only [decide_eq_true_eq, decide_eq_false_iff_not, Bool.not_eq_true', Bool.not_eq_false', Bool.not_eq_eq_eq_not, Bool.not_true, Bool.not_false, Int.not_lt, Int.not_le, Classical.not_not, beq_iff_eq, beq_eq_false_iff_ne] at hc10
        exact absurd (by first | (rw [mp_getD (by omega)]; exact sf_t (by assumption)) | (rw [mp_getD (by omega)]; exact sf_f (by assumption))) hc10
      try simp only [decide_eq_true_eq, decide_eq_false_iff_not, Bool.not_eq_true', Bool.not_eq_false', Bool.not_eq_eq_eq_not, Bool.not_true, Bool.not_false, Int.not_lt, Int.not_le, Classical.not_not, beq_iff_eq, beq_eq_false_iff_ne] at hc10
      refine CW.skip ?_
      refine NQ.block ?_
      refine NQ.then ?_
      refine CW.reg ?_
      refine WL.pure rfl rfl rfl (PV.add rfl rfl (by constructor <;> omega)) ?_
      refine WL.pure rfl rfl rfl (PV.move rfl) ?_
      refine WL.nil ?_
      refine NQ.next (ρ := [(186, _)]) ⟨rfl, rfl, rfl, rfl, rfl, rfl, rfl, rfl, rfl, trivial⟩ ?_
      exact ⟨_, ⟨k + 1, rfl, rfl, hU1, (by first | omega | assumption | (simp_all; done) | (simp_all; omega))⟩, by omega⟩
    try simp only [decide_eq_true_eq, decide_eq_false_iff_not, Bool.not_eq_true', Bool.not_eq_false', Bool.not_eq_eq_eq_not, Bool.not_true, Bool.not_false, Int.not_lt, Int.not_le, Classical.not_not, beq_iff_eq, beq_eq_false_iff_ne] at hc9
    refine CW.skipS ?_
    refine CW.seq ?_
    refine CW.reg ?_
    refine WL.pure rfl rfl rfl (PV.move rfl) ?_
    refine WL.pure rfl rfl rfl (PV.move rfl) ?_
    first
      | refine WL.atO (x := .tmp 203) (y := .tmp 204) (f := VI) (0) rfl rfl ho22 (by first | omega | (simp only [List.length_set]; omega) | (simp only [List.length_append, List.length_take, List.length_replicate, List.length_drop]; omega)) (fun p7 hpp7 hcp7 => ?_)
      | refine WL.atOZ (x := .tmp 203) (y := .tmp 204) (f := VI) (0) rfl rfl ho22 (by first | omega | (simp only [List.length_set]; omega) | (simp only [List.length_append, List.length_take, List.length_replicate, List.length_drop]; omega)) (fun p7 hpp7 hzp7 hcp7 => ?_)
    refine WL.pure rfl rfl rfl ((by first | exact PV.indexAddr hpp7 rfl rfl T.sl28 | exact PV.indexAddr hpp7 rfl (by rw [← hzp7]; rfl) T.sl28)) ?_
    refine WL.pure rfl rfl rfl ((by first | exact PV.load0 T.na2 rfl (by first | exact Cells.up (by assumption) hB | exact Bx.cells (by assumption) | assumption) (Ext.refl _) rfl | exact PV.load1 T.na2 rfl (by first | exact Cells.up (by assumption) hB | exact Bx.cells (by assumption) | assumption) (Ext.refl _) rfl)) ?_
    refine WL.pure rfl rfl rfl (PV.move rfl) ?_
    refine WL.pure rfl rfl rfl (PV.neq rfl rfl) ?_
    refine WL.nilS ?_
    refine CW.cond rfl (fun hc11 => ?_) (fun hc11 => ?_)
    · skip
      try simp only [decide_eq_true_eq, decide_eq_false_iff_not, Bool.not_eq_true', Bool.not_eq_false', Bool.not_eq_eq_eq_not, Bool.not_true, Bool.not_false, Int.not_lt, Int.not_le, Classical.not_not, beq_iff_eq, beq_eq_false_iff_ne] at hc11
      exact absurd (by first | (rw [mp_getD (by omega)]; exact sf_t (by assumption)) | (rw [mp_getD (by omega)]; exact sf_f (by assumption))) hc11
    try simp only [decide_eq_true_eq, decide_eq_false_iff_not, Bool.not_eq_true', Bool.not_eq_false', Bool.not_eq_eq_eq_not, Bool.not_true, Bool.not_false, Int.not_lt, Int.not_le, Classical.not_not, beq_iff_eq, beq_eq_false_iff_ne] at hc11
    refine CW.skip ?_
    refine NQ.block ?_
    refine NQ.then ?_
    refine CW.reg ?_
    refine WL.pure rfl rfl rfl (PV.add rfl rfl (by constructor <;> omega)) ?_
    refine WL.pure rfl rfl rfl (PV.move rfl) ?_
    refine WL.nil ?_
    refine NQ.next (ρ := [(186, _)]) ⟨rfl, rfl, rfl, rfl, rfl, rfl, rfl, rfl, rfl, trivial⟩ ?_
    exact ⟨_, ⟨k + 1, rfl, rfl, hU1, (by first | omega | assumption | (simp_all; done) | (simp_all; omega))⟩, by omega⟩
  try simp only [decide_eq_true_eq, decide_eq_false_iff_not, Bool.not_eq_true', Bool.not_eq_false', Bool.not_eq_eq_eq_not, Bool.not_true, Bool.not_false, Int.not_lt, Int.not_le, Classical.not_not, beq_iff_eq, beq_eq_false_iff_ne] at hc8
  refine CW.exit ?_
  refine XQ.then ?_
  refine XQ.then ?_
  refine XQ.here ?_
  refine NQ.then ?_
  refine CW.seq ?_
  refine CW.reg ?_
  refine WL.pure rfl rfl rfl (PV.assign rfl) ?_
  refine WL.nilS ?_
  refine CW.seq ?_
  refine CW.seq ?_
  refine CW.reg ?_
  refine WL.pure rfl rfl rfl (PV.assign rfl) ?_
  refine WL.nilS ?_
  refine CW.block ?_
  refine CW.loop (σk := [(20, _), (21, _), (22, _)]) (fun ρ wz m => ∃ (k : Nat), ρ = [(31, .int .i64 ((withL (atN ys (2 : Int).toNat 4) (atN ys (3 : Int).toNat 4) k).length : Nat)), (32, .int .i64 (k : Nat))] ∧ m = 4 - k ∧ UpdL [] wl2 wz ∧ (k ≤ 4)) (ρ₀ := [(31, _), (32, _)]) (m₀ := _) ⟨rfl, rfl, rfl, rfl, rfl, trivial⟩ ⟨0, rfl, rfl, (UpdL.refl _ _), (by first | omega | rfl | (simp; done) | assumption | (simp_all; done))⟩ ?_
  rintro _ wl3 _ ⟨k, rfl, rfl, hU2, hk⟩
  have ho1 := ho1.loop hU2 trivial
  have hn2 := hn2.loop hU2 trivial
  have ho7 := ho7.loop hU2 trivial
  have ho9 := ho9.loop hU2 trivial
  have ho10 := ho10.loop hU2 trivial
  have ho11 := ho11.loop hU2 trivial
  have hn12 := hn12.loop hU2 trivial
  have ho13 := ho13.loop hU2 trivial
  have hn14 := hn14.loop hU2 trivial
  have ho16 := ho16.loop hU2 trivial
  have ho17 := ho17.loop hU2 trivial
  have ho20 := ho20.loop hU2 trivial
  have ho22 := ho22.loop hU2 trivial
  have hB := hB.loop hU2 trivial
  have hwl := with_len (atN ys (2 : Int).toNat 4) (atN ys (3 : Int).toNat 4) k
  refine CW.seq ?_
  refine CW.seq ?_
  refine CW.reg ?_
  refine WL.pure rfl rfl rfl (PV.move rfl) ?_
  refine WL.pure rfl rfl rfl (PV.lss rfl rfl) ?_
  refine WL.nilS ?_
  refine CW.cond rfl (fun hc12 => ?_) (fun hc12 => ?_)
  · skip
    try simp only [decide_eq_true_eq, decide_eq_false_iff_not, Bool.not_eq_true', Bool.not_eq_false', Bool.not_eq_eq_eq_not, Bool.not_true, Bool.not_false, Int.not_lt, Int.not_le, Classical.not_not, beq_iff_eq, beq_eq_false_iff_ne] at hc12
    refine CW.skipS ?_
    refine CW.seq ?_
    refine CW.block ?_
    refine CW.seq ?_
    refine CW.seq ?_
    refine CW.reg ?_
    refine WL.pure rfl rfl rfl (PV.move rfl) ?_
    refine WL.pure rfl rfl rfl (PV.move rfl) ?_
    refine WL.pure rfl rfl rfl (PV.and rfl rfl) ?_
    refine WL.pure rfl rfl rfl (PV.move rfl) ?_
    refine WL.pure rfl rfl rfl (PV.neq rfl rfl) ?_
    refine WL.pure rfl rfl rfl (PV.move rfl) ?_
    refine WL.split (t := 219) rfl (fun hc13 => ?_) (fun hc13 => ?_)
    · skip
      try simp only [decide_eq_true_eq, decide_eq_false_iff_not, Bool.not_eq_true', Bool.not_eq_false', Bool.not_eq_eq_eq_not, Bool.not_true, Bool.not_false, Int.not_lt, Int.not_le, Classical.not_not, beq_iff_eq, beq_eq_false_iff_ne] at hc13
      refine WL.skip rfl rfl rfl rfl rfl ?_
      refine WL.skip rfl rfl rfl rfl rfl ?_
      refine WL.skip rfl rfl rfl rfl rfl ?_
      refine WL.skip rfl rfl rfl rfl rfl ?_
      refine WL.pure rfl rfl rfl (PV.pickT rfl rfl) ?_
      refine WL.nilS ?_
      refine CW.condT rfl ?_
      refine CW.exit ?_
      refine XQ.then ?_
      refine XQ.here ?_
      refine NQ.then ?_
      refine CW.reg ?_
      refine WL.pure rfl rfl rfl (PV.move rfl) ?_
      refine WL.pure rfl rfl rfl (PV.add rfl rfl (by constructor <;> omega)) ?_
      refine WL.pure rfl rfl rfl (PV.assign rfl) ?_
      refine WL.nil ?_
      refine NQ.next (ρ := [(31, _), (32, _)]) ⟨rfl, rfl, rfl, rfl, rfl, trivial⟩ ?_
      exact ⟨_, ⟨k + 1, (by first | (rw [← with_s2 (wf_m1 (by assumption))]; rfl) | (rw [← with_s2 (wf_m2 (by assumption))]; rfl) | (rw [← with_s1 (wf_m (by assumption) (by assumption))]; rfl)), rfl, hU2, (by first | omega | assumption | (simp_all; done) | (simp_all; omega))⟩, by omega⟩
    try simp only [decide_eq_true_eq, decide_eq_false_iff_not, Bool.not_eq_true', Bool.not_eq_false', Bool.not_eq_eq_eq_not, Bool.not_true, Bool.not_false, Int.not_lt, Int.not_le, Classical.not_not, beq_iff_eq, beq_eq_false_iff_ne] at hc13
    refine WL.pureG rfl rfl rfl rfl rfl (PV.move rfl) ?_
    refine WL.pureG rfl rfl rfl rfl rfl (PV.move rfl) ?_
    refine WL.pureG rfl rfl rfl rfl rfl (PV.and rfl rfl) ?_
    refine WL.pureG rfl rfl rfl rfl rfl (PV.neq rfl rfl) ?_
    refine WL.pure rfl rfl rfl (PV.pickF rfl rfl) ?_
    refine WL.nilS ?_
    refine CW.cond rfl (fun hc14 => ?_) (fun hc14 => ?_)
    · skip
      try simp only [decide_eq_true_eq, decide_eq_false_iff_not, Bool.not_eq_true', Bool.not_eq_false', Bool.not_eq_eq_eq_not, Bool.not_true, Bool.not_false, Int.not_lt, Int.not_le, Classical.not_not, beq_iff_eq, beq_eq_false_iff_ne] at hc14
      refine CW.exit ?_
      refine XQ.then ?_
      refine XQ.here ?_
      refine NQ.then ?_
      refine CW.reg ?_
      refine WL.pure rfl rfl rfl (PV.move rfl) ?_
      refine WL.pure rfl rfl rfl (PV.add rfl rfl (by constructor <;> omega)) ?_
      refine WL.pure rfl rfl rfl (PV.assign rfl) ?_
      refine WL.nil ?_
      refine NQ.next (ρ := [(31, _), (32, _)]) ⟨rfl, rfl, rfl, rfl, rfl, trivial⟩ ?_
      exact ⟨_, ⟨k + 1, (by first | (rw [← with_s2 (wf_m1 (by assumption))]; rfl) | (rw [← with_s2 (wf_m2 (by assumption))]; rfl) | (rw [← with_s1 (wf_m (by assumption) (by assumption))]; rfl)), rfl, hU2, (by first | omega | assumption | (simp_all; done) | (simp_all; omega))⟩, by omega⟩
    try simp only [decide_eq_true_eq, decide_eq_false_iff_not, Bool.not_eq_true', Bool.not_eq_false', Bool.not_eq_eq_eq_not, Bool.not_true, Bool.not_false, Int.not_lt, Int.not_le, Classical.not_not, beq_iff_eq, beq_eq_false_iff_ne] at hc14
    refine CW.skipS ?_
    refine CW.seq ?_
    refine CW.seq ?_
    refine CW.reg ?_
    refine WL.pure rfl rfl rfl (PV.move rfl) ?_
    refine WL.pure rfl rfl rfl (PV.move rfl) ?_
    refine WL.pure rfl rfl rfl ((PV.lenOs rfl ho17 T.sl28)) ?_
    refine WL.pure rfl rfl rfl (PV.geq rfl rfl) ?_
    refine WL.pure rfl rfl rfl (PV.move rfl) ?_
    refine WL.split (t := 229) rfl (fun hc15 => ?_) (fun hc15 => ?_)
    · skip
      try simp only [decide_eq_true_eq, decide_eq_false_iff_not, Bool.not_eq_true', Bool.not_eq_false', Bool.not_eq_eq_eq_not, Bool.not_true, Bool.not_false, Int.not_lt, Int.not_le, Classical.not_not, beq_iff_eq, beq_eq_false_iff_ne] at hc15
      exfalso; have h9 := (with_at (k := k) (m := 4) (by omega) (wf_m (by assumption) (by assumption))).1; omega
    try simp only [decide_eq_true_eq, decide_eq_false_iff_not, Bool.not_eq_true', Bool.not_eq_false', Bool.not_eq_eq_eq_not, Bool.not_true, Bool.not_false, Int.not_lt, Int.not_le, Classical.not_not, beq_iff_eq, beq_eq_false_iff_ne] at hc15
    have hwa := with_at (k := k) (m := 4) (by omega) (wf_m (n := (atN ys (2 : Int).toNat 4)) (b := (atN ys (3 : Int).toNat 4)) (by assumption) (by assumption))
    refine WL.pureG rfl rfl rfl rfl rfl (PV.move rfl) ?_
    refine WL.pureG rfl rfl rfl rfl rfl (PV.move rfl) ?_
    first
      | refine WL.atO (x := .tmp 230) (y := .tmp 231) (f := VI) (0) rfl rfl ho17 (by first | omega | (simp only [List.length_set]; omega) | (simp only [List.length_append, List.length_take, List.length_replicate, List.length_drop]; omega)) (fun p8 hpp8 hcp8 => ?_)
      | refine WL.atOZ (x := .tmp 230) (y := .tmp 231) (f := VI) (0) rfl rfl ho17 (by first | omega | (simp only [List.length_set]; omega) | (simp only [List.length_append, List.length_take, List.length_replicate, List.length_drop]; omega)) (fun p8 hpp8 hzp8 hcp8 => ?_)
    refine WL.pureG rfl rfl rfl rfl rfl ((by first | exact PV.indexAddr hpp8 rfl rfl T.sl28 | exact PV.indexAddr hpp8 rfl (by rw [← hzp8]; rfl) T.sl28)) ?_
    refine WL.pureG rfl rfl rfl rfl rfl ((by first | exact PV.load0 T.na2 rfl (by first | exact Cells.up (by assumption) hB | exact Bx.cells (by assumption) | assumption) (Ext.refl _) rfl | exact PV.load1 T.na2 rfl (by first | exact Cells.up (by assumption) hB | exact Bx.cells (by assumption) | assumption) (Ext.refl _) rfl)) ?_
    refine WL.pureG rfl rfl rfl rfl rfl (PV.move rfl) ?_
    refine WL.pureG rfl rfl rfl rfl rfl (PV.neq rfl rfl) ?_
    refine WL.pure rfl rfl rfl (PV.pickF rfl rfl) ?_
    refine WL.nilS ?_
    refine CW.cond rfl (fun hc16 => ?_) (fun hc16 => ?_)
    · skip
      try simp only [decide_eq_true_eq, decide_eq_false_iff_not, Bool.not_eq_true', Bool.not_eq_false', Bool.not_eq_eq_eq_not, Bool.not_true, Bool.not_false, Int.not_lt, Int.not_le, Classical.not_not, beq_iff_eq, beq_eq_false_iff_ne] at hc16
      exfalso; exact hc16 (by first | exact hwa.2 | simpa using hwa.2)
    try simp only [decide_eq_true_eq, decide_eq_false_iff_not, Bool.not_eq_true', Bool.not_eq_false', Bool.not_eq_eq_eq_not, Bool.not_true, Bool.not_false, Int.not_lt, Int.not_le, Classical.not_not, beq_iff_eq, beq_eq_false_iff_ne] at hc16
    refine CW.skipS ?_
    refine CW.reg ?_
    refine WL.pure rfl rfl rfl (PV.move rfl) ?_
    refine WL.pure rfl rfl rfl (PV.add rfl rfl (by constructor <;> omega)) ?_
    refine WL.pure rfl rfl rfl (PV.assign rfl) ?_
    refine WL.nil ?_
    refine NQ.block ?_
    refine NQ.then ?_
    refine CW.reg ?_
    refine WL.pure rfl rfl rfl (PV.move rfl) ?_
    refine WL.pure rfl rfl rfl (PV.add rfl rfl (by constructor <;> omega)) ?_
    refine WL.pure rfl rfl rfl (PV.assign rfl) ?_
    refine WL.nil ?_
    refine NQ.next (ρ := [(31, _), (32, _)]) ⟨rfl, rfl, rfl, rfl, rfl, trivial⟩ ?_
    exact ⟨_, ⟨k + 1, (by first | (rw [← with_s2 (wf_m1 (by assumption))]; rfl) | (rw [← with_s2 (wf_m2 (by assumption))]; rfl) | (rw [← with_s1 (wf_m (by assumption) (by assumption))]; rfl)), rfl, hU2, (by first | omega | assumption | (simp_all; done) | (simp_all; omega))⟩, by omega⟩
  try simp only [decide_eq_true_eq, decide_eq_false_iff_not, Bool.not_eq_true', Bool.not_eq_false', Bool.not_eq_eq_eq_not, Bool.not_true, Bool.not_false, Int.not_lt, Int.not_le, Classical.not_not, beq_iff_eq, beq_eq_false_iff_ne] at hc12
  refine CW.exit ?_
  refine XQ.then ?_
  refine XQ.then ?_
  refine XQ.here ?_
  refine NQ.then ?_
  refine CW.seq ?_
  refine CW.reg ?_
  refine WL.pure rfl rfl rfl (PV.move rfl) ?_
  refine WL.pure rfl rfl rfl (PV.move rfl) ?_
  refine WL.pure rfl rfl rfl ((PV.lenOs rfl ho17 T.sl28)) ?_
  refine WL.pure rfl rfl rfl (PV.eql rfl rfl) ?_
  refine WL.pure rfl rfl rfl (PV.assign rfl) ?_
  refine WL.nilS ?_
  refine CW.ret ?_
  refine RQ.r1 rfl ?_
  refine ⟨?_, hB⟩
  (obtain rfl : k = 4 := (by omega)); first | rfl | exact bT rfl | simp

end Go.Proofs.Ythemmoceomdccaa
