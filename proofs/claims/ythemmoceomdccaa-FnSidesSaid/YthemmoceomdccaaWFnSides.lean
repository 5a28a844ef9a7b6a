/- Walks of the functions that the law FnSides reaches: each says what its function computes. No condition. -/
import Derived.Test.YthemmoceomdccaaProg
import Derived.Test.YthemmoceomdccaaLibM
import Derived.Test.YthemmoceomdccaaPlA
import Derived.Test.YthemmoceomdccaaPlG
import Derived.Test.YthemmoceomdccaaPlS
import Derived.Test.YthemmoceomdccaaLibG2
import Derived.Test.YthemmoceomdccaaPlT
import Derived.Test.YthemmoceomdccaaLibMp
import Derived.Test.YthemmoceomdccaaPlRd
import Derived.Test.YthemmoceomdccaaLibV
import Derived.Test.YthemmoceomdccaaLibW
import Derived.Test.YthemmoceomdccaaPlI2
import Derived.Test.YthemmoceomdccaaPlDq
import Derived.Test.YthemmoceomdccaaPlSd
import Derived.Test.YthemmoceomdccaaPlSe
import Derived.Test.YthemmoceomdccaaWFnSidesf
namespace Go.Proofs.Ythemmoceomdccaa
open Go Go.WX Go.Proofs
set_option linter.unusedSimpArgs false
set_option linter.unusedVariables false

theorem c_impl_OutputsOf_y {w : World} {a0 : Int} {a1 : Int} {va2 : Value} {xa2 : List R4} {va3 : Value} {xa3 : List Bool} {vi : Value} {ins : List Int} {mo : Int} (ha2 : Rd ER w va2 xa2) (ha3 : Rd EB w va3 xa3) (hi : Rd EI w vi ins) (hV : outB a0 a1 xa2 xa3 ins mo = true) : Calls Try.prog 69 #[.agg #[.int .i64 a0, .int .i64 a1, va2, va3], vi, .int .i64 mo] w (Ret1 (fun v w' => Ext w w' ∧ ∃ u og_u vs_u os_u, v = .tuple #[u, .bool true] ∧ Osl VV w' og_u u vs_u ∧ Lo w og_u ∧ Inn w' os_u vs_u (outL xa2 xa3 ins a1 mo) ∧ LoI w os_u ∧ DI os_u og_u)) := by
  have h := c_impl_OutputsOf ha2 ha3 hi (a0 := a0) (a1 := a1) (mo := mo)
  rw [hV] at h; exact h
theorem c_spec_OutputsOf_y {w : World} {a0 : Int} {a1 : Int} {va2 : Value} {xa2 : List R4} {va3 : Value} {xa3 : List Bool} {vi : Value} {ins : List Int} {mo : Int} (ha2 : Rd ER w va2 xa2) (ha3 : Rd EB w va3 xa3) (hi : Rd EI w vi ins) (hV : outB a0 a1 xa2 xa3 ins mo = true) : Calls Try.prog 70 #[.agg #[.int .i64 a0, .int .i64 a1, va2, va3], vi, .int .i64 mo] w (Ret1 (fun v w' => Ext w w' ∧ ∃ u og_u vs_u os_u, v = .tuple #[u, .bool true] ∧ Osl VV w' og_u u vs_u ∧ Lo w og_u ∧ Inn w' os_u vs_u (outL xa2 xa3 ins a1 mo) ∧ LoI w os_u ∧ DI os_u og_u)) := by
  have h := c_spec_OutputsOf ha2 ha3 hi (a0 := a0) (a1 := a1) (mo := mo)
  rw [hV] at h; exact h
theorem c_impl_SameSided_y {w : World} {a0 : Int} {a1 : Int} {va2 : Value} {xa2 : List R4} {va3 : Value} {xa3 : List Bool} {b0 : Int} {b1 : Int} {vb2 : Value} {xb2 : List R4} {vb3 : Value} {xb3 : List Bool}  (ha2 : Rd ER w va2 xa2) (ha3 : Rd EB w va3 xa3) (hb2 : Rd ER w vb2 xb2) (hb3 : Rd EB w vb3 xb3) (hV : a0 = b0 ∧ a1 = b1 ∧ xa2 = xb2 ∧ xa3 = xb3) : Calls Try.prog 72 #[.agg #[.int .i64 a0, .int .i64 a1, va2, va3], .agg #[.int .i64 b0, .int .i64 b1, vb2, vb3]] w (Ret1 (RQt (.bool true) w)) := by
  have h := c_impl_SameSided ha2 ha3 hb2 hb3 (a0 := a0) (a1 := a1) (b0 := b0) (b1 := b1)
  rw [decide_eq_true hV] at h; exact h
theorem c_impl_ValidSided_y {w : World} {a0 : Int} {a1 : Int} {va2 : Value} {xa2 : List R4} {va3 : Value} {xa3 : List Bool}  (ha2 : Rd ER w va2 xa2) (ha3 : Rd EB w va3 xa3) (hV : sidedV a0 a1 xa2 xa3) : Calls Try.prog 71 #[.agg #[.int .i64 a0, .int .i64 a1, va2, va3]] w (Ret1 (RQt (.bool true) w)) := by
  have h := c_impl_ValidSided ha2 ha3 (a0 := a0) (a1 := a1)
  rw [decide_eq_true hV] at h; exact h
theorem c_impl_ReadsPair_y {w : World} {a0 : Int} {a1 : Int} {va2 : Value} {xa2 : List R4} {va3 : Value} {xa3 : List Bool} {vi vo : Value} {ins outs : List Int}  (ha2 : Rd ER w va2 xa2) (ha3 : Rd EB w va3 xa3) (hi : Rd EI w vi ins) (ho : Rd EI w vo outs) (hv : sidedV a0 a1 xa2 xa3) (hw1 : isWordB ins a1 = true) (hw2 : isWordB outs a1 = true) (hV : rdB xa2 ins outs xa3 = true) : Calls Try.prog 74 #[.agg #[.int .i64 a0, .int .i64 a1, va2, va3], vi, vo] w (Ret1 (RQt (.tuple #[.bool true, .bool true]) w)) := by
  have h := c_impl_ReadsPair ha2 ha3 hi ho hv hw1 hw2 (a0 := a0) (a1 := a1)
  rw [hV] at h; exact h
theorem c_laws_b10Ints_y {w : World} {va vb : Value} {xs ys : List Int} (ha : Rd EI w va xs) (hb : Rd EI w vb ys) (hV : xs = ys) : Calls Try.prog 75 #[va, vb] w (Ret1 (RQt (.bool true) w)) := by
  have h := c_laws_b10Ints ha hb
  rw [decide_eq_true hV] at h; exact h
set_option maxHeartbeats 8000000 in
theorem c_laws_FnSides {w : World} {va vb : Value} {xs ys : List Int} (ha : Rd EU8 w va xs) (hb : Rd EU8 w vb ys) (hg : ∀ x ∈ xs, 0 ≤ x ∧ x ≤ 255) (hgb : ∀ x ∈ ys, 0 ≤ x ∧ x ≤ 255) : Calls Try.prog 6 #[va, vb] w (Ret1 (RQt (.bool true) w)) := by
  have hB : Ext w w := Ext.refl w
  have hla := ha.leI; have hlb := hb.leI; have hr0 := atN_rng (i := (0 : Int).toNat) (n := 4) hgb (by decide); have hL12 : (1 : Int) ≤ 2 ∧ (2 : Int) ≤ 4 := (by decide)
  refine callsOf (vs := [_, _]) Try.func6 rfl Try.ntmps6 rfl rfl ?_
  refine CW.seq ?_
  refine CW.reg ?_
  refine WL.asg rfl rfl ?_
  refine WL.nilS ?_
  refine CW.seq ?_
  refine CW.seq ?_
  refine CW.reg ?_
  refine WL.mv rfl rfl ?_
  refine WL.mv rfl rfl ?_
  refine WL.op rfl (OpK.callR rfl T.cf60 rfl (c_laws_b10Long (by first | assumption | exact Rd.up (by assumption) hB | exact Osl.rd (by assumption) | exact Osn.rdR (by assumption) | exact NL.rd (by assumption) | exact rdII (by assumption) (by assumption) | exact Inn.rd (by assumption) (by omega)) (by first | assumption | exact Rd.up (by assumption) hB | exact Osl.rd (by assumption) | exact Osn.rdR (by assumption) | exact NL.rd (by assumption) | exact rdII (by assumption) (by assumption) | exact Inn.rd (by assumption) (by omega))) (fun w1 hXw1 => ?_))
  have hB := hB.trans hXw1
  refine WL.nilS ?_
  refine CW.cond rfl (fun hc1 => ?_) (fun hc1 => ?_)
  · skip
    try simp only [nq] at hc1
    refine CW.seq ?_
    refine CW.reg ?_
    refine WL.asg rfl rfl ?_
    refine WL.nilS ?_
    refine CW.ret ?_
    refine RQ.then ?_
    refine RQ.r1 rfl ?_
    refine ⟨?_, hB⟩
    first | rfl | (exfalso; revert hc1; simp; done) | (exfalso; revert hc1; simp; omega) | (exfalso; omega) | first | rfl | exact bT (by omega) | exact bF (by omega) | exact bD (by omega) | exact iE (by omega) | (simp_all; done) | (simp_all; omega) | (simp_all; intros; omega)
  try simp only [nq] at hc1
  refine CW.skipS ?_
  refine CW.seq ?_
  refine CW.reg ?_
  refine WL.mv rfl rfl ?_
  refine WL.op rfl (OpK.call rfl T.cf61 rfl (c_spec_B10Sided hB (by first | assumption | exact Rd.up (by assumption) hB | exact Osl.rd (by assumption) | exact Osn.rdR (by assumption) | exact NL.rd (by assumption) | exact rdII (by assumption) (by assumption) | exact Inn.rd (by assumption) (by omega)) (by first | assumption | omega | (simp only [marks_len, marksB_len, marksR_len, sumL_marksS]; omega))) (fun rv1 w2 hR => ?_))
  obtain ⟨hUC1, S2, rs3, es4, v5, og5, v6, og6, rfl, hm7, hm8, ho5, hq5, ho6, hq6, hd5_6⟩ := hR
  have hl5 := Lo.up hq5 hB
  have hl6 := Lo.up hq6 hB
  have hB := hB.loop hUC1 trivial
  refine WL.op rfl (OpK.alloc rfl T.zv88 rfl (fun b9 w3 hXw3 hb9 hge9 => ?_))
  have hl9 := Lo.new hB hge9
  have hd5_9 := Dj.new ho5.ltO hge9
  have hd6_9 := Dj.new ho6.ltO hge9
  have hB := hB.trans hXw3
  have ho5 := ho5.up hXw3
  have ho6 := ho6.up hXw3
  refine WL.op rfl (OpK.storeA T.sz88 rfl rfl rfl rfl (by simp [Value.oneCell'] <;> first | done | (repeat' apply And.intro) <;> first | rfl | exact Inn.one1 (by assumption) (by omega) | exact Osl.oneCell (by assumption) | exact Osn.oneCell (by assumption) | exact Rd.oneCell (by assumption) | exact Rd.oneCell (NL.rd (by assumption)) | assumption) hb9 (fun w4 hXw4 hb9 => ?_))
  have hB := hB.updL hXw4 hl9
  have ho5 := ho5.updD hXw4 hd5_9
  have ho6 := ho6.updD hXw4 hd6_9
  refine WL.nilS ?_
  refine CW.seq ?_
  refine CW.reg ?_
  refine WL.mv rfl rfl ?_
  refine WL.op rfl (OpK.call rfl T.cf61 rfl (c_spec_B10Sided hB (by first | assumption | exact Rd.up (by assumption) hB | exact Osl.rd (by assumption) | exact Osn.rdR (by assumption) | exact NL.rd (by assumption) | exact rdII (by assumption) (by assumption) | exact Inn.rd (by assumption) (by omega)) (by first | assumption | omega | (simp only [marks_len, marksB_len, marksR_len, sumL_marksS]; omega))) (fun rv2 w5 hR => ?_))
  obtain ⟨hUC10, S11, rs12, es13, v14, og14, v15, og15, rfl, hm16, hm17, ho14, hq14, ho15, hq15, hd14_15⟩ := hR
  have hl14 := Lo.up hq14 hB
  have hd5_14 := Dj.lo ho5.ltO hq14
  have hd6_14 := Dj.lo ho6.ltO hq14
  have hd9_14 := Dj.lo hb9.ltO hq14
  have hl15 := Lo.up hq15 hB
  have hd5_15 := Dj.lo ho5.ltO hq15
  have hd6_15 := Dj.lo ho6.ltO hq15
  have hd9_15 := Dj.lo hb9.ltO hq15
  have ho5 := ho5.loop hUC10 trivial
  have ho6 := ho6.loop hUC10 trivial
  have hb9 := hb9.loop hUC10 trivial
  have hB := hB.loop hUC10 trivial
  refine WL.op rfl (OpK.alloc rfl T.zv88 rfl (fun b18 w6 hXw6 hb18 hge18 => ?_))
  have hl18 := Lo.new hB hge18
  have hd5_18 := Dj.new ho5.ltO hge18
  have hd6_18 := Dj.new ho6.ltO hge18
  have hd9_18 := Dj.new hb9.ltO hge18
  have hd14_18 := Dj.new ho14.ltO hge18
  have hd15_18 := Dj.new ho15.ltO hge18
  have hB := hB.trans hXw6
  have ho5 := ho5.up hXw6
  have ho6 := ho6.up hXw6
  have hb9 := hb9.up hXw6
  have ho14 := ho14.up hXw6
  have ho15 := ho15.up hXw6
  refine WL.op rfl (OpK.storeA T.sz88 rfl rfl rfl rfl (by simp [Value.oneCell'] <;> first | done | (repeat' apply And.intro) <;> first | rfl | exact Inn.one1 (by assumption) (by omega) | exact Osl.oneCell (by assumption) | exact Osn.oneCell (by assumption) | exact Rd.oneCell (by assumption) | exact Rd.oneCell (NL.rd (by assumption)) | assumption) hb18 (fun w7 hXw7 hb18 => ?_))
  have hB := hB.updL hXw7 hl18
  have ho5 := ho5.updD hXw7 hd5_18
  have ho6 := ho6.updD hXw7 hd6_18
  have hb9 := hb9.updD hXw7 hd9_18
  have ho14 := ho14.updD hXw7 hd14_18
  have ho15 := ho15.updD hXw7 hd15_18
  refine WL.nilS ?_
  refine CW.seq ?_
  refine CW.reg ?_
  refine WL.mv rfl rfl ?_
  refine WL.mv rfl rfl ?_
  refine WL.op rfl (OpK.callR rfl T.cf63 rfl (c_laws_b10At (by first | assumption | exact Rd.up (by assumption) hB | exact Osl.rd (by assumption) | exact Osn.rdR (by assumption) | exact NL.rd (by assumption) | exact rdII (by assumption) (by assumption) | exact Inn.rd (by assumption) (by omega)) (by first | assumption | omega | (simp only [marks_len, marksB_len, marksR_len, sumL_marksS]; omega)) (by first | assumption | omega | (simp only [marks_len, marksB_len, marksR_len, sumL_marksS]; omega))) (fun w8 hXw8 => ?_))
  have hB := hB.trans hXw8
  have ho5 := ho5.up hXw8
  have ho6 := ho6.up hXw8
  have hb9 := hb9.up hXw8
  have ho14 := ho14.up hXw8
  have ho15 := ho15.up hXw8
  have hb18 := hb18.up hXw8
  refine WL.op rfl (OpK.call rfl T.cf62 rfl (c_spec_B10Word hB (by first | assumption | exact Rd.up (by assumption) hB | exact Osl.rd (by assumption) | exact Osn.rdR (by assumption) | exact NL.rd (by assumption) | exact rdII (by assumption) (by assumption) | exact Inn.rd (by assumption) (by omega)) (by first | assumption | omega | (simp only [marks_len, marksB_len, marksR_len, sumL_marksS]; omega)) (by first | assumption | omega | (simp only [marks_len, marksB_len, marksR_len, sumL_marksS]; omega)) (by first | assumption | omega | (simp only [marks_len, marksB_len, marksR_len, sumL_marksS]; omega))) (fun rv3 w9 hR => ?_))
  obtain ⟨hUC19, ws20, v21, og21, rfl, hm22, ho21, hq21⟩ := hR
  have hl21 := Lo.up hq21 hB
  have hd5_21 := Dj.lo ho5.ltO hq21
  have hd6_21 := Dj.lo ho6.ltO hq21
  have hd9_21 := Dj.lo hb9.ltO hq21
  have hd14_21 := Dj.lo ho14.ltO hq21
  have hd15_21 := Dj.lo ho15.ltO hq21
  have hd18_21 := Dj.lo hb18.ltO hq21
  have ho5 := ho5.loop hUC19 trivial
  have ho6 := ho6.loop hUC19 trivial
  have hb9 := hb9.loop hUC19 trivial
  have ho14 := ho14.loop hUC19 trivial
  have ho15 := ho15.loop hUC19 trivial
  have hb18 := hb18.loop hUC19 trivial
  have hB := hB.loop hUC19 trivial
  refine WL.asg rfl rfl ?_
  refine WL.nilS ?_
  refine CW.seq ?_
  refine CW.reg ?_
  have hA := hm8; have hBv := hm17; have hW := isWB hL12 (by omega) hm22.2; have hSA := out_y hA hW (show (0 : Int) ≤ 3 ∧ (3 : Int) ≤ 4 from by decide); have hT := sided_turn hA; have hlA := out_len hSA
  refine WL.pure rfl rfl rfl (PV.loadA T.ag88 rfl hb9.cells (Ext.refl _) rfl) ?_
  refine WL.op rfl (OpK.call rfl T.cf64 rfl (c_impl_TurnSided (Osn.rdR ho5) (Osl.rd ho6) (by first | assumption | omega | (simp only [marks_len, marksB_len, marksR_len, sumL_marksS]; omega))) (fun rv4 w10 hR => ?_))
  obtain ⟨hXw10, v23, og23, v24, og24, rfl, ho23, hq23, ho24, hq24, hd23_24⟩ := hR
  have hl23 := Lo.up hq23 hB
  have hd5_23 := Dj.lo ho5.ltO hq23
  have hd6_23 := Dj.lo ho6.ltO hq23
  have hd9_23 := Dj.lo hb9.ltO hq23
  have hd14_23 := Dj.lo ho14.ltO hq23
  have hd15_23 := Dj.lo ho15.ltO hq23
  have hd18_23 := Dj.lo hb18.ltO hq23
  have hd21_23 := Dj.lo ho21.ltO hq23
  have hl24 := Lo.up hq24 hB
  have hd5_24 := Dj.lo ho5.ltO hq24
  have hd6_24 := Dj.lo ho6.ltO hq24
  have hd9_24 := Dj.lo hb9.ltO hq24
  have hd14_24 := Dj.lo ho14.ltO hq24
  have hd15_24 := Dj.lo ho15.ltO hq24
  have hd18_24 := Dj.lo hb18.ltO hq24
  have hd21_24 := Dj.lo ho21.ltO hq24
  have hB := hB.trans hXw10
  have ho5 := ho5.up hXw10
  have ho6 := ho6.up hXw10
  have hb9 := hb9.up hXw10
  have ho14 := ho14.up hXw10
  have ho15 := ho15.up hXw10
  have hb18 := hb18.up hXw10
  have ho21 := ho21.up hXw10
  refine WL.mv rfl rfl ?_
  refine WL.pure rfl rfl rfl (PV.extract rfl rfl) ?_
  refine WL.pure rfl rfl rfl (PV.extract rfl rfl) ?_
  refine WL.op rfl (OpK.alloc rfl T.zv88 rfl (fun b25 w11 hXw11 hb25 hge25 => ?_))
  have hl25 := Lo.new hB hge25
  have hd5_25 := Dj.new ho5.ltO hge25
  have hd6_25 := Dj.new ho6.ltO hge25
  have hd9_25 := Dj.new hb9.ltO hge25
  have hd14_25 := Dj.new ho14.ltO hge25
  have hd15_25 := Dj.new ho15.ltO hge25
  have hd18_25 := Dj.new hb18.ltO hge25
  have hd21_25 := Dj.new ho21.ltO hge25
  have hd23_25 := Dj.new ho23.ltO hge25
  have hd24_25 := Dj.new ho24.ltO hge25
  have hB := hB.trans hXw11
  have ho5 := ho5.up hXw11
  have ho6 := ho6.up hXw11
  have hb9 := hb9.up hXw11
  have ho14 := ho14.up hXw11
  have ho15 := ho15.up hXw11
  have hb18 := hb18.up hXw11
  have ho21 := ho21.up hXw11
  have ho23 := ho23.up hXw11
  have ho24 := ho24.up hXw11
  refine WL.op rfl (OpK.storeA T.sz88 rfl rfl rfl rfl (by simp [Value.oneCell'] <;> first | done | (repeat' apply And.intro) <;> first | rfl | exact Inn.one1 (by assumption) (by omega) | exact Osl.oneCell (by assumption) | exact Osn.oneCell (by assumption) | exact Rd.oneCell (by assumption) | exact Rd.oneCell (NL.rd (by assumption)) | assumption) hb25 (fun w12 hXw12 hb25 => ?_))
  have hB := hB.updL hXw12 hl25
  have ho5 := ho5.updD hXw12 hd5_25
  have ho6 := ho6.updD hXw12 hd6_25
  have hb9 := hb9.updD hXw12 hd9_25
  have ho14 := ho14.updD hXw12 hd14_25
  have ho15 := ho15.updD hXw12 hd15_25
  have hb18 := hb18.updD hXw12 hd18_25
  have ho21 := ho21.updD hXw12 hd21_25
  have ho23 := ho23.updD hXw12 hd23_25
  have ho24 := ho24.updD hXw12 hd24_25
  refine WL.asg rfl rfl ?_
  refine WL.nilS ?_
  refine CW.seq ?_
  refine CW.reg ?_
  refine WL.pure rfl rfl rfl (PV.loadA T.ag88 rfl hb9.cells (Ext.refl _) rfl) ?_
  refine WL.pure rfl rfl rfl (PV.loadA T.ag88 rfl hb18.cells (Ext.refl _) rfl) ?_
  refine WL.op rfl (OpK.call rfl T.cf65 rfl (c_impl_ChainSided (Osn.rdR ho5) (Osl.rd ho6) (Osn.rdR ho14) (Osl.rd ho15)) (fun rv5 w13 hR => ?_))
  obtain ⟨hXw13, v26, og26, v27, og27, rfl, ho26, hq26, ho27, hq27, hd26_27⟩ := hR
  have hl26 := Lo.up hq26 hB
  have hd5_26 := Dj.lo ho5.ltO hq26
  have hd6_26 := Dj.lo ho6.ltO hq26
  have hd9_26 := Dj.lo hb9.ltO hq26
  have hd14_26 := Dj.lo ho14.ltO hq26
  have hd15_26 := Dj.lo ho15.ltO hq26
  have hd18_26 := Dj.lo hb18.ltO hq26
  have hd21_26 := Dj.lo ho21.ltO hq26
  have hd23_26 := Dj.lo ho23.ltO hq26
  have hd24_26 := Dj.lo ho24.ltO hq26
  have hd25_26 := Dj.lo hb25.ltO hq26
  have hl27 := Lo.up hq27 hB
  have hd5_27 := Dj.lo ho5.ltO hq27
  have hd6_27 := Dj.lo ho6.ltO hq27
  have hd9_27 := Dj.lo hb9.ltO hq27
  have hd14_27 := Dj.lo ho14.ltO hq27
  have hd15_27 := Dj.lo ho15.ltO hq27
  have hd18_27 := Dj.lo hb18.ltO hq27
  have hd21_27 := Dj.lo ho21.ltO hq27
  have hd23_27 := Dj.lo ho23.ltO hq27
  have hd24_27 := Dj.lo ho24.ltO hq27
  have hd25_27 := Dj.lo hb25.ltO hq27
  have hB := hB.trans hXw13
  have ho5 := ho5.up hXw13
  have ho6 := ho6.up hXw13
  have hb9 := hb9.up hXw13
  have ho14 := ho14.up hXw13
  have ho15 := ho15.up hXw13
  have hb18 := hb18.up hXw13
  have ho21 := ho21.up hXw13
  have ho23 := ho23.up hXw13
  have ho24 := ho24.up hXw13
  have hb25 := hb25.up hXw13
  refine WL.mv rfl rfl ?_
  refine WL.pure rfl rfl rfl (PV.extract rfl rfl) ?_
  refine WL.pure rfl rfl rfl (PV.extract rfl rfl) ?_
  refine WL.op rfl (OpK.alloc rfl T.zv88 rfl (fun b28 w14 hXw14 hb28 hge28 => ?_))
  have hl28 := Lo.new hB hge28
  have hd5_28 := Dj.new ho5.ltO hge28
  have hd6_28 := Dj.new ho6.ltO hge28
  have hd9_28 := Dj.new hb9.ltO hge28
  have hd14_28 := Dj.new ho14.ltO hge28
  have hd15_28 := Dj.new ho15.ltO hge28
  have hd18_28 := Dj.new hb18.ltO hge28
  have hd21_28 := Dj.new ho21.ltO hge28
  have hd23_28 := Dj.new ho23.ltO hge28
  have hd24_28 := Dj.new ho24.ltO hge28
  have hd25_28 := Dj.new hb25.ltO hge28
  have hd26_28 := Dj.new ho26.ltO hge28
  have hd27_28 := Dj.new ho27.ltO hge28
  have hB := hB.trans hXw14
  have ho5 := ho5.up hXw14
  have ho6 := ho6.up hXw14
  have hb9 := hb9.up hXw14
  have ho14 := ho14.up hXw14
  have ho15 := ho15.up hXw14
  have hb18 := hb18.up hXw14
  have ho21 := ho21.up hXw14
  have ho23 := ho23.up hXw14
  have ho24 := ho24.up hXw14
  have hb25 := hb25.up hXw14
  have ho26 := ho26.up hXw14
  have ho27 := ho27.up hXw14
  refine WL.op rfl (OpK.storeA T.sz88 rfl rfl rfl rfl (by simp [Value.oneCell'] <;> first | done | (repeat' apply And.intro) <;> first | rfl | exact Inn.one1 (by assumption) (by omega) | exact Osl.oneCell (by assumption) | exact Osn.oneCell (by assumption) | exact Rd.oneCell (by assumption) | exact Rd.oneCell (NL.rd (by assumption)) | assumption) hb28 (fun w15 hXw15 hb28 => ?_))
  have hB := hB.updL hXw15 hl28
  have ho5 := ho5.updD hXw15 hd5_28
  have ho6 := ho6.updD hXw15 hd6_28
  have hb9 := hb9.updD hXw15 hd9_28
  have ho14 := ho14.updD hXw15 hd14_28
  have ho15 := ho15.updD hXw15 hd15_28
  have hb18 := hb18.updD hXw15 hd18_28
  have ho21 := ho21.updD hXw15 hd21_28
  have ho23 := ho23.updD hXw15 hd23_28
  have ho24 := ho24.updD hXw15 hd24_28
  have hb25 := hb25.updD hXw15 hd25_28
  have ho26 := ho26.updD hXw15 hd26_28
  have ho27 := ho27.updD hXw15 hd27_28
  refine WL.asg rfl rfl ?_
  refine WL.nilS ?_
  refine CW.seq ?_
  refine CW.reg ?_
  refine WL.pure rfl rfl rfl (PV.loadA T.ag88 rfl hb9.cells (Ext.refl _) rfl) ?_
  refine WL.pure rfl rfl rfl (PV.loadA T.ag88 rfl hb18.cells (Ext.refl _) rfl) ?_
  refine WL.op rfl (OpK.call rfl T.cf66 rfl (c_spec_ChainSided (Osn.rdR ho5) (Osl.rd ho6) (Osn.rdR ho14) (Osl.rd ho15)) (fun rv6 w16 hR => ?_))
  obtain ⟨hXw16, v29, og29, v30, og30, rfl, ho29, hq29, ho30, hq30, hd29_30⟩ := hR
  have hl29 := Lo.up hq29 hB
  have hd5_29 := Dj.lo ho5.ltO hq29
  have hd6_29 := Dj.lo ho6.ltO hq29
  have hd9_29 := Dj.lo hb9.ltO hq29
  have hd14_29 := Dj.lo ho14.ltO hq29
  have hd15_29 := Dj.lo ho15.ltO hq29
  have hd18_29 := Dj.lo hb18.ltO hq29
  have hd21_29 := Dj.lo ho21.ltO hq29
  have hd23_29 := Dj.lo ho23.ltO hq29
  have hd24_29 := Dj.lo ho24.ltO hq29
  have hd25_29 := Dj.lo hb25.ltO hq29
  have hd26_29 := Dj.lo ho26.ltO hq29
  have hd27_29 := Dj.lo ho27.ltO hq29
  have hd28_29 := Dj.lo hb28.ltO hq29
  have hl30 := Lo.up hq30 hB
  have hd5_30 := Dj.lo ho5.ltO hq30
  have hd6_30 := Dj.lo ho6.ltO hq30
  have hd9_30 := Dj.lo hb9.ltO hq30
  have hd14_30 := Dj.lo ho14.ltO hq30
  have hd15_30 := Dj.lo ho15.ltO hq30
  have hd18_30 := Dj.lo hb18.ltO hq30
  have hd21_30 := Dj.lo ho21.ltO hq30
  have hd23_30 := Dj.lo ho23.ltO hq30
  have hd24_30 := Dj.lo ho24.ltO hq30
  have hd25_30 := Dj.lo hb25.ltO hq30
  have hd26_30 := Dj.lo ho26.ltO hq30
  have hd27_30 := Dj.lo ho27.ltO hq30
  have hd28_30 := Dj.lo hb28.ltO hq30
  have hB := hB.trans hXw16
  have ho5 := ho5.up hXw16
  have ho6 := ho6.up hXw16
  have hb9 := hb9.up hXw16
  have ho14 := ho14.up hXw16
  have ho15 := ho15.up hXw16
  have hb18 := hb18.up hXw16
  have ho21 := ho21.up hXw16
  have ho23 := ho23.up hXw16
  have ho24 := ho24.up hXw16
  have hb25 := hb25.up hXw16
  have ho26 := ho26.up hXw16
  have ho27 := ho27.up hXw16
  have hb28 := hb28.up hXw16
  refine WL.mv rfl rfl ?_
  refine WL.pure rfl rfl rfl (PV.extract rfl rfl) ?_
  refine WL.pure rfl rfl rfl (PV.extract rfl rfl) ?_
  refine WL.op rfl (OpK.alloc rfl T.zv88 rfl (fun b31 w17 hXw17 hb31 hge31 => ?_))
  have hl31 := Lo.new hB hge31
  have hd5_31 := Dj.new ho5.ltO hge31
  have hd6_31 := Dj.new ho6.ltO hge31
  have hd9_31 := Dj.new hb9.ltO hge31
  have hd14_31 := Dj.new ho14.ltO hge31
  have hd15_31 := Dj.new ho15.ltO hge31
  have hd18_31 := Dj.new hb18.ltO hge31
  have hd21_31 := Dj.new ho21.ltO hge31
  have hd23_31 := Dj.new ho23.ltO hge31
  have hd24_31 := Dj.new ho24.ltO hge31
  have hd25_31 := Dj.new hb25.ltO hge31
  have hd26_31 := Dj.new ho26.ltO hge31
  have hd27_31 := Dj.new ho27.ltO hge31
  have hd28_31 := Dj.new hb28.ltO hge31
  have hd29_31 := Dj.new ho29.ltO hge31
  have hd30_31 := Dj.new ho30.ltO hge31
  have hB := hB.trans hXw17
  have ho5 := ho5.up hXw17
  have ho6 := ho6.up hXw17
  have hb9 := hb9.up hXw17
  have ho14 := ho14.up hXw17
  have ho15 := ho15.up hXw17
  have hb18 := hb18.up hXw17
  have ho21 := ho21.up hXw17
  have ho23 := ho23.up hXw17
  have ho24 := ho24.up hXw17
  have hb25 := hb25.up hXw17
  have ho26 := ho26.up hXw17
  have ho27 := ho27.up hXw17
  have hb28 := hb28.up hXw17
  have ho29 := ho29.up hXw17
  have ho30 := ho30.up hXw17
  refine WL.op rfl (OpK.storeA T.sz88 rfl rfl rfl rfl (by simp [Value.oneCell'] <;> first | done | (repeat' apply And.intro) <;> first | rfl | exact Inn.one1 (by assumption) (by omega) | exact Osl.oneCell (by assumption) | exact Osn.oneCell (by assumption) | exact Rd.oneCell (by assumption) | exact Rd.oneCell (NL.rd (by assumption)) | assumption) hb31 (fun w18 hXw18 hb31 => ?_))
  have hB := hB.updL hXw18 hl31
  have ho5 := ho5.updD hXw18 hd5_31
  have ho6 := ho6.updD hXw18 hd6_31
  have hb9 := hb9.updD hXw18 hd9_31
  have ho14 := ho14.updD hXw18 hd14_31
  have ho15 := ho15.updD hXw18 hd15_31
  have hb18 := hb18.updD hXw18 hd18_31
  have ho21 := ho21.updD hXw18 hd21_31
  have ho23 := ho23.updD hXw18 hd23_31
  have ho24 := ho24.updD hXw18 hd24_31
  have hb25 := hb25.updD hXw18 hd25_31
  have ho26 := ho26.updD hXw18 hd26_31
  have ho27 := ho27.updD hXw18 hd27_31
  have hb28 := hb28.updD hXw18 hd28_31
  have ho29 := ho29.updD hXw18 hd29_31
  have ho30 := ho30.updD hXw18 hd30_31
  refine WL.asg rfl rfl ?_
  refine WL.nilS ?_
  refine CW.seq ?_
  refine CW.reg ?_
  refine WL.pure rfl rfl rfl (PV.loadA T.ag88 rfl hb9.cells (Ext.refl _) rfl) ?_
  refine WL.pure rfl rfl rfl (PV.loadA T.ag88 rfl hb18.cells (Ext.refl _) rfl) ?_
  refine WL.op rfl (OpK.call rfl T.cf67 rfl (c_impl_EitherSided (Osn.rdR ho5) (Osl.rd ho6) (Osn.rdR ho14) (Osl.rd ho15)) (fun rv7 w19 hR => ?_))
  obtain ⟨hXw19, v32, og32, v33, og33, rfl, ho32, hq32, ho33, hq33, hd32_33⟩ := hR
  have hl32 := Lo.up hq32 hB
  have hd5_32 := Dj.lo ho5.ltO hq32
  have hd6_32 := Dj.lo ho6.ltO hq32
  have hd9_32 := Dj.lo hb9.ltO hq32
  have hd14_32 := Dj.lo ho14.ltO hq32
  have hd15_32 := Dj.lo ho15.ltO hq32
  have hd18_32 := Dj.lo hb18.ltO hq32
  have hd21_32 := Dj.lo ho21.ltO hq32
  have hd23_32 := Dj.lo ho23.ltO hq32
  have hd24_32 := Dj.lo ho24.ltO hq32
  have hd25_32 := Dj.lo hb25.ltO hq32
  have hd26_32 := Dj.lo ho26.ltO hq32
  have hd27_32 := Dj.lo ho27.ltO hq32
  have hd28_32 := Dj.lo hb28.ltO hq32
  have hd29_32 := Dj.lo ho29.ltO hq32
  have hd30_32 := Dj.lo ho30.ltO hq32
  have hd31_32 := Dj.lo hb31.ltO hq32
  have hl33 := Lo.up hq33 hB
  have hd5_33 := Dj.lo ho5.ltO hq33
  have hd6_33 := Dj.lo ho6.ltO hq33
  have hd9_33 := Dj.lo hb9.ltO hq33
  have hd14_33 := Dj.lo ho14.ltO hq33
  have hd15_33 := Dj.lo ho15.ltO hq33
  have hd18_33 := Dj.lo hb18.ltO hq33
  have hd21_33 := Dj.lo ho21.ltO hq33
  have hd23_33 := Dj.lo ho23.ltO hq33
  have hd24_33 := Dj.lo ho24.ltO hq33
  have hd25_33 := Dj.lo hb25.ltO hq33
  have hd26_33 := Dj.lo ho26.ltO hq33
  have hd27_33 := Dj.lo ho27.ltO hq33
  have hd28_33 := Dj.lo hb28.ltO hq33
  have hd29_33 := Dj.lo ho29.ltO hq33
  have hd30_33 := Dj.lo ho30.ltO hq33
  have hd31_33 := Dj.lo hb31.ltO hq33
  have hB := hB.trans hXw19
  have ho5 := ho5.up hXw19
  have ho6 := ho6.up hXw19
  have hb9 := hb9.up hXw19
  have ho14 := ho14.up hXw19
  have ho15 := ho15.up hXw19
  have hb18 := hb18.up hXw19
  have ho21 := ho21.up hXw19
  have ho23 := ho23.up hXw19
  have ho24 := ho24.up hXw19
  have hb25 := hb25.up hXw19
  have ho26 := ho26.up hXw19
  have ho27 := ho27.up hXw19
  have hb28 := hb28.up hXw19
  have ho29 := ho29.up hXw19
  have ho30 := ho30.up hXw19
  have hb31 := hb31.up hXw19
  refine WL.mv rfl rfl ?_
  refine WL.pure rfl rfl rfl (PV.extract rfl rfl) ?_
  refine WL.pure rfl rfl rfl (PV.extract rfl rfl) ?_
  refine WL.op rfl (OpK.alloc rfl T.zv88 rfl (fun b34 w20 hXw20 hb34 hge34 => ?_))
  have hl34 := Lo.new hB hge34
  have hd5_34 := Dj.new ho5.ltO hge34
  have hd6_34 := Dj.new ho6.ltO hge34
  have hd9_34 := Dj.new hb9.ltO hge34
  have hd14_34 := Dj.new ho14.ltO hge34
  have hd15_34 := Dj.new ho15.ltO hge34
  have hd18_34 := Dj.new hb18.ltO hge34
  have hd21_34 := Dj.new ho21.ltO hge34
  have hd23_34 := Dj.new ho23.ltO hge34
  have hd24_34 := Dj.new ho24.ltO hge34
  have hd25_34 := Dj.new hb25.ltO hge34
  have hd26_34 := Dj.new ho26.ltO hge34
  have hd27_34 := Dj.new ho27.ltO hge34
  have hd28_34 := Dj.new hb28.ltO hge34
  have hd29_34 := Dj.new ho29.ltO hge34
  have hd30_34 := Dj.new ho30.ltO hge34
  have hd31_34 := Dj.new hb31.ltO hge34
  have hd32_34 := Dj.new ho32.ltO hge34
  have hd33_34 := Dj.new ho33.ltO hge34
  have hB := hB.trans hXw20
  have ho5 := ho5.up hXw20
  have ho6 := ho6.up hXw20
  have hb9 := hb9.up hXw20
  have ho14 := ho14.up hXw20
  have ho15 := ho15.up hXw20
  have hb18 := hb18.up hXw20
  have ho21 := ho21.up hXw20
  have ho23 := ho23.up hXw20
  have ho24 := ho24.up hXw20
  have hb25 := hb25.up hXw20
  have ho26 := ho26.up hXw20
  have ho27 := ho27.up hXw20
  have hb28 := hb28.up hXw20
  have ho29 := ho29.up hXw20
  have ho30 := ho30.up hXw20
  have hb31 := hb31.up hXw20
  have ho32 := ho32.up hXw20
  have ho33 := ho33.up hXw20
  refine WL.op rfl (OpK.storeA T.sz88 rfl rfl rfl rfl (by simp [Value.oneCell'] <;> first | done | (repeat' apply And.intro) <;> first | rfl | exact Inn.one1 (by assumption) (by omega) | exact Osl.oneCell (by assumption) | exact Osn.oneCell (by assumption) | exact Rd.oneCell (by assumption) | exact Rd.oneCell (NL.rd (by assumption)) | assumption) hb34 (fun w21 hXw21 hb34 => ?_))
  have hB := hB.updL hXw21 hl34
  have ho5 := ho5.updD hXw21 hd5_34
  have ho6 := ho6.updD hXw21 hd6_34
  have hb9 := hb9.updD hXw21 hd9_34
  have ho14 := ho14.updD hXw21 hd14_34
  have ho15 := ho15.updD hXw21 hd15_34
  have hb18 := hb18.updD hXw21 hd18_34
  have ho21 := ho21.updD hXw21 hd21_34
  have ho23 := ho23.updD hXw21 hd23_34
  have ho24 := ho24.updD hXw21 hd24_34
  have hb25 := hb25.updD hXw21 hd25_34
  have ho26 := ho26.updD hXw21 hd26_34
  have ho27 := ho27.updD hXw21 hd27_34
  have hb28 := hb28.updD hXw21 hd28_34
  have ho29 := ho29.updD hXw21 hd29_34
  have ho30 := ho30.updD hXw21 hd30_34
  have hb31 := hb31.updD hXw21 hd31_34
  have ho32 := ho32.updD hXw21 hd32_34
  have ho33 := ho33.updD hXw21 hd33_34
  refine WL.asg rfl rfl ?_
  refine WL.nilS ?_
  refine CW.seq ?_
  refine CW.reg ?_
  refine WL.pure rfl rfl rfl (PV.loadA T.ag88 rfl hb9.cells (Ext.refl _) rfl) ?_
  refine WL.pure rfl rfl rfl (PV.loadA T.ag88 rfl hb18.cells (Ext.refl _) rfl) ?_
  refine WL.op rfl (OpK.call rfl T.cf68 rfl (c_spec_EitherSided (Osn.rdR ho5) (Osl.rd ho6) (Osn.rdR ho14) (Osl.rd ho15)) (fun rv8 w22 hR => ?_))
  obtain ⟨hXw22, v35, og35, v36, og36, rfl, ho35, hq35, ho36, hq36, hd35_36⟩ := hR
  have hl35 := Lo.up hq35 hB
  have hd5_35 := Dj.lo ho5.ltO hq35
  have hd6_35 := Dj.lo ho6.ltO hq35
  have hd9_35 := Dj.lo hb9.ltO hq35
  have hd14_35 := Dj.lo ho14.ltO hq35
  have hd15_35 := Dj.lo ho15.ltO hq35
  have hd18_35 := Dj.lo hb18.ltO hq35
  have hd21_35 := Dj.lo ho21.ltO hq35
  have hd23_35 := Dj.lo ho23.ltO hq35
  have hd24_35 := Dj.lo ho24.ltO hq35
  have hd25_35 := Dj.lo hb25.ltO hq35
  have hd26_35 := Dj.lo ho26.ltO hq35
  have hd27_35 := Dj.lo ho27.ltO hq35
  have hd28_35 := Dj.lo hb28.ltO hq35
  have hd29_35 := Dj.lo ho29.ltO hq35
  have hd30_35 := Dj.lo ho30.ltO hq35
  have hd31_35 := Dj.lo hb31.ltO hq35
  have hd32_35 := Dj.lo ho32.ltO hq35
  have hd33_35 := Dj.lo ho33.ltO hq35
  have hd34_35 := Dj.lo hb34.ltO hq35
  have hl36 := Lo.up hq36 hB
  have hd5_36 := Dj.lo ho5.ltO hq36
  have hd6_36 := Dj.lo ho6.ltO hq36
  have hd9_36 := Dj.lo hb9.ltO hq36
  have hd14_36 := Dj.lo ho14.ltO hq36
  have hd15_36 := Dj.lo ho15.ltO hq36
  have hd18_36 := Dj.lo hb18.ltO hq36
  have hd21_36 := Dj.lo ho21.ltO hq36
  have hd23_36 := Dj.lo ho23.ltO hq36
  have hd24_36 := Dj.lo ho24.ltO hq36
  have hd25_36 := Dj.lo hb25.ltO hq36
  have hd26_36 := Dj.lo ho26.ltO hq36
  have hd27_36 := Dj.lo ho27.ltO hq36
  have hd28_36 := Dj.lo hb28.ltO hq36
  have hd29_36 := Dj.lo ho29.ltO hq36
  have hd30_36 := Dj.lo ho30.ltO hq36
  have hd31_36 := Dj.lo hb31.ltO hq36
  have hd32_36 := Dj.lo ho32.ltO hq36
  have hd33_36 := Dj.lo ho33.ltO hq36
  have hd34_36 := Dj.lo hb34.ltO hq36
  have hB := hB.trans hXw22
  have ho5 := ho5.up hXw22
  have ho6 := ho6.up hXw22
  have hb9 := hb9.up hXw22
  have ho14 := ho14.up hXw22
  have ho15 := ho15.up hXw22
  have hb18 := hb18.up hXw22
  have ho21 := ho21.up hXw22
  have ho23 := ho23.up hXw22
  have ho24 := ho24.up hXw22
  have hb25 := hb25.up hXw22
  have ho26 := ho26.up hXw22
  have ho27 := ho27.up hXw22
  have hb28 := hb28.up hXw22
  have ho29 := ho29.up hXw22
  have ho30 := ho30.up hXw22
  have hb31 := hb31.up hXw22
  have ho32 := ho32.up hXw22
  have ho33 := ho33.up hXw22
  have hb34 := hb34.up hXw22
  refine WL.mv rfl rfl ?_
  refine WL.pure rfl rfl rfl (PV.extract rfl rfl) ?_
  refine WL.pure rfl rfl rfl (PV.extract rfl rfl) ?_
  refine WL.op rfl (OpK.alloc rfl T.zv88 rfl (fun b37 w23 hXw23 hb37 hge37 => ?_))
  have hl37 := Lo.new hB hge37
  have hd5_37 := Dj.new ho5.ltO hge37
  have hd6_37 := Dj.new ho6.ltO hge37
  have hd9_37 := Dj.new hb9.ltO hge37
  have hd14_37 := Dj.new ho14.ltO hge37
  have hd15_37 := Dj.new ho15.ltO hge37
  have hd18_37 := Dj.new hb18.ltO hge37
  have hd21_37 := Dj.new ho21.ltO hge37
  have hd23_37 := Dj.new ho23.ltO hge37
  have hd24_37 := Dj.new ho24.ltO hge37
  have hd25_37 := Dj.new hb25.ltO hge37
  have hd26_37 := Dj.new ho26.ltO hge37
  have hd27_37 := Dj.new ho27.ltO hge37
  have hd28_37 := Dj.new hb28.ltO hge37
  have hd29_37 := Dj.new ho29.ltO hge37
  have hd30_37 := Dj.new ho30.ltO hge37
  have hd31_37 := Dj.new hb31.ltO hge37
  have hd32_37 := Dj.new ho32.ltO hge37
  have hd33_37 := Dj.new ho33.ltO hge37
  have hd34_37 := Dj.new hb34.ltO hge37
  have hd35_37 := Dj.new ho35.ltO hge37
  have hd36_37 := Dj.new ho36.ltO hge37
  have hB := hB.trans hXw23
  have ho5 := ho5.up hXw23
  have ho6 := ho6.up hXw23
  have hb9 := hb9.up hXw23
  have ho14 := ho14.up hXw23
  have ho15 := ho15.up hXw23
  have hb18 := hb18.up hXw23
  have ho21 := ho21.up hXw23
  have ho23 := ho23.up hXw23
  have ho24 := ho24.up hXw23
  have hb25 := hb25.up hXw23
  have ho26 := ho26.up hXw23
  have ho27 := ho27.up hXw23
  have hb28 := hb28.up hXw23
  have ho29 := ho29.up hXw23
  have ho30 := ho30.up hXw23
  have hb31 := hb31.up hXw23
  have ho32 := ho32.up hXw23
  have ho33 := ho33.up hXw23
  have hb34 := hb34.up hXw23
  have ho35 := ho35.up hXw23
  have ho36 := ho36.up hXw23
  refine WL.op rfl (OpK.storeA T.sz88 rfl rfl rfl rfl (by simp [Value.oneCell'] <;> first | done | (repeat' apply And.intro) <;> first | rfl | exact Inn.one1 (by assumption) (by omega) | exact Osl.oneCell (by assumption) | exact Osn.oneCell (by assumption) | exact Rd.oneCell (by assumption) | exact Rd.oneCell (NL.rd (by assumption)) | assumption) hb37 (fun w24 hXw24 hb37 => ?_))
  have hB := hB.updL hXw24 hl37
  have ho5 := ho5.updD hXw24 hd5_37
  have ho6 := ho6.updD hXw24 hd6_37
  have hb9 := hb9.updD hXw24 hd9_37
  have ho14 := ho14.updD hXw24 hd14_37
  have ho15 := ho15.updD hXw24 hd15_37
  have hb18 := hb18.updD hXw24 hd18_37
  have ho21 := ho21.updD hXw24 hd21_37
  have ho23 := ho23.updD hXw24 hd23_37
  have ho24 := ho24.updD hXw24 hd24_37
  have hb25 := hb25.updD hXw24 hd25_37
  have ho26 := ho26.updD hXw24 hd26_37
  have ho27 := ho27.updD hXw24 hd27_37
  have hb28 := hb28.updD hXw24 hd28_37
  have ho29 := ho29.updD hXw24 hd29_37
  have ho30 := ho30.updD hXw24 hd30_37
  have hb31 := hb31.updD hXw24 hd31_37
  have ho32 := ho32.updD hXw24 hd32_37
  have ho33 := ho33.updD hXw24 hd33_37
  have hb34 := hb34.updD hXw24 hd34_37
  have ho35 := ho35.updD hXw24 hd35_37
  have ho36 := ho36.updD hXw24 hd36_37
  refine WL.asg rfl rfl ?_
  refine WL.nilS ?_
  refine CW.seq ?_
  refine CW.reg ?_
  refine WL.pure rfl rfl rfl (PV.loadA T.ag88 rfl hb9.cells (Ext.refl _) rfl) ?_
  refine WL.mv rfl rfl ?_
  refine WL.op rfl (OpK.call rfl T.cf69 rfl (c_impl_OutputsOf_y (Osn.rdR ho5) (Osl.rd ho6) (Osl.rd ho21) (by first | assumption | omega | (simp only [marks_len, marksB_len, marksR_len, sumL_marksS]; omega))) (fun rv9 w25 hR => ?_))
  obtain ⟨hXw25, v38, og38, vs39, os39, rfl, ho38, hq38, hn39, hq39, hd38_39⟩ := hR
  have hl38 := Lo.up hq38 hB
  have hd5_38 := Dj.lo ho5.ltO hq38
  have hd6_38 := Dj.lo ho6.ltO hq38
  have hd9_38 := Dj.lo hb9.ltO hq38
  have hd14_38 := Dj.lo ho14.ltO hq38
  have hd15_38 := Dj.lo ho15.ltO hq38
  have hd18_38 := Dj.lo hb18.ltO hq38
  have hd21_38 := Dj.lo ho21.ltO hq38
  have hd23_38 := Dj.lo ho23.ltO hq38
  have hd24_38 := Dj.lo ho24.ltO hq38
  have hd25_38 := Dj.lo hb25.ltO hq38
  have hd26_38 := Dj.lo ho26.ltO hq38
  have hd27_38 := Dj.lo ho27.ltO hq38
  have hd28_38 := Dj.lo hb28.ltO hq38
  have hd29_38 := Dj.lo ho29.ltO hq38
  have hd30_38 := Dj.lo ho30.ltO hq38
  have hd31_38 := Dj.lo hb31.ltO hq38
  have hd32_38 := Dj.lo ho32.ltO hq38
  have hd33_38 := Dj.lo ho33.ltO hq38
  have hd34_38 := Dj.lo hb34.ltO hq38
  have hd35_38 := Dj.lo ho35.ltO hq38
  have hd36_38 := Dj.lo ho36.ltO hq38
  have hd37_38 := Dj.lo hb37.ltO hq38
  have hl39 := LoI.up hq39 hB
  have hlv39 := hn39.lv
  have hd5_39 := DI.lo ho5.ltO hq39
  have hd6_39 := DI.lo ho6.ltO hq39
  have hd9_39 := DI.lo hb9.ltO hq39
  have hd14_39 := DI.lo ho14.ltO hq39
  have hd15_39 := DI.lo ho15.ltO hq39
  have hd18_39 := DI.lo hb18.ltO hq39
  have hd21_39 := DI.lo ho21.ltO hq39
  have hd23_39 := DI.lo ho23.ltO hq39
  have hd24_39 := DI.lo ho24.ltO hq39
  have hd25_39 := DI.lo hb25.ltO hq39
  have hd26_39 := DI.lo ho26.ltO hq39
  have hd27_39 := DI.lo ho27.ltO hq39
  have hd28_39 := DI.lo hb28.ltO hq39
  have hd29_39 := DI.lo ho29.ltO hq39
  have hd30_39 := DI.lo ho30.ltO hq39
  have hd31_39 := DI.lo hb31.ltO hq39
  have hd32_39 := DI.lo ho32.ltO hq39
  have hd33_39 := DI.lo ho33.ltO hq39
  have hd34_39 := DI.lo hb34.ltO hq39
  have hd35_39 := DI.lo ho35.ltO hq39
  have hd36_39 := DI.lo ho36.ltO hq39
  have hd37_39 := DI.lo hb37.ltO hq39
  have hB := hB.trans hXw25
  have ho5 := ho5.up hXw25
  have ho6 := ho6.up hXw25
  have hb9 := hb9.up hXw25
  have ho14 := ho14.up hXw25
  have ho15 := ho15.up hXw25
  have hb18 := hb18.up hXw25
  have ho21 := ho21.up hXw25
  have ho23 := ho23.up hXw25
  have ho24 := ho24.up hXw25
  have hb25 := hb25.up hXw25
  have ho26 := ho26.up hXw25
  have ho27 := ho27.up hXw25
  have hb28 := hb28.up hXw25
  have ho29 := ho29.up hXw25
  have ho30 := ho30.up hXw25
  have hb31 := hb31.up hXw25
  have ho32 := ho32.up hXw25
  have ho33 := ho33.up hXw25
  have hb34 := hb34.up hXw25
  have ho35 := ho35.up hXw25
  have ho36 := ho36.up hXw25
  have hb37 := hb37.up hXw25
  refine WL.mv rfl rfl ?_
  refine WL.pure rfl rfl rfl (PV.extract rfl rfl) ?_
  refine WL.pure rfl rfl rfl (PV.extract rfl rfl) ?_
  refine WL.asg rfl rfl ?_
  refine WL.asg rfl rfl ?_
  refine WL.nilS ?_
  refine CW.seq ?_
  refine CW.reg ?_
  refine WL.pure rfl rfl rfl (PV.loadA T.ag88 rfl hb9.cells (Ext.refl _) rfl) ?_
  refine WL.mv rfl rfl ?_
  refine WL.op rfl (OpK.call rfl T.cf70 rfl (c_spec_OutputsOf_y (Osn.rdR ho5) (Osl.rd ho6) (Osl.rd ho21) (by first | assumption | omega | (simp only [marks_len, marksB_len, marksR_len, sumL_marksS]; omega))) (fun rv10 w26 hR => ?_))
  obtain ⟨hXw26, v40, og40, vs41, os41, rfl, ho40, hq40, hn41, hq41, hd40_41⟩ := hR
  have hl40 := Lo.up hq40 hB
  have hd5_40 := Dj.lo ho5.ltO hq40
  have hd6_40 := Dj.lo ho6.ltO hq40
  have hd9_40 := Dj.lo hb9.ltO hq40
  have hd14_40 := Dj.lo ho14.ltO hq40
  have hd15_40 := Dj.lo ho15.ltO hq40
  have hd18_40 := Dj.lo hb18.ltO hq40
  have hd21_40 := Dj.lo ho21.ltO hq40
  have hd23_40 := Dj.lo ho23.ltO hq40
  have hd24_40 := Dj.lo ho24.ltO hq40
  have hd25_40 := Dj.lo hb25.ltO hq40
  have hd26_40 := Dj.lo ho26.ltO hq40
  have hd27_40 := Dj.lo ho27.ltO hq40
  have hd28_40 := Dj.lo hb28.ltO hq40
  have hd29_40 := Dj.lo ho29.ltO hq40
  have hd30_40 := Dj.lo ho30.ltO hq40
  have hd31_40 := Dj.lo hb31.ltO hq40
  have hd32_40 := Dj.lo ho32.ltO hq40
  have hd33_40 := Dj.lo ho33.ltO hq40
  have hd34_40 := Dj.lo hb34.ltO hq40
  have hd35_40 := Dj.lo ho35.ltO hq40
  have hd36_40 := Dj.lo ho36.ltO hq40
  have hd37_40 := Dj.lo hb37.ltO hq40
  have hd38_40 := Dj.lo ho38.ltO hq40
  have hd39_40 := DI.fresh hn39 hq40
  have hl41 := LoI.up hq41 hB
  have hlv41 := hn41.lv
  have hd5_41 := DI.lo ho5.ltO hq41
  have hd6_41 := DI.lo ho6.ltO hq41
  have hd9_41 := DI.lo hb9.ltO hq41
  have hd14_41 := DI.lo ho14.ltO hq41
  have hd15_41 := DI.lo ho15.ltO hq41
  have hd18_41 := DI.lo hb18.ltO hq41
  have hd21_41 := DI.lo ho21.ltO hq41
  have hd23_41 := DI.lo ho23.ltO hq41
  have hd24_41 := DI.lo ho24.ltO hq41
  have hd25_41 := DI.lo hb25.ltO hq41
  have hd26_41 := DI.lo ho26.ltO hq41
  have hd27_41 := DI.lo ho27.ltO hq41
  have hd28_41 := DI.lo hb28.ltO hq41
  have hd29_41 := DI.lo ho29.ltO hq41
  have hd30_41 := DI.lo ho30.ltO hq41
  have hd31_41 := DI.lo hb31.ltO hq41
  have hd32_41 := DI.lo ho32.ltO hq41
  have hd33_41 := DI.lo ho33.ltO hq41
  have hd34_41 := DI.lo hb34.ltO hq41
  have hd35_41 := DI.lo ho35.ltO hq41
  have hd36_41 := DI.lo ho36.ltO hq41
  have hd37_41 := DI.lo hb37.ltO hq41
  have hd38_41 := DI.lo ho38.ltO hq41
  have hdd39_41 := DD.symm (DD.lo hn39 hq41)
  have hB := hB.trans hXw26
  have ho5 := ho5.up hXw26
  have ho6 := ho6.up hXw26
  have hb9 := hb9.up hXw26
  have ho14 := ho14.up hXw26
  have ho15 := ho15.up hXw26
  have hb18 := hb18.up hXw26
  have ho21 := ho21.up hXw26
  have ho23 := ho23.up hXw26
  have ho24 := ho24.up hXw26
  have hb25 := hb25.up hXw26
  have ho26 := ho26.up hXw26
  have ho27 := ho27.up hXw26
  have hb28 := hb28.up hXw26
  have ho29 := ho29.up hXw26
  have ho30 := ho30.up hXw26
  have hb31 := hb31.up hXw26
  have ho32 := ho32.up hXw26
  have ho33 := ho33.up hXw26
  have hb34 := hb34.up hXw26
  have ho35 := ho35.up hXw26
  have ho36 := ho36.up hXw26
  have hb37 := hb37.up hXw26
  have ho38 := ho38.up hXw26
  have hn39 := hn39.up hXw26
  refine WL.mv rfl rfl ?_
  refine WL.pure rfl rfl rfl (PV.extract rfl rfl) ?_
  refine WL.pure rfl rfl rfl (PV.extract rfl rfl) ?_
  refine WL.asg rfl rfl ?_
  refine WL.asg rfl rfl ?_
  refine WL.nilS ?_
  refine CW.seq ?_
  refine CW.cut (σk := [(5, _), (6, _), (7, _), (8, _), (10, _), (11, _), (14, _), (15, _), (18, _), (20, _)]) (fun ρ wz => ∃ (_ : Unit), ρ = [(141, .bool false)] ∧ Ext w26 wz ∧ True) ⟨rfl, rfl, rfl, rfl, rfl, rfl, rfl, rfl, rfl, rfl, trivial⟩ ?_ ?_
  · skip
    have hB0 := Ext.refl w26
    have hBc := Ext.refl w26
    refine CW.reg ?_
    refine WL.mv rfl rfl ?_
    refine WL.pure rfl rfl rfl (PV.not rfl) ?_
    refine WL.mv rfl rfl ?_
    refine WL.pureG rfl rfl rfl rfl rfl (PV.move rfl) ?_
    refine WL.pureG rfl rfl rfl rfl rfl (PV.move rfl) ?_
    refine WL.pureG rfl rfl rfl rfl rfl (PV.neqB T.bl4 rfl rfl) ?_
    refine WL.pure rfl rfl rfl (PV.pickF rfl rfl) ?_
    refine WL.mv rfl rfl ?_
    refine WL.split (t := 93) rfl (fun hc2 => ?_) (fun hc2 => ?_)
    · skip
      try simp only [nq] at hc2
      exfalso; revert hc2; first | (simp; done) | (simp; omega)
    try simp only [nq] at hc2
    refine WL.pureG rfl rfl rfl rfl rfl (PV.move rfl) ?_
    refine WL.pureG rfl rfl rfl rfl rfl (PV.move rfl) ?_
    refine WL.pureG rfl rfl rfl rfl rfl (PV.neqB T.bl4 rfl rfl) ?_
    refine WL.pure rfl rfl rfl (PV.pickF rfl rfl) ?_
    refine WL.mv rfl rfl ?_
    refine WL.split (t := 98) rfl (fun hc3 => ?_) (fun hc3 => ?_)
    · skip
      try simp only [nq] at hc3
      exfalso; revert hc3; first | (simp; done) | (simp; omega)
    try simp only [nq] at hc3
    refine WL.pureG rfl rfl rfl rfl rfl (PV.move rfl) ?_
    refine WL.pureG rfl rfl rfl rfl rfl (PV.not rfl) ?_
    refine WL.pure rfl rfl rfl (PV.pickF rfl rfl) ?_
    refine WL.mv rfl rfl ?_
    refine WL.pureG rfl rfl rfl rfl rfl (PV.move rfl) ?_
    refine WL.pureG rfl rfl rfl rfl rfl (PV.not rfl) ?_
    refine WL.pure rfl rfl rfl (PV.pickF rfl rfl) ?_
    refine WL.mv rfl rfl ?_
    refine WL.pureG rfl rfl rfl rfl rfl (PV.loadA T.ag88 rfl hb9.cells (Ext.refl _) rfl) ?_
    refine WL.opG rfl rfl rfl (OpK.callR rfl T.cf71 rfl (c_impl_ValidSided_y (Osn.rdR ho5) (Osl.rd ho6) (by first | assumption | omega | (simp only [marks_len, marksB_len, marksR_len, sumL_marksS]; omega))) (fun w27 hXw27 => ?_))
    have hB := hB.trans hXw27
    have hBc := (by first | exact hBc.trans hXw27 | exact hB0.trans hXw27)
    have ho5 := ho5.up hXw27
    have ho6 := ho6.up hXw27
    have hb9 := hb9.up hXw27
    have ho14 := ho14.up hXw27
    have ho15 := ho15.up hXw27
    have hb18 := hb18.up hXw27
    have ho21 := ho21.up hXw27
    have ho23 := ho23.up hXw27
    have ho24 := ho24.up hXw27
    have hb25 := hb25.up hXw27
    have ho26 := ho26.up hXw27
    have ho27 := ho27.up hXw27
    have hb28 := hb28.up hXw27
    have ho29 := ho29.up hXw27
    have ho30 := ho30.up hXw27
    have hb31 := hb31.up hXw27
    have ho32 := ho32.up hXw27
    have ho33 := ho33.up hXw27
    have hb34 := hb34.up hXw27
    have ho35 := ho35.up hXw27
    have ho36 := ho36.up hXw27
    have hb37 := hb37.up hXw27
    have ho38 := ho38.up hXw27
    have hn39 := hn39.up hXw27
    have ho40 := ho40.up hXw27
    have hn41 := hn41.up hXw27
    refine WL.pureG rfl rfl rfl rfl rfl (PV.not rfl) ?_
    refine WL.pure rfl rfl rfl (PV.pickF rfl rfl) ?_
    refine WL.mv rfl rfl ?_
    refine WL.pureG rfl rfl rfl rfl rfl (PV.loadA T.ag88 rfl hb9.cells (Ext.refl _) rfl) ?_
    refine WL.pureG rfl rfl rfl rfl rfl (PV.loadA T.ag88 rfl hb9.cells (Ext.refl _) rfl) ?_
    refine WL.opG rfl rfl rfl (OpK.callR rfl T.cf72 rfl (c_impl_SameSided_y (Osn.rdR ho5) (Osl.rd ho6) (Osn.rdR ho5) (Osl.rd ho6) (by exact ⟨rfl, rfl, rfl, rfl⟩)) (fun w28 hXw28 => ?_))
    have hB := hB.trans hXw28
    have hBc := (by first | exact hBc.trans hXw28 | exact hB0.trans hXw28)
    have ho5 := ho5.up hXw28
    have ho6 := ho6.up hXw28
    have hb9 := hb9.up hXw28
    have ho14 := ho14.up hXw28
    have ho15 := ho15.up hXw28
    have hb18 := hb18.up hXw28
    have ho21 := ho21.up hXw28
    have ho23 := ho23.up hXw28
    have ho24 := ho24.up hXw28
    have hb25 := hb25.up hXw28
    have ho26 := ho26.up hXw28
    have ho27 := ho27.up hXw28
    have hb28 := hb28.up hXw28
    have ho29 := ho29.up hXw28
    have ho30 := ho30.up hXw28
    have hb31 := hb31.up hXw28
    have ho32 := ho32.up hXw28
    have ho33 := ho33.up hXw28
    have hb34 := hb34.up hXw28
    have ho35 := ho35.up hXw28
    have ho36 := ho36.up hXw28
    have hb37 := hb37.up hXw28
    have ho38 := ho38.up hXw28
    have hn39 := hn39.up hXw28
    have ho40 := ho40.up hXw28
    have hn41 := hn41.up hXw28
    refine WL.pureG rfl rfl rfl rfl rfl (PV.not rfl) ?_
    refine WL.pure rfl rfl rfl (PV.pickF rfl rfl) ?_
    refine WL.mv rfl rfl ?_
    refine WL.pureG rfl rfl rfl rfl rfl (PV.move rfl) ?_
    refine WL.pureG rfl rfl rfl rfl rfl ((PV.lenOs rfl ho38 T.sl25)) ?_
    refine WL.pureG rfl rfl rfl rfl rfl (PV.move rfl) ?_
    refine WL.pureG rfl rfl rfl rfl rfl ((PV.lenOs rfl ho40 T.sl25)) ?_
    refine WL.pureG rfl rfl rfl rfl rfl (PV.neq rfl rfl) ?_
    refine WL.pure rfl rfl rfl (PV.pickF rfl rfl) ?_
    refine WL.mv rfl rfl ?_
    refine WL.split (t := 124) rfl (fun hc4 => ?_) (fun hc4 => ?_)
    · skip
      try simp only [nq] at hc4
      exfalso; revert hc4; first | (simp; done) | (simp; omega)
    try simp only [nq] at hc4
    refine WL.pureG rfl rfl rfl rfl rfl (PV.move rfl) ?_
    refine WL.pureG rfl rfl rfl rfl rfl (PV.move rfl) ?_
    refine WL.split (t := 126) rfl (fun hc5 => ?_) (fun hc5 => ?_)
    rotate_left
    · skip
      try simp only [nq] at hc5
      refine WL.skip rfl rfl rfl rfl rfl ?_
      refine WL.skip rfl rfl rfl rfl rfl ?_
      refine WL.skip rfl rfl rfl rfl rfl ?_
      refine WL.skip rfl rfl rfl rfl rfl ?_
      refine WL.pureG rfl rfl rfl rfl rfl (PV.pickF rfl rfl) ?_
      refine WL.pure rfl rfl rfl (PV.pickF rfl rfl) ?_
      refine WL.mv rfl rfl ?_
      refine WL.pureG rfl rfl rfl rfl rfl (PV.move rfl) ?_
      refine WL.pureG rfl rfl rfl rfl rfl (PV.move rfl) ?_
      refine WL.split (t := 135) rfl (fun hc6 => ?_) (fun hc6 => ?_)
      rotate_left
      · skip
        try simp only [nq] at hc6
        refine WL.skip rfl rfl rfl rfl rfl ?_
        refine WL.skip rfl rfl rfl rfl rfl ?_
        refine WL.skip rfl rfl rfl rfl rfl ?_
        refine WL.skip rfl rfl rfl rfl rfl ?_
        refine WL.pureG rfl rfl rfl rfl rfl (PV.pickF rfl rfl) ?_
        refine WL.pure rfl rfl rfl (PV.pickF rfl rfl) ?_
        refine WL.nil ?_
        exact NQ.cut (ρ := [(141, _)]) ⟨rfl, rfl, rfl, rfl, rfl, rfl, rfl, rfl, rfl, rfl, rfl, trivial⟩ ⟨(), (by first | rfl | exact congrArg (fun b => [(141, Value.bool b)]) (by first | (simp; done) | (simp; omega))), hBc, trivial⟩
      try simp only [nq] at hc6
      refine WL.pureG rfl rfl rfl rfl rfl (PV.loadA T.ag88 rfl hb34.cells (Ext.refl _) rfl) ?_
      refine WL.pureG rfl rfl rfl rfl rfl (PV.loadA T.ag88 rfl hb37.cells (Ext.refl _) rfl) ?_
      refine WL.opG rfl rfl rfl (OpK.callR rfl T.cf73 rfl (c_spec_SameSided (Osn.rdR ho32) (Osl.rd ho33) (Osn.rdR ho35) (Osl.rd ho36)) (fun w29 hXw29 => ?_))
      have hB := hB.trans hXw29
      have hBc := (by first | exact hBc.trans hXw29 | exact hB0.trans hXw29)
      have ho5 := ho5.up hXw29
      have ho6 := ho6.up hXw29
      have hb9 := hb9.up hXw29
      have ho14 := ho14.up hXw29
      have ho15 := ho15.up hXw29
      have hb18 := hb18.up hXw29
      have ho21 := ho21.up hXw29
      have ho23 := ho23.up hXw29
      have ho24 := ho24.up hXw29
      have hb25 := hb25.up hXw29
      have ho26 := ho26.up hXw29
      have ho27 := ho27.up hXw29
      have hb28 := hb28.up hXw29
      have ho29 := ho29.up hXw29
      have ho30 := ho30.up hXw29
      have hb31 := hb31.up hXw29
      have ho32 := ho32.up hXw29
      have ho33 := ho33.up hXw29
      have hb34 := hb34.up hXw29
      have ho35 := ho35.up hXw29
      have ho36 := ho36.up hXw29
      have hb37 := hb37.up hXw29
      have ho38 := ho38.up hXw29
      have hn39 := hn39.up hXw29
      have ho40 := ho40.up hXw29
      have hn41 := hn41.up hXw29
      refine WL.pureG rfl rfl rfl rfl rfl (PV.not rfl) ?_
      refine WL.pureG rfl rfl rfl rfl rfl (PV.pickT rfl rfl) ?_
      refine WL.pure rfl rfl rfl (PV.pickF rfl rfl) ?_
      refine WL.nil ?_
      exact NQ.cut (ρ := [(141, _)]) ⟨rfl, rfl, rfl, rfl, rfl, rfl, rfl, rfl, rfl, rfl, rfl, trivial⟩ ⟨(), (by first | rfl | exact congrArg (fun b => [(141, Value.bool b)]) (by first | (simp; done) | (simp; omega))), hBc, trivial⟩
    try simp only [nq] at hc5
    refine WL.pureG rfl rfl rfl rfl rfl (PV.loadA T.ag88 rfl hb28.cells (Ext.refl _) rfl) ?_
    refine WL.pureG rfl rfl rfl rfl rfl (PV.loadA T.ag88 rfl hb31.cells (Ext.refl _) rfl) ?_
    refine WL.opG rfl rfl rfl (OpK.callR rfl T.cf73 rfl (c_spec_SameSided (Osn.rdR ho26) (Osl.rd ho27) (Osn.rdR ho29) (Osl.rd ho30)) (fun w30 hXw30 => ?_))
    have hB := hB.trans hXw30
    have hBc := (by first | exact hBc.trans hXw30 | exact hB0.trans hXw30)
    have ho5 := ho5.up hXw30
    have ho6 := ho6.up hXw30
    have hb9 := hb9.up hXw30
    have ho14 := ho14.up hXw30
    have ho15 := ho15.up hXw30
    have hb18 := hb18.up hXw30
    have ho21 := ho21.up hXw30
    have ho23 := ho23.up hXw30
    have ho24 := ho24.up hXw30
    have hb25 := hb25.up hXw30
    have ho26 := ho26.up hXw30
    have ho27 := ho27.up hXw30
    have hb28 := hb28.up hXw30
    have ho29 := ho29.up hXw30
    have ho30 := ho30.up hXw30
    have hb31 := hb31.up hXw30
    have ho32 := ho32.up hXw30
    have ho33 := ho33.up hXw30
    have hb34 := hb34.up hXw30
    have ho35 := ho35.up hXw30
    have ho36 := ho36.up hXw30
    have hb37 := hb37.up hXw30
    have ho38 := ho38.up hXw30
    have hn39 := hn39.up hXw30
    have ho40 := ho40.up hXw30
    have hn41 := hn41.up hXw30
    refine WL.pureG rfl rfl rfl rfl rfl (PV.not rfl) ?_
    refine WL.pureG rfl rfl rfl rfl rfl (PV.pickT rfl rfl) ?_
    refine WL.pure rfl rfl rfl (PV.pickF rfl rfl) ?_
    refine WL.mv rfl rfl ?_
    refine WL.pureG rfl rfl rfl rfl rfl (PV.move rfl) ?_
    refine WL.pureG rfl rfl rfl rfl rfl (PV.move rfl) ?_
    refine WL.split (t := 135) rfl (fun hc7 => ?_) (fun hc7 => ?_)
    rotate_left
    · skip
      try simp only [nq] at hc7
      refine WL.skip rfl rfl rfl rfl rfl ?_
      refine WL.skip rfl rfl rfl rfl rfl ?_
      refine WL.skip rfl rfl rfl rfl rfl ?_
      refine WL.skip rfl rfl rfl rfl rfl ?_
      refine WL.pureG rfl rfl rfl rfl rfl (PV.pickF rfl rfl) ?_
      refine WL.pure rfl rfl rfl (PV.pickF rfl rfl) ?_
      refine WL.nil ?_
      exact NQ.cut (ρ := [(141, _)]) ⟨rfl, rfl, rfl, rfl, rfl, rfl, rfl, rfl, rfl, rfl, rfl, trivial⟩ ⟨(), (by first | rfl | exact congrArg (fun b => [(141, Value.bool b)]) (by first | (simp; done) | (simp; omega))), hBc, trivial⟩
    try simp only [nq] at hc7
    refine WL.pureG rfl rfl rfl rfl rfl (PV.loadA T.ag88 rfl hb34.cells (Ext.refl _) rfl) ?_
    refine WL.pureG rfl rfl rfl rfl rfl (PV.loadA T.ag88 rfl hb37.cells (Ext.refl _) rfl) ?_
    refine WL.opG rfl rfl rfl (OpK.callR rfl T.cf73 rfl (c_spec_SameSided (Osn.rdR ho32) (Osl.rd ho33) (Osn.rdR ho35) (Osl.rd ho36)) (fun w31 hXw31 => ?_))
    have hB := hB.trans hXw31
    have hBc := (by first | exact hBc.trans hXw31 | exact hB0.trans hXw31)
    have ho5 := ho5.up hXw31
    have ho6 := ho6.up hXw31
    have hb9 := hb9.up hXw31
    have ho14 := ho14.up hXw31
    have ho15 := ho15.up hXw31
    have hb18 := hb18.up hXw31
    have ho21 := ho21.up hXw31
    have ho23 := ho23.up hXw31
    have ho24 := ho24.up hXw31
    have hb25 := hb25.up hXw31
    have ho26 := ho26.up hXw31
    have ho27 := ho27.up hXw31
    have hb28 := hb28.up hXw31
    have ho29 := ho29.up hXw31
    have ho30 := ho30.up hXw31
    have hb31 := hb31.up hXw31
    have ho32 := ho32.up hXw31
    have ho33 := ho33.up hXw31
    have hb34 := hb34.up hXw31
    have ho35 := ho35.up hXw31
    have ho36 := ho36.up hXw31
    have hb37 := hb37.up hXw31
    have ho38 := ho38.up hXw31
    have hn39 := hn39.up hXw31
    have ho40 := ho40.up hXw31
    have hn41 := hn41.up hXw31
    refine WL.pureG rfl rfl rfl rfl rfl (PV.not rfl) ?_
    refine WL.pureG rfl rfl rfl rfl rfl (PV.pickT rfl rfl) ?_
    refine WL.pure rfl rfl rfl (PV.pickF rfl rfl) ?_
    refine WL.nil ?_
    exact NQ.cut (ρ := [(141, _)]) ⟨rfl, rfl, rfl, rfl, rfl, rfl, rfl, rfl, rfl, rfl, rfl, trivial⟩ ⟨(), (by first | rfl | exact congrArg (fun b => [(141, Value.bool b)]) (by first | (simp; done) | (simp; omega))), hBc, trivial⟩
  rintro _ wc1 ⟨_, rfl, hXc, _⟩
  have hB := hB.trans hXc
  have ho5 := ho5.up hXc
  have ho6 := ho6.up hXc
  have hb9 := hb9.up hXc
  have ho14 := ho14.up hXc
  have ho15 := ho15.up hXc
  have hb18 := hb18.up hXc
  have ho21 := ho21.up hXc
  have ho23 := ho23.up hXc
  have ho24 := ho24.up hXc
  have hb25 := hb25.up hXc
  have ho26 := ho26.up hXc
  have ho27 := ho27.up hXc
  have hb28 := hb28.up hXc
  have ho29 := ho29.up hXc
  have ho30 := ho30.up hXc
  have hb31 := hb31.up hXc
  have ho32 := ho32.up hXc
  have ho33 := ho33.up hXc
  have hb34 := hb34.up hXc
  have ho35 := ho35.up hXc
  have ho36 := ho36.up hXc
  have hb37 := hb37.up hXc
  have ho38 := ho38.up hXc
  have hn39 := hn39.up hXc
  have ho40 := ho40.up hXc
  have hn41 := hn41.up hXc
  refine CW.condF rfl ?_
  refine CW.skipS ?_
  refine CW.seq ?_
  refine CW.seq ?_
  refine CW.reg ?_
  refine WL.mv rfl rfl ?_
  refine WL.pure rfl rfl rfl ((PV.lenOs rfl ho38 T.sl25)) ?_
  refine WL.mv rfl rfl ?_
  refine WL.nilS ?_
  refine CW.block ?_
  refine CW.loop (σk := [(5, _), (6, _), (7, _), (8, _), (10, _), (11, _), (14, _), (15, _), (18, _), (20, _), (143, _)]) (fun ρ wz m => ∃ (k : Nat), ρ = [(144, .int .i64 (k : Nat))] ∧ m = (outL rs3 es4 ws20 2 3).length - k ∧ UpdL [] wc1 wz ∧ (k ≤ (outL rs3 es4 ws20 2 3).length)) (ρ₀ := [(144, _)]) (m₀ := _) ⟨rfl, rfl, rfl, rfl, rfl, rfl, rfl, rfl, rfl, rfl, rfl, rfl, trivial⟩ ⟨0, rfl, rfl, (UpdL.refl _ _), (by first | omega | rfl | (simp; done) | assumption | (simp_all; done))⟩ ?_
  rintro _ wl1 _ ⟨k, rfl, rfl, hU0, hk⟩
  have ho5 := ho5.loop hU0 trivial
  have ho6 := ho6.loop hU0 trivial
  have hb9 := hb9.loop hU0 trivial
  have ho14 := ho14.loop hU0 trivial
  have ho15 := ho15.loop hU0 trivial
  have hb18 := hb18.loop hU0 trivial
  have ho21 := ho21.loop hU0 trivial
  have ho23 := ho23.loop hU0 trivial
  have ho24 := ho24.loop hU0 trivial
  have hb25 := hb25.loop hU0 trivial
  have ho26 := ho26.loop hU0 trivial
  have ho27 := ho27.loop hU0 trivial
  have hb28 := hb28.loop hU0 trivial
  have ho29 := ho29.loop hU0 trivial
  have ho30 := ho30.loop hU0 trivial
  have hb31 := hb31.loop hU0 trivial
  have ho32 := ho32.loop hU0 trivial
  have ho33 := ho33.loop hU0 trivial
  have hb34 := hb34.loop hU0 trivial
  have ho35 := ho35.loop hU0 trivial
  have ho36 := ho36.loop hU0 trivial
  have hb37 := hb37.loop hU0 trivial
  have ho38 := ho38.loop hU0 trivial
  have hn39 := hn39.loop hU0 trivial
  have ho40 := ho40.loop hU0 trivial
  have hn41 := hn41.loop hU0 trivial
  have hB := hB.loop hU0 trivial
  refine CW.seq ?_
  refine CW.reg ?_
  refine WL.pure rfl rfl rfl (PV.lss rfl rfl) ?_
  refine WL.nilS ?_
  refine CW.seq ?_
  refine CW.cond rfl (fun hc8 => ?_) (fun hc8 => ?_)
  · skip
    try simp only [nq] at hc8
    refine CW.skipS ?_
    refine CW.seq ?_
    refine CW.block ?_
    refine CW.seq ?_
    refine CW.reg ?_
    refine WL.mv rfl rfl ?_
    refine WL.asg rfl rfl ?_
    refine WL.nilS ?_
    refine CW.seq ?_
    refine CW.draw T.mixed (by kernel_rfl) (fun _ _ _ _ _ h => h) (fun w8 w9 => Upd none w8 w9) 12 (.take 0 (.take 1 (.take 2 (.take 3 (.take 4 (.take 5 (.must 6 (.take 7 (.take 8 (.take 9 (.take 10 (.take 11 .done)))))))))))) (by kernel_rfl) (fun w32 hXd => ?_)
    have hB := hB.trans hXd
    have ho5 := ho5.up hXd
    have ho6 := ho6.up hXd
    have hb9 := hb9.up hXd
    have ho14 := ho14.up hXd
    have ho15 := ho15.up hXd
    have hb18 := hb18.up hXd
    have ho21 := ho21.up hXd
    have ho23 := ho23.up hXd
    have ho24 := ho24.up hXd
    have hb25 := hb25.up hXd
    have ho26 := ho26.up hXd
    have ho27 := ho27.up hXd
    have hb28 := hb28.up hXd
    have ho29 := ho29.up hXd
    have ho30 := ho30.up hXd
    have hb31 := hb31.up hXd
    have ho32 := ho32.up hXd
    have ho33 := ho33.up hXd
    have hb34 := hb34.up hXd
    have ho35 := ho35.up hXd
    have ho36 := ho36.up hXd
    have hb37 := hb37.up hXd
    have ho38 := ho38.up hXd
    have hn39 := hn39.up hXd
    have ho40 := ho40.up hXd
    have hn41 := hn41.up hXd
    have hU0 := hU0.ext hXd
    have hBr := hB
    have hS : Upd none w32 w32 := Ext.toUpd (Ext.refl _)
    have hO := out_get (rs := rs3) (en := es4) (ins := ws20) (L := 2) (mo := 3) (k := k) hL12 (by decide) (by omega); have hO1 := hO.1; have hOW := hO.2; have hOA := rdT hO1; have hOT := rdT (rd_turn hO1)
    refine HP.take rfl rfl rfl rfl hS (fun wS hS1 => PV.loadA T.ag88 rfl (Bx.cells (Bx.updD (by assumption) hS1 (Dj.nlR _))) (Ext.refl _) rfl) ?_
    refine HP.take rfl rfl rfl rfl hS (fun wS hS1 => PV.move rfl) ?_
    refine HP.take rfl rfl rfl rfl hS (fun wS hS1 => PV.move rfl) ?_
    first
      | refine HP.atO (wb := w32) (x := .tmp 149) (y := .tmp 150) (f := VV) (.slice none 0 0) rfl rfl (by assumption) (by first | omega | (simp only [List.length_set]; omega) | (simp only [List.length_append, List.length_take, List.length_replicate, List.length_drop]; omega)) (fun p1 hpp1 hcp1 => ?_)
      | refine HP.atOZ (wb := w32) (x := .tmp 149) (y := .tmp 150) (f := VV) (.slice none 0 0) rfl rfl (by assumption) (by first | omega | (simp only [List.length_set]; omega) | (simp only [List.length_append, List.length_take, List.length_replicate, List.length_drop]; omega)) (fun p1 hpp1 hzp1 hcp1 => ?_)
    refine HP.take rfl rfl rfl rfl hS (fun wS hS1 => (by first | exact PV.indexAddr hpp1 rfl rfl T.sl25 | exact PV.indexAddr hpp1 rfl (by rw [← hzp1]; rfl) T.sl25)) ?_
    refine HP.take rfl rfl rfl rfl hS (fun wS hS1 => (by first | exact PV.load0 T.na28 rfl (by first | exact Cells.up (by assumption) (hBr.trans hS1) | exact Bx.cells (Bx.updD (by assumption) hS1 (Dj.nlR _)) | exact Cells.upd (by assumption) hS1 (by simp)) (Ext.refl _) rfl | exact PV.load1 T.na28 rfl (by first | exact Cells.up (by assumption) (hBr.trans hS1) | exact Bx.cells (Bx.updD (by assumption) hS1 (Dj.nlR _)) | exact Cells.upd (by assumption) hS1 (by simp)) (Ext.refl _) rfl)) ?_
    refine HP.take rfl rfl rfl rfl hS (fun wS hS1 => PV.move rfl) ?_
    refine HP.must rfl rfl (OpK.callR rfl T.cf74 rfl (c_impl_ReadsPair_y (Osn.rdR ho23) (Osl.rd ho24) (by first | assumption | exact Rd.up (by assumption) hB | exact Osl.rd (by assumption) | exact Osn.rdR (by assumption) | exact NL.rd (by assumption) | exact rdII (by assumption) (by assumption) | exact Inn.rd (by assumption) (by omega)) (Osl.rd ho21) (by first | assumption | omega | (simp only [marks_len, marksB_len, marksR_len, sumL_marksS]; omega)) (by first | assumption | omega | (simp only [marks_len, marksB_len, marksR_len, sumL_marksS]; omega)) (by first | assumption | omega | (simp only [marks_len, marksB_len, marksR_len, sumL_marksS]; omega)) (by first | assumption | omega | (simp only [marks_len, marksB_len, marksR_len, sumL_marksS]; omega))) (fun w33 hXw33 => ?_))
    refine ⟨Upd.trans hS hXw33, ?_⟩
    have hS := Upd.trans hS hXw33
    have hB := hB.trans hXw33
    have ho5 := ho5.up hXw33
    have ho6 := ho6.up hXw33
    have hb9 := hb9.up hXw33
    have ho14 := ho14.up hXw33
    have ho15 := ho15.up hXw33
    have hb18 := hb18.up hXw33
    have ho21 := ho21.up hXw33
    have ho23 := ho23.up hXw33
    have ho24 := ho24.up hXw33
    have hb25 := hb25.up hXw33
    have ho26 := ho26.up hXw33
    have ho27 := ho27.up hXw33
    have hb28 := hb28.up hXw33
    have ho29 := ho29.up hXw33
    have ho30 := ho30.up hXw33
    have hb31 := hb31.up hXw33
    have ho32 := ho32.up hXw33
    have ho33 := ho33.up hXw33
    have hb34 := hb34.up hXw33
    have ho35 := ho35.up hXw33
    have ho36 := ho36.up hXw33
    have hb37 := hb37.up hXw33
    have ho38 := ho38.up hXw33
    have hn39 := hn39.up hXw33
    have ho40 := ho40.up hXw33
    have hn41 := hn41.up hXw33
    have hU0 := hU0.ext hXw33
    refine HP.take rfl rfl rfl rfl hS (fun wS hS1 => PV.move rfl) ?_
    refine HP.take rfl rfl rfl rfl hS (fun wS hS1 => PV.extract rfl rfl) ?_
    refine HP.take rfl rfl rfl rfl hS (fun wS hS1 => PV.extract rfl rfl) ?_
    refine HP.take rfl rfl rfl rfl hS (fun wS hS1 => PV.assign rfl) ?_
    refine HP.take rfl rfl rfl rfl hS (fun wS hS1 => PV.assign rfl) ?_
    refine HP.doneS ?_
    refine CW.seq ?_
    refine CW.draw T.mixed (by kernel_rfl) (fun _ _ _ _ _ h => h) (fun w8 w9 => Upd none w8 w9) 12 (.take 0 (.take 1 (.take 2 (.take 3 (.take 4 (.take 5 (.must 6 (.take 7 (.take 8 (.take 9 (.take 10 (.take 11 .done)))))))))))) (by kernel_rfl) (fun w34 hXd => ?_)
    have hB := hB.trans hXd
    have ho5 := ho5.up hXd
    have ho6 := ho6.up hXd
    have hb9 := hb9.up hXd
    have ho14 := ho14.up hXd
    have ho15 := ho15.up hXd
    have hb18 := hb18.up hXd
    have ho21 := ho21.up hXd
    have ho23 := ho23.up hXd
    have ho24 := ho24.up hXd
    have hb25 := hb25.up hXd
    have ho26 := ho26.up hXd
    have ho27 := ho27.up hXd
    have hb28 := hb28.up hXd
    have ho29 := ho29.up hXd
    have ho30 := ho30.up hXd
    have hb31 := hb31.up hXd
    have ho32 := ho32.up hXd
    have ho33 := ho33.up hXd
    have hb34 := hb34.up hXd
    have ho35 := ho35.up hXd
    have ho36 := ho36.up hXd
    have hb37 := hb37.up hXd
    have ho38 := ho38.up hXd
    have hn39 := hn39.up hXd
    have ho40 := ho40.up hXd
    have hn41 := hn41.up hXd
    have hU0 := hU0.ext hXd
    have hBr := hB
    have hS : Upd none w34 w34 := Ext.toUpd (Ext.refl _)
    refine HP.take rfl rfl rfl rfl hS (fun wS hS1 => PV.loadA T.ag88 rfl (Bx.cells (Bx.updD (by assumption) hS1 (Dj.nlR _))) (Ext.refl _) rfl) ?_
    refine HP.take rfl rfl rfl rfl hS (fun wS hS1 => PV.move rfl) ?_
    refine HP.take rfl rfl rfl rfl hS (fun wS hS1 => PV.move rfl) ?_
    refine HP.take rfl rfl rfl rfl hS (fun wS hS1 => PV.move rfl) ?_
    first
      | refine HP.atO (wb := w34) (x := .tmp 160) (y := .tmp 161) (f := VV) (.slice none 0 0) rfl rfl (by assumption) (by first | omega | (simp only [List.length_set]; omega) | (simp only [List.length_append, List.length_take, List.length_replicate, List.length_drop]; omega)) (fun p2 hpp2 hcp2 => ?_)
      | refine HP.atOZ (wb := w34) (x := .tmp 160) (y := .tmp 161) (f := VV) (.slice none 0 0) rfl rfl (by assumption) (by first | omega | (simp only [List.length_set]; omega) | (simp only [List.length_append, List.length_take, List.length_replicate, List.length_drop]; omega)) (fun p2 hpp2 hzp2 hcp2 => ?_)
    refine HP.take rfl rfl rfl rfl hS (fun wS hS1 => (by first | exact PV.indexAddr hpp2 rfl rfl T.sl25 | exact PV.indexAddr hpp2 rfl (by rw [← hzp2]; rfl) T.sl25)) ?_
    refine HP.take rfl rfl rfl rfl hS (fun wS hS1 => (by first | exact PV.load0 T.na28 rfl (by first | exact Cells.up (by assumption) (hBr.trans hS1) | exact Bx.cells (Bx.updD (by assumption) hS1 (Dj.nlR _)) | exact Cells.upd (by assumption) hS1 (by simp)) (Ext.refl _) rfl | exact PV.load1 T.na28 rfl (by first | exact Cells.up (by assumption) (hBr.trans hS1) | exact Bx.cells (Bx.updD (by assumption) hS1 (Dj.nlR _)) | exact Cells.upd (by assumption) hS1 (by simp)) (Ext.refl _) rfl)) ?_
    refine HP.must rfl rfl (OpK.callR rfl T.cf74 rfl (c_impl_ReadsPair_y (Osn.rdR ho5) (Osl.rd ho6) (Osl.rd ho21) (by first | assumption | exact Rd.up (by assumption) hB | exact Osl.rd (by assumption) | exact Osn.rdR (by assumption) | exact NL.rd (by assumption) | exact rdII (by assumption) (by assumption) | exact Inn.rd (by assumption) (by omega)) (by first | assumption | omega | (simp only [marks_len, marksB_len, marksR_len, sumL_marksS]; omega)) (by first | assumption | omega | (simp only [marks_len, marksB_len, marksR_len, sumL_marksS]; omega)) (by first | assumption | omega | (simp only [marks_len, marksB_len, marksR_len, sumL_marksS]; omega)) (by first | assumption | omega | (simp only [marks_len, marksB_len, marksR_len, sumL_marksS]; omega))) (fun w35 hXw35 => ?_))
    refine ⟨Upd.trans hS hXw35, ?_⟩
    have hS := Upd.trans hS hXw35
    have hB := hB.trans hXw35
    have ho5 := ho5.up hXw35
    have ho6 := ho6.up hXw35
    have hb9 := hb9.up hXw35
    have ho14 := ho14.up hXw35
    have ho15 := ho15.up hXw35
    have hb18 := hb18.up hXw35
    have ho21 := ho21.up hXw35
    have ho23 := ho23.up hXw35
    have ho24 := ho24.up hXw35
    have hb25 := hb25.up hXw35
    have ho26 := ho26.up hXw35
    have ho27 := ho27.up hXw35
    have hb28 := hb28.up hXw35
    have ho29 := ho29.up hXw35
    have ho30 := ho30.up hXw35
    have hb31 := hb31.up hXw35
    have ho32 := ho32.up hXw35
    have ho33 := ho33.up hXw35
    have hb34 := hb34.up hXw35
    have ho35 := ho35.up hXw35
    have ho36 := ho36.up hXw35
    have hb37 := hb37.up hXw35
    have ho38 := ho38.up hXw35
    have hn39 := hn39.up hXw35
    have ho40 := ho40.up hXw35
    have hn41 := hn41.up hXw35
    have hU0 := hU0.ext hXw35
    refine HP.take rfl rfl rfl rfl hS (fun wS hS1 => PV.move rfl) ?_
    refine HP.take rfl rfl rfl rfl hS (fun wS hS1 => PV.extract rfl rfl) ?_
    refine HP.take rfl rfl rfl rfl hS (fun wS hS1 => PV.extract rfl rfl) ?_
    refine HP.take rfl rfl rfl rfl hS (fun wS hS1 => PV.assign rfl) ?_
    refine HP.take rfl rfl rfl rfl hS (fun wS hS1 => PV.assign rfl) ?_
    refine HP.doneS ?_
    refine CW.seq ?_
    refine CW.seq ?_
    refine CW.draw T.mixed (by kernel_rfl) (fun _ _ _ _ _ h => h) (fun w8 w9 => Upd none w8 w9) 26 (.take 0 (.take 1 (.take 2 (.split (.take 3 (.take 4 (.take 5 (.take 6 (.take 7 (.take 8 (.take 9 (.take 10 (.take 11 (.take 12 (.take 13 (.take 14 (.take 15 (.take 16 (.take 17 (.take 18 (.take 19 (.take 20 (.take 21 (.take 22 (.take 23 (.take 24 (.take 25 .done))))))))))))))))))))))) (.take 3 (.take 4 (.take 5 (.take 6 (.split (.take 7 (.take 8 (.take 9 (.take 10 (.take 11 (.take 12 (.take 13 (.take 14 (.take 15 (.take 16 (.take 17 (.take 18 (.take 19 (.take 20 (.take 21 (.take 22 (.take 23 (.take 24 (.take 25 .done))))))))))))))))))) (.take 7 (.take 8 (.take 9 (.take 10 (.split (.take 11 (.take 12 (.take 13 (.take 14 (.take 15 (.take 16 (.take 17 (.take 18 (.take 19 (.take 20 (.take 21 (.take 22 (.take 23 (.take 24 (.take 25 .done))))))))))))))) (.take 11 (.take 12 (.take 13 (.take 14 (.split (.take 15 (.take 16 (.take 17 (.take 18 (.take 19 (.take 20 (.take 21 (.take 22 (.take 23 (.take 24 (.take 25 .done))))))))))) (.take 15 (.take 16 (.take 17 (.take 18 (.take 19 (.take 20 (.take 21 (.take 22 (.must 23 (.take 24 (.take 25 .done)))))))))))))))))))))))))))))) (by kernel_rfl) (fun w36 hXd => ?_)
    have hB := hB.trans hXd
    have ho5 := ho5.up hXd
    have ho6 := ho6.up hXd
    have hb9 := hb9.up hXd
    have ho14 := ho14.up hXd
    have ho15 := ho15.up hXd
    have hb18 := hb18.up hXd
    have ho21 := ho21.up hXd
    have ho23 := ho23.up hXd
    have ho24 := ho24.up hXd
    have hb25 := hb25.up hXd
    have ho26 := ho26.up hXd
    have ho27 := ho27.up hXd
    have hb28 := hb28.up hXd
    have ho29 := ho29.up hXd
    have ho30 := ho30.up hXd
    have hb31 := hb31.up hXd
    have ho32 := ho32.up hXd
    have ho33 := ho33.up hXd
    have hb34 := hb34.up hXd
    have ho35 := ho35.up hXd
    have ho36 := ho36.up hXd
    have hb37 := hb37.up hXd
    have ho38 := ho38.up hXd
    have hn39 := hn39.up hXd
    have ho40 := ho40.up hXd
    have hn41 := hn41.up hXd
    have hU0 := hU0.ext hXd
    have hBr := hB
    have hS : Upd none w36 w36 := Ext.toUpd (Ext.refl _)
    refine HP.take rfl rfl rfl rfl hS (fun wS hS1 => PV.move rfl) ?_
    refine HP.take rfl rfl rfl rfl hS (fun wS hS1 => PV.not rfl) ?_
    refine HP.take rfl rfl rfl rfl hS (fun wS hS1 => PV.move rfl) ?_
    refine HP.split (t := 169) rfl (fun hc9 => ?_) (fun hc9 => ?_)
    · skip
      try simp only [nq] at hc9
      exfalso; revert hc9; first | (simp; done) | (simp; omega)
    try simp only [nq] at hc9
    refine HP.takeG rfl rfl rfl rfl rfl rfl hS (fun wS hS1 => PV.move rfl) ?_
    refine HP.takeG rfl rfl rfl rfl rfl rfl hS (fun wS hS1 => PV.not rfl) ?_
    refine HP.take rfl rfl rfl rfl hS (fun wS hS1 => PV.pickF rfl rfl) ?_
    refine HP.take rfl rfl rfl rfl hS (fun wS hS1 => PV.move rfl) ?_
    refine HP.split (t := 173) rfl (fun hc10 => ?_) (fun hc10 => ?_)
    · skip
      try simp only [nq] at hc10
      exfalso; revert hc10; first | (simp; done) | (simp; omega)
    try simp only [nq] at hc10
    refine HP.takeG rfl rfl rfl rfl rfl rfl hS (fun wS hS1 => PV.move rfl) ?_
    refine HP.takeG rfl rfl rfl rfl rfl rfl hS (fun wS hS1 => PV.not rfl) ?_
    refine HP.take rfl rfl rfl rfl hS (fun wS hS1 => PV.pickF rfl rfl) ?_
    refine HP.take rfl rfl rfl rfl hS (fun wS hS1 => PV.move rfl) ?_
    refine HP.split (t := 177) rfl (fun hc11 => ?_) (fun hc11 => ?_)
    · skip
      try simp only [nq] at hc11
      exfalso; revert hc11; first | (simp; done) | (simp; omega)
    try simp only [nq] at hc11
    refine HP.takeG rfl rfl rfl rfl rfl rfl hS (fun wS hS1 => PV.move rfl) ?_
    refine HP.takeG rfl rfl rfl rfl rfl rfl hS (fun wS hS1 => PV.not rfl) ?_
    refine HP.take rfl rfl rfl rfl hS (fun wS hS1 => PV.pickF rfl rfl) ?_
    refine HP.take rfl rfl rfl rfl hS (fun wS hS1 => PV.move rfl) ?_
    refine HP.split (t := 181) rfl (fun hc12 => ?_) (fun hc12 => ?_)
    · skip
      try simp only [nq] at hc12
      exfalso; revert hc12; first | (simp; done) | (simp; omega)
    try simp only [nq] at hc12
    refine HP.takeG rfl rfl rfl rfl rfl rfl hS (fun wS hS1 => PV.move rfl) ?_
    refine HP.takeG rfl rfl rfl rfl rfl rfl hS (fun wS hS1 => PV.move rfl) ?_
    first
      | refine HP.atO (wb := w36) (x := .tmp 182) (y := .tmp 183) (f := VV) (.slice none 0 0) rfl rfl (by assumption) (by first | omega | (simp only [List.length_set]; omega) | (simp only [List.length_append, List.length_take, List.length_replicate, List.length_drop]; omega)) (fun p3 hpp3 hcp3 => ?_)
      | refine HP.atOZ (wb := w36) (x := .tmp 182) (y := .tmp 183) (f := VV) (.slice none 0 0) rfl rfl (by assumption) (by first | omega | (simp only [List.length_set]; omega) | (simp only [List.length_append, List.length_take, List.length_replicate, List.length_drop]; omega)) (fun p3 hpp3 hzp3 hcp3 => ?_)
    refine HP.takeG rfl rfl rfl rfl rfl rfl hS (fun wS hS1 => (by first | exact PV.indexAddr hpp3 rfl rfl T.sl25 | exact PV.indexAddr hpp3 rfl (by rw [← hzp3]; rfl) T.sl25)) ?_
    refine HP.takeG rfl rfl rfl rfl rfl rfl hS (fun wS hS1 => (by first | exact PV.load0 T.na28 rfl (by first | exact Cells.up (by assumption) (hBr.trans hS1) | exact Bx.cells (Bx.updD (by assumption) hS1 (Dj.nlR _)) | exact Cells.upd (by assumption) hS1 (by simp)) (Ext.refl _) rfl | exact PV.load1 T.na28 rfl (by first | exact Cells.up (by assumption) (hBr.trans hS1) | exact Bx.cells (Bx.updD (by assumption) hS1 (Dj.nlR _)) | exact Cells.upd (by assumption) hS1 (by simp)) (Ext.refl _) rfl)) ?_
    refine HP.takeG rfl rfl rfl rfl rfl rfl hS (fun wS hS1 => PV.move rfl) ?_
    refine HP.takeG rfl rfl rfl rfl rfl rfl hS (fun wS hS1 => PV.move rfl) ?_
    first
      | refine HP.atO (wb := w36) (x := .tmp 186) (y := .tmp 187) (f := VV) (.slice none 0 0) rfl rfl (by assumption) (by first | omega | (simp only [List.length_set]; omega) | (simp only [List.length_append, List.length_take, List.length_replicate, List.length_drop]; omega)) (fun p4 hpp4 hcp4 => ?_)
      | refine HP.atOZ (wb := w36) (x := .tmp 186) (y := .tmp 187) (f := VV) (.slice none 0 0) rfl rfl (by assumption) (by first | omega | (simp only [List.length_set]; omega) | (simp only [List.length_append, List.length_take, List.length_replicate, List.length_drop]; omega)) (fun p4 hpp4 hzp4 hcp4 => ?_)
    refine HP.takeG rfl rfl rfl rfl rfl rfl hS (fun wS hS1 => (by first | exact PV.indexAddr hpp4 rfl rfl T.sl25 | exact PV.indexAddr hpp4 rfl (by rw [← hzp4]; rfl) T.sl25)) ?_
    refine HP.takeG rfl rfl rfl rfl rfl rfl hS (fun wS hS1 => (by first | exact PV.load0 T.na28 rfl (by first | exact Cells.up (by assumption) (hBr.trans hS1) | exact Bx.cells (Bx.updD (by assumption) hS1 (Dj.nlR _)) | exact Cells.upd (by assumption) hS1 (by simp)) (Ext.refl _) rfl | exact PV.load1 T.na28 rfl (by first | exact Cells.up (by assumption) (hBr.trans hS1) | exact Bx.cells (Bx.updD (by assumption) hS1 (Dj.nlR _)) | exact Cells.upd (by assumption) hS1 (by simp)) (Ext.refl _) rfl)) ?_
    refine HP.mustG rfl rfl rfl rfl (OpK.callR rfl T.cf75 rfl (c_laws_b10Ints_y (by first | assumption | exact Rd.up (by assumption) hB | exact Osl.rd (by assumption) | exact Osn.rdR (by assumption) | exact NL.rd (by assumption) | exact rdII (by assumption) (by assumption) | exact Inn.rd (by assumption) (by omega)) (by first | assumption | exact Rd.up (by assumption) hB | exact Osl.rd (by assumption) | exact Osn.rdR (by assumption) | exact NL.rd (by assumption) | exact rdII (by assumption) (by assumption) | exact Inn.rd (by assumption) (by omega)) (by first | rfl | assumption)) (fun w37 hXw37 => ?_))
    refine ⟨Upd.trans hS hXw37, ?_⟩
    have hS := Upd.trans hS hXw37
    have hB := hB.trans hXw37
    have ho5 := ho5.up hXw37
    have ho6 := ho6.up hXw37
    have hb9 := hb9.up hXw37
    have ho14 := ho14.up hXw37
    have ho15 := ho15.up hXw37
    have hb18 := hb18.up hXw37
    have ho21 := ho21.up hXw37
    have ho23 := ho23.up hXw37
    have ho24 := ho24.up hXw37
    have hb25 := hb25.up hXw37
    have ho26 := ho26.up hXw37
    have ho27 := ho27.up hXw37
    have hb28 := hb28.up hXw37
    have ho29 := ho29.up hXw37
    have ho30 := ho30.up hXw37
    have hb31 := hb31.up hXw37
    have ho32 := ho32.up hXw37
    have ho33 := ho33.up hXw37
    have hb34 := hb34.up hXw37
    have ho35 := ho35.up hXw37
    have ho36 := ho36.up hXw37
    have hb37 := hb37.up hXw37
    have ho38 := ho38.up hXw37
    have hn39 := hn39.up hXw37
    have ho40 := ho40.up hXw37
    have hn41 := hn41.up hXw37
    have hU0 := hU0.ext hXw37
    refine HP.takeG rfl rfl rfl rfl rfl rfl hS (fun wS hS1 => PV.not rfl) ?_
    refine HP.take rfl rfl rfl rfl hS (fun wS hS1 => PV.pickF rfl rfl) ?_
    refine HP.doneS ?_
    refine CW.condF rfl ?_
    refine CW.skipS ?_
    refine CW.seq ?_
    refine CW.seq ?_
    refine CW.reg ?_
    refine WL.mv rfl rfl ?_
    refine WL.nilS ?_
    refine CW.cond rfl (fun hc13 => ?_) (fun hc13 => ?_)
    · skip
      try simp only [nq] at hc13
      have hEB := (by assumption : (bothB S2 2 rs3 es4 S11 2 rs12 es13) = true); have hEV := bothV hEB; have hWE := onW hEB hW; have hOWE := onW hEB hOW; have hER := onR hEB (rd_either (n := S2) (ys := rs12) (ye := es13) hA hO1)
      refine CW.seq ?_
      refine CW.draw T.mixed (by kernel_rfl) (fun _ _ _ _ _ h => h) (fun w8 w9 => Upd none w8 w9) 12 (.take 0 (.take 1 (.take 2 (.take 3 (.take 4 (.take 5 (.must 6 (.take 7 (.take 8 (.take 9 (.take 10 (.take 11 .done)))))))))))) (by kernel_rfl) (fun w38 hXd => ?_)
      have hB := hB.trans hXd
      have ho5 := ho5.up hXd
      have ho6 := ho6.up hXd
      have hb9 := hb9.up hXd
      have ho14 := ho14.up hXd
      have ho15 := ho15.up hXd
      have hb18 := hb18.up hXd
      have ho21 := ho21.up hXd
      have ho23 := ho23.up hXd
      have ho24 := ho24.up hXd
      have hb25 := hb25.up hXd
      have ho26 := ho26.up hXd
      have ho27 := ho27.up hXd
      have hb28 := hb28.up hXd
      have ho29 := ho29.up hXd
      have ho30 := ho30.up hXd
      have hb31 := hb31.up hXd
      have ho32 := ho32.up hXd
      have ho33 := ho33.up hXd
      have hb34 := hb34.up hXd
      have ho35 := ho35.up hXd
      have ho36 := ho36.up hXd
      have hb37 := hb37.up hXd
      have ho38 := ho38.up hXd
      have hn39 := hn39.up hXd
      have ho40 := ho40.up hXd
      have hn41 := hn41.up hXd
      have hU0 := hU0.ext hXd
      have hBr := hB
      have hS : Upd none w38 w38 := Ext.toUpd (Ext.refl _)
      refine HP.take rfl rfl rfl rfl hS (fun wS hS1 => PV.loadA T.ag88 rfl (Bx.cells (Bx.updD (by assumption) hS1 (Dj.nlR _))) (Ext.refl _) rfl) ?_
      refine HP.take rfl rfl rfl rfl hS (fun wS hS1 => PV.move rfl) ?_
      refine HP.take rfl rfl rfl rfl hS (fun wS hS1 => PV.move rfl) ?_
      refine HP.take rfl rfl rfl rfl hS (fun wS hS1 => PV.move rfl) ?_
      first
        | refine HP.atO (wb := w38) (x := .tmp 197) (y := .tmp 198) (f := VV) (.slice none 0 0) rfl rfl (by assumption) (by first | omega | (simp only [List.length_set]; omega) | (simp only [List.length_append, List.length_take, List.length_replicate, List.length_drop]; omega)) (fun p5 hpp5 hcp5 => ?_)
        | refine HP.atOZ (wb := w38) (x := .tmp 197) (y := .tmp 198) (f := VV) (.slice none 0 0) rfl rfl (by assumption) (by first | omega | (simp only [List.length_set]; omega) | (simp only [List.length_append, List.length_take, List.length_replicate, List.length_drop]; omega)) (fun p5 hpp5 hzp5 hcp5 => ?_)
      refine HP.take rfl rfl rfl rfl hS (fun wS hS1 => (by first | exact PV.indexAddr hpp5 rfl rfl T.sl25 | exact PV.indexAddr hpp5 rfl (by rw [← hzp5]; rfl) T.sl25)) ?_
      refine HP.take rfl rfl rfl rfl hS (fun wS hS1 => (by first | exact PV.load0 T.na28 rfl (by first | exact Cells.up (by assumption) (hBr.trans hS1) | exact Bx.cells (Bx.updD (by assumption) hS1 (Dj.nlR _)) | exact Cells.upd (by assumption) hS1 (by simp)) (Ext.refl _) rfl | exact PV.load1 T.na28 rfl (by first | exact Cells.up (by assumption) (hBr.trans hS1) | exact Bx.cells (Bx.updD (by assumption) hS1 (Dj.nlR _)) | exact Cells.upd (by assumption) hS1 (by simp)) (Ext.refl _) rfl)) ?_
      refine HP.must rfl rfl (OpK.callR rfl T.cf74 rfl (c_impl_ReadsPair_y (Osn.rdR ho32) (Osl.rd ho33) (Osl.rd ho21) (by first | assumption | exact Rd.up (by assumption) hB | exact Osl.rd (by assumption) | exact Osn.rdR (by assumption) | exact NL.rd (by assumption) | exact rdII (by assumption) (by assumption) | exact Inn.rd (by assumption) (by omega)) (by first | assumption | omega | (simp only [marks_len, marksB_len, marksR_len, sumL_marksS]; omega)) (by first | assumption | omega | (simp only [marks_len, marksB_len, marksR_len, sumL_marksS]; omega)) (by first | assumption | omega | (simp only [marks_len, marksB_len, marksR_len, sumL_marksS]; omega)) (by first | assumption | omega | (simp only [marks_len, marksB_len, marksR_len, sumL_marksS]; omega))) (fun w39 hXw39 => ?_))
      refine ⟨Upd.trans hS hXw39, ?_⟩
      have hS := Upd.trans hS hXw39
      have hB := hB.trans hXw39
      have ho5 := ho5.up hXw39
      have ho6 := ho6.up hXw39
      have hb9 := hb9.up hXw39
      have ho14 := ho14.up hXw39
      have ho15 := ho15.up hXw39
      have hb18 := hb18.up hXw39
      have ho21 := ho21.up hXw39
      have ho23 := ho23.up hXw39
      have ho24 := ho24.up hXw39
      have hb25 := hb25.up hXw39
      have ho26 := ho26.up hXw39
      have ho27 := ho27.up hXw39
      have hb28 := hb28.up hXw39
      have ho29 := ho29.up hXw39
      have ho30 := ho30.up hXw39
      have hb31 := hb31.up hXw39
      have ho32 := ho32.up hXw39
      have ho33 := ho33.up hXw39
      have hb34 := hb34.up hXw39
      have ho35 := ho35.up hXw39
      have ho36 := ho36.up hXw39
      have hb37 := hb37.up hXw39
      have ho38 := ho38.up hXw39
      have hn39 := hn39.up hXw39
      have ho40 := ho40.up hXw39
      have hn41 := hn41.up hXw39
      have hU0 := hU0.ext hXw39
      refine HP.take rfl rfl rfl rfl hS (fun wS hS1 => PV.move rfl) ?_
      refine HP.take rfl rfl rfl rfl hS (fun wS hS1 => PV.extract rfl rfl) ?_
      refine HP.take rfl rfl rfl rfl hS (fun wS hS1 => PV.extract rfl rfl) ?_
      refine HP.take rfl rfl rfl rfl hS (fun wS hS1 => PV.assign rfl) ?_
      refine HP.take rfl rfl rfl rfl hS (fun wS hS1 => PV.assign rfl) ?_
      refine HP.doneS ?_
      refine CW.seq ?_
      refine CW.reg ?_
      refine WL.mv rfl rfl ?_
      refine WL.pure rfl rfl rfl (PV.not rfl) ?_
      refine WL.mv rfl rfl ?_
      refine WL.split (t := 206) rfl (fun hc14 => ?_) (fun hc14 => ?_)
      · skip
        try simp only [nq] at hc14
        exfalso; revert hc14; first | (simp; done) | (simp; omega)
      try simp only [nq] at hc14
      refine WL.pureG rfl rfl rfl rfl rfl (PV.move rfl) ?_
      refine WL.pureG rfl rfl rfl rfl rfl (PV.not rfl) ?_
      refine WL.pure rfl rfl rfl (PV.pickF rfl rfl) ?_
      refine WL.nilS ?_
      refine CW.cond rfl (fun hc15 => ?_) (fun hc15 => ?_)
      · skip
        try simp only [nq] at hc15
        exfalso; revert hc15; first | (simp; done) | (simp; omega)
      try simp only [nq] at hc15
      refine CW.skipS ?_
      refine CW.seq ?_
      refine CW.seq ?_
      refine CW.reg ?_
      refine WL.mv rfl rfl ?_
      refine WL.pure rfl rfl rfl (PV.not rfl) ?_
      refine WL.nilS ?_
      refine CW.cond rfl (fun hc16 => ?_) (fun hc16 => ?_)
      · skip
        try simp only [nq] at hc16
        refine CW.exit ?_
        refine XQ.then ?_
        refine XQ.here ?_
        refine NQ.then ?_
        refine CW.reg ?_
        refine WL.pure rfl rfl rfl (PV.add rfl rfl (by constructor <;> omega)) ?_
        refine WL.mv rfl rfl ?_
        refine WL.nil ?_
        refine NQ.next (ρ := [(144, _)]) ⟨rfl, rfl, rfl, rfl, rfl, rfl, rfl, rfl, rfl, rfl, rfl, rfl, trivial⟩ ?_
        exact ⟨_, ⟨k + 1, rfl, rfl, hU0, (by first | omega | assumption | (simp_all; done) | (simp_all; omega))⟩, by omega⟩
      try simp only [nq] at hc16
      have hCB := (by assumption : (chainB S2 2 rs3 es4 S11 2 rs12 es13) = true); have hCV := chainV hCB; have hWC := onW hCB hW; have hSB := out_y hBv hOW (show (0 : Int) ≤ 2 ∧ (2 : Int) ≤ 4 from by decide); have hlB := out_len hSB
      refine CW.skipS ?_
      refine CW.seq ?_
      refine CW.draw T.mixed (by kernel_rfl) (fun _ _ _ _ _ h => h) (fun w8 w9 => Upd none w8 w9) 11 (.take 0 (.take 1 (.take 2 (.take 3 (.take 4 (.must 5 (.take 6 (.take 7 (.take 8 (.take 9 (.take 10 .done))))))))))) (by kernel_rfl) (fun w40 hXd => ?_)
      have hB := hB.trans hXd
      have ho5 := ho5.up hXd
      have ho6 := ho6.up hXd
      have hb9 := hb9.up hXd
      have ho14 := ho14.up hXd
      have ho15 := ho15.up hXd
      have hb18 := hb18.up hXd
      have ho21 := ho21.up hXd
      have ho23 := ho23.up hXd
      have ho24 := ho24.up hXd
      have hb25 := hb25.up hXd
      have ho26 := ho26.up hXd
      have ho27 := ho27.up hXd
      have hb28 := hb28.up hXd
      have ho29 := ho29.up hXd
      have ho30 := ho30.up hXd
      have hb31 := hb31.up hXd
      have ho32 := ho32.up hXd
      have ho33 := ho33.up hXd
      have hb34 := hb34.up hXd
      have ho35 := ho35.up hXd
      have ho36 := ho36.up hXd
      have hb37 := hb37.up hXd
      have ho38 := ho38.up hXd
      have hn39 := hn39.up hXd
      have ho40 := ho40.up hXd
      have hn41 := hn41.up hXd
      have hU0 := hU0.ext hXd
      have hBr := hB
      have hS : Upd none w40 w40 := Ext.toUpd (Ext.refl _)
      refine HP.take rfl rfl rfl rfl hS (fun wS hS1 => PV.loadA T.ag88 rfl (Bx.cells (Bx.updD (by assumption) hS1 (Dj.nlR _))) (Ext.refl _) rfl) ?_
      refine HP.take rfl rfl rfl rfl hS (fun wS hS1 => PV.move rfl) ?_
      refine HP.take rfl rfl rfl rfl hS (fun wS hS1 => PV.move rfl) ?_
      first
        | refine HP.atO (wb := w40) (x := .tmp 214) (y := .tmp 215) (f := VV) (.slice none 0 0) rfl rfl (by assumption) (by first | omega | (simp only [List.length_set]; omega) | (simp only [List.length_append, List.length_take, List.length_replicate, List.length_drop]; omega)) (fun p6 hpp6 hcp6 => ?_)
        | refine HP.atOZ (wb := w40) (x := .tmp 214) (y := .tmp 215) (f := VV) (.slice none 0 0) rfl rfl (by assumption) (by first | omega | (simp only [List.length_set]; omega) | (simp only [List.length_append, List.length_take, List.length_replicate, List.length_drop]; omega)) (fun p6 hpp6 hzp6 hcp6 => ?_)
      refine HP.take rfl rfl rfl rfl hS (fun wS hS1 => (by first | exact PV.indexAddr hpp6 rfl rfl T.sl25 | exact PV.indexAddr hpp6 rfl (by rw [← hzp6]; rfl) T.sl25)) ?_
      refine HP.take rfl rfl rfl rfl hS (fun wS hS1 => (by first | exact PV.load0 T.na28 rfl (by first | exact Cells.up (by assumption) (hBr.trans hS1) | exact Bx.cells (Bx.updD (by assumption) hS1 (Dj.nlR _)) | exact Cells.upd (by assumption) hS1 (by simp)) (Ext.refl _) rfl | exact PV.load1 T.na28 rfl (by first | exact Cells.up (by assumption) (hBr.trans hS1) | exact Bx.cells (Bx.updD (by assumption) hS1 (Dj.nlR _)) | exact Cells.upd (by assumption) hS1 (by simp)) (Ext.refl _) rfl)) ?_
      refine HP.must rfl rfl (OpK.call rfl T.cf69 rfl (c_impl_OutputsOf_y (Osn.rdR ho14) (Osl.rd ho15) (by first | assumption | exact Rd.up (by assumption) hB | exact Osl.rd (by assumption) | exact Osn.rdR (by assumption) | exact NL.rd (by assumption) | exact rdII (by assumption) (by assumption) | exact Inn.rd (by assumption) (by omega)) (by first | assumption | omega | (simp only [marks_len, marksB_len, marksR_len, sumL_marksS]; omega))) (fun rv11 w41 hR => ?_))
      obtain ⟨hXw41, v42, og42, vs43, os43, rfl, ho42, hq42, hn43, hq43, hd42_43⟩ := hR
      have hl42 := Lo.up hq42 hB
      have hv42 := Lo.up hq42 hS
      have hd5_42 := Dj.lo ho5.ltO hq42
      have hd6_42 := Dj.lo ho6.ltO hq42
      have hd9_42 := Dj.lo hb9.ltO hq42
      have hd14_42 := Dj.lo ho14.ltO hq42
      have hd15_42 := Dj.lo ho15.ltO hq42
      have hd18_42 := Dj.lo hb18.ltO hq42
      have hd21_42 := Dj.lo ho21.ltO hq42
      have hd23_42 := Dj.lo ho23.ltO hq42
      have hd24_42 := Dj.lo ho24.ltO hq42
      have hd25_42 := Dj.lo hb25.ltO hq42
      have hd26_42 := Dj.lo ho26.ltO hq42
      have hd27_42 := Dj.lo ho27.ltO hq42
      have hd28_42 := Dj.lo hb28.ltO hq42
      have hd29_42 := Dj.lo ho29.ltO hq42
      have hd30_42 := Dj.lo ho30.ltO hq42
      have hd31_42 := Dj.lo hb31.ltO hq42
      have hd32_42 := Dj.lo ho32.ltO hq42
      have hd33_42 := Dj.lo ho33.ltO hq42
      have hd34_42 := Dj.lo hb34.ltO hq42
      have hd35_42 := Dj.lo ho35.ltO hq42
      have hd36_42 := Dj.lo ho36.ltO hq42
      have hd37_42 := Dj.lo hb37.ltO hq42
      have hd38_42 := Dj.lo ho38.ltO hq42
      have hd39_42 := DI.fresh hn39 hq42
      have hd40_42 := Dj.lo ho40.ltO hq42
      have hd41_42 := DI.fresh hn41 hq42
      have hk0_42 := OkN.lo hU0 hq42
      have hg0_42 := OgR.lo hU0.size hq42
      have hl43 := LoI.up hq43 hB
      have hlv43 := hn43.lv
      have hd5_43 := DI.lo ho5.ltO hq43
      have hd6_43 := DI.lo ho6.ltO hq43
      have hd9_43 := DI.lo hb9.ltO hq43
      have hd14_43 := DI.lo ho14.ltO hq43
      have hd15_43 := DI.lo ho15.ltO hq43
      have hd18_43 := DI.lo hb18.ltO hq43
      have hd21_43 := DI.lo ho21.ltO hq43
      have hd23_43 := DI.lo ho23.ltO hq43
      have hd24_43 := DI.lo ho24.ltO hq43
      have hd25_43 := DI.lo hb25.ltO hq43
      have hd26_43 := DI.lo ho26.ltO hq43
      have hd27_43 := DI.lo ho27.ltO hq43
      have hd28_43 := DI.lo hb28.ltO hq43
      have hd29_43 := DI.lo ho29.ltO hq43
      have hd30_43 := DI.lo ho30.ltO hq43
      have hd31_43 := DI.lo hb31.ltO hq43
      have hd32_43 := DI.lo ho32.ltO hq43
      have hd33_43 := DI.lo ho33.ltO hq43
      have hd34_43 := DI.lo hb34.ltO hq43
      have hd35_43 := DI.lo ho35.ltO hq43
      have hd36_43 := DI.lo ho36.ltO hq43
      have hd37_43 := DI.lo hb37.ltO hq43
      have hd38_43 := DI.lo ho38.ltO hq43
      have hdd39_43 := DD.symm (DD.lo hn39 hq43)
      have hd40_43 := DI.lo ho40.ltO hq43
      have hdd41_43 := DD.symm (DD.lo hn41 hq43)
      have hz0_43 := BlR.lo hU0.size hq43
      refine ⟨Upd.trans hS hXw41, ?_⟩
      have hS := Upd.trans hS hXw41
      have hB := hB.trans hXw41
      have ho5 := ho5.up hXw41
      have ho6 := ho6.up hXw41
      have hb9 := hb9.up hXw41
      have ho14 := ho14.up hXw41
      have ho15 := ho15.up hXw41
      have hb18 := hb18.up hXw41
      have ho21 := ho21.up hXw41
      have ho23 := ho23.up hXw41
      have ho24 := ho24.up hXw41
      have hb25 := hb25.up hXw41
      have ho26 := ho26.up hXw41
      have ho27 := ho27.up hXw41
      have hb28 := hb28.up hXw41
      have ho29 := ho29.up hXw41
      have ho30 := ho30.up hXw41
      have hb31 := hb31.up hXw41
      have ho32 := ho32.up hXw41
      have ho33 := ho33.up hXw41
      have hb34 := hb34.up hXw41
      have ho35 := ho35.up hXw41
      have ho36 := ho36.up hXw41
      have hb37 := hb37.up hXw41
      have ho38 := ho38.up hXw41
      have hn39 := hn39.up hXw41
      have ho40 := ho40.up hXw41
      have hn41 := hn41.up hXw41
      have hU0 := hU0.ext hXw41
      refine HP.take rfl rfl rfl rfl hS (fun wS hS1 => PV.move rfl) ?_
      refine HP.take rfl rfl rfl rfl hS (fun wS hS1 => PV.extract rfl rfl) ?_
      refine HP.take rfl rfl rfl rfl hS (fun wS hS1 => PV.extract rfl rfl) ?_
      refine HP.take rfl rfl rfl rfl hS (fun wS hS1 => PV.assign rfl) ?_
      refine HP.take rfl rfl rfl rfl hS (fun wS hS1 => PV.assign rfl) ?_
      refine HP.doneS ?_
      refine CW.seq ?_
      refine CW.seq ?_
      refine CW.reg ?_
      refine WL.mv rfl rfl ?_
      refine WL.pure rfl rfl rfl (PV.not rfl) ?_
      refine WL.nilS ?_
      refine CW.condF rfl ?_
      refine CW.skipS ?_
      refine CW.seq ?_
      refine CW.reg ?_
      refine WL.mv rfl rfl ?_
      refine WL.pure rfl rfl rfl ((PV.lenOs rfl ho42 T.sl25)) ?_
      refine WL.mv rfl rfl ?_
      refine WL.nilS ?_
      refine CW.block ?_
      refine CW.loop (σk := [(5, _), (6, _), (7, _), (8, _), (10, _), (11, _), (14, _), (15, _), (18, _), (20, _), (29, _), (143, _), (144, _), (224, _)]) (fun ρ wz m => ∃ (k2 : Nat), ρ = [(225, .int .i64 (k2 : Nat))] ∧ m = (outL rs12 es13 ((outL rs3 es4 ws20 2 3).getD k []) 2 2).length - k2 ∧ UpdL [] w41 wz ∧ (k2 ≤ (outL rs12 es13 ((outL rs3 es4 ws20 2 3).getD k []) 2 2).length)) (ρ₀ := [(225, _)]) (m₀ := _) ⟨rfl, rfl, rfl, rfl, rfl, rfl, rfl, rfl, rfl, rfl, rfl, rfl, rfl, rfl, rfl, trivial⟩ ⟨0, rfl, rfl, (UpdL.refl _ _), (by first | omega | rfl | (simp; done) | assumption | (simp_all; done))⟩ ?_
      rintro _ wl2 _ ⟨k2, rfl, rfl, hU1, hk2⟩
      have hU0 := hU0.trans hU1 trivial
      have ho5 := ho5.loop hU1 trivial
      have ho6 := ho6.loop hU1 trivial
      have hb9 := hb9.loop hU1 trivial
      have ho14 := ho14.loop hU1 trivial
      have ho15 := ho15.loop hU1 trivial
      have hb18 := hb18.loop hU1 trivial
      have ho21 := ho21.loop hU1 trivial
      have ho23 := ho23.loop hU1 trivial
      have ho24 := ho24.loop hU1 trivial
      have hb25 := hb25.loop hU1 trivial
      have ho26 := ho26.loop hU1 trivial
      have ho27 := ho27.loop hU1 trivial
      have hb28 := hb28.loop hU1 trivial
      have ho29 := ho29.loop hU1 trivial
      have ho30 := ho30.loop hU1 trivial
      have hb31 := hb31.loop hU1 trivial
      have ho32 := ho32.loop hU1 trivial
      have ho33 := ho33.loop hU1 trivial
      have hb34 := hb34.loop hU1 trivial
      have ho35 := ho35.loop hU1 trivial
      have ho36 := ho36.loop hU1 trivial
      have hb37 := hb37.loop hU1 trivial
      have ho38 := ho38.loop hU1 trivial
      have hn39 := hn39.loop hU1 trivial
      have ho40 := ho40.loop hU1 trivial
      have hn41 := hn41.loop hU1 trivial
      have ho42 := ho42.loop hU1 trivial
      have hn43 := hn43.loop hU1 trivial
      have hB := hB.loop hU1 trivial
      refine CW.seq ?_
      refine CW.reg ?_
      refine WL.pure rfl rfl rfl (PV.lss rfl rfl) ?_
      refine WL.nilS ?_
      refine CW.seq ?_
      refine CW.cond rfl (fun hc17 => ?_) (fun hc17 => ?_)
      · skip
        try simp only [nq] at hc17
        refine CW.skipS ?_
        refine CW.seq ?_
        refine CW.block ?_
        refine CW.seq ?_
        refine CW.reg ?_
        refine WL.mv rfl rfl ?_
        refine WL.asg rfl rfl ?_
        refine WL.nilS ?_
        refine CW.seq ?_
        refine CW.draw T.mixed (by kernel_rfl) (fun _ _ _ _ _ h => h) (fun w8 w9 => Upd none w8 w9) 12 (.take 0 (.take 1 (.take 2 (.take 3 (.take 4 (.take 5 (.must 6 (.take 7 (.take 8 (.take 9 (.take 10 (.take 11 .done)))))))))))) (by kernel_rfl) (fun w42 hXd => ?_)
        have hB := hB.trans hXd
        have ho5 := ho5.up hXd
        have ho6 := ho6.up hXd
        have hb9 := hb9.up hXd
        have ho14 := ho14.up hXd
        have ho15 := ho15.up hXd
        have hb18 := hb18.up hXd
        have ho21 := ho21.up hXd
        have ho23 := ho23.up hXd
        have ho24 := ho24.up hXd
        have hb25 := hb25.up hXd
        have ho26 := ho26.up hXd
        have ho27 := ho27.up hXd
        have hb28 := hb28.up hXd
        have ho29 := ho29.up hXd
        have ho30 := ho30.up hXd
        have hb31 := hb31.up hXd
        have ho32 := ho32.up hXd
        have ho33 := ho33.up hXd
        have hb34 := hb34.up hXd
        have ho35 := ho35.up hXd
        have ho36 := ho36.up hXd
        have hb37 := hb37.up hXd
        have ho38 := ho38.up hXd
        have hn39 := hn39.up hXd
        have ho40 := ho40.up hXd
        have hn41 := hn41.up hXd
        have ho42 := ho42.up hXd
        have hn43 := hn43.up hXd
        have hU0 := hU0.ext hXd
        have hU1 := hU1.ext hXd
        have hBr := hB
        have hS : Upd none w42 w42 := Ext.toUpd (Ext.refl _)
        have hQ := out_get (rs := rs12) (en := es13) (ins := ((outL rs3 es4 ws20 2 3).getD k [])) (L := 2) (mo := 2) (k := k2) hL12 (by decide) (by omega); have hQW := onW hCB hQ.2; have hQR := onR hCB (rd_chain hA hBv hO1 hQ.1)
        refine HP.take rfl rfl rfl rfl hS (fun wS hS1 => PV.loadA T.ag88 rfl (Bx.cells (Bx.updD (by assumption) hS1 (Dj.nlR _))) (Ext.refl _) rfl) ?_
        refine HP.take rfl rfl rfl rfl hS (fun wS hS1 => PV.move rfl) ?_
        refine HP.take rfl rfl rfl rfl hS (fun wS hS1 => PV.move rfl) ?_
        refine HP.take rfl rfl rfl rfl hS (fun wS hS1 => PV.move rfl) ?_
        first
          | refine HP.atO (wb := w42) (x := .tmp 231) (y := .tmp 232) (f := VV) (.slice none 0 0) rfl rfl (by assumption) (by first | omega | (simp only [List.length_set]; omega) | (simp only [List.length_append, List.length_take, List.length_replicate, List.length_drop]; omega)) (fun p7 hpp7 hcp7 => ?_)
          | refine HP.atOZ (wb := w42) (x := .tmp 231) (y := .tmp 232) (f := VV) (.slice none 0 0) rfl rfl (by assumption) (by first | omega | (simp only [List.length_set]; omega) | (simp only [List.length_append, List.length_take, List.length_replicate, List.length_drop]; omega)) (fun p7 hpp7 hzp7 hcp7 => ?_)
        refine HP.take rfl rfl rfl rfl hS (fun wS hS1 => (by first | exact PV.indexAddr hpp7 rfl rfl T.sl25 | exact PV.indexAddr hpp7 rfl (by rw [← hzp7]; rfl) T.sl25)) ?_
        refine HP.take rfl rfl rfl rfl hS (fun wS hS1 => (by first | exact PV.load0 T.na28 rfl (by first | exact Cells.up (by assumption) (hBr.trans hS1) | exact Bx.cells (Bx.updD (by assumption) hS1 (Dj.nlR _)) | exact Cells.upd (by assumption) hS1 (by simp)) (Ext.refl _) rfl | exact PV.load1 T.na28 rfl (by first | exact Cells.up (by assumption) (hBr.trans hS1) | exact Bx.cells (Bx.updD (by assumption) hS1 (Dj.nlR _)) | exact Cells.upd (by assumption) hS1 (by simp)) (Ext.refl _) rfl)) ?_
        refine HP.must rfl rfl (OpK.callR rfl T.cf74 rfl (c_impl_ReadsPair_y (Osn.rdR ho26) (Osl.rd ho27) (Osl.rd ho21) (by first | assumption | exact Rd.up (by assumption) hB | exact Osl.rd (by assumption) | exact Osn.rdR (by assumption) | exact NL.rd (by assumption) | exact rdII (by assumption) (by assumption) | exact Inn.rd (by assumption) (by omega)) (by first | assumption | omega | (simp only [marks_len, marksB_len, marksR_len, sumL_marksS]; omega)) (by first | assumption | omega | (simp only [marks_len, marksB_len, marksR_len, sumL_marksS]; omega)) (by first | assumption | omega | (simp only [marks_len, marksB_len, marksR_len, sumL_marksS]; omega)) (by first | assumption | omega | (simp only [marks_len, marksB_len, marksR_len, sumL_marksS]; omega))) (fun w43 hXw43 => ?_))
        refine ⟨Upd.trans hS hXw43, ?_⟩
        have hS := Upd.trans hS hXw43
        have hB := hB.trans hXw43
        have ho5 := ho5.up hXw43
        have ho6 := ho6.up hXw43
        have hb9 := hb9.up hXw43
        have ho14 := ho14.up hXw43
        have ho15 := ho15.up hXw43
        have hb18 := hb18.up hXw43
        have ho21 := ho21.up hXw43
        have ho23 := ho23.up hXw43
        have ho24 := ho24.up hXw43
        have hb25 := hb25.up hXw43
        have ho26 := ho26.up hXw43
        have ho27 := ho27.up hXw43
        have hb28 := hb28.up hXw43
        have ho29 := ho29.up hXw43
        have ho30 := ho30.up hXw43
        have hb31 := hb31.up hXw43
        have ho32 := ho32.up hXw43
        have ho33 := ho33.up hXw43
        have hb34 := hb34.up hXw43
        have ho35 := ho35.up hXw43
        have ho36 := ho36.up hXw43
        have hb37 := hb37.up hXw43
        have ho38 := ho38.up hXw43
        have hn39 := hn39.up hXw43
        have ho40 := ho40.up hXw43
        have hn41 := hn41.up hXw43
        have ho42 := ho42.up hXw43
        have hn43 := hn43.up hXw43
        have hU0 := hU0.ext hXw43
        have hU1 := hU1.ext hXw43
        refine HP.take rfl rfl rfl rfl hS (fun wS hS1 => PV.move rfl) ?_
        refine HP.take rfl rfl rfl rfl hS (fun wS hS1 => PV.extract rfl rfl) ?_
        refine HP.take rfl rfl rfl rfl hS (fun wS hS1 => PV.extract rfl rfl) ?_
        refine HP.take rfl rfl rfl rfl hS (fun wS hS1 => PV.assign rfl) ?_
        refine HP.take rfl rfl rfl rfl hS (fun wS hS1 => PV.assign rfl) ?_
        refine HP.doneS ?_
        refine CW.seq ?_
        refine CW.reg ?_
        refine WL.mv rfl rfl ?_
        refine WL.pure rfl rfl rfl (PV.not rfl) ?_
        refine WL.mv rfl rfl ?_
        refine WL.split (t := 240) rfl (fun hc18 => ?_) (fun hc18 => ?_)
        · skip
          try simp only [nq] at hc18
          exfalso; revert hc18; first | (simp; done) | (simp; omega)
        try simp only [nq] at hc18
        refine WL.pureG rfl rfl rfl rfl rfl (PV.move rfl) ?_
        refine WL.pureG rfl rfl rfl rfl rfl (PV.not rfl) ?_
        refine WL.pure rfl rfl rfl (PV.pickF rfl rfl) ?_
        refine WL.nilS ?_
        refine CW.cond rfl (fun hc19 => ?_) (fun hc19 => ?_)
        · skip
          try simp only [nq] at hc19
          exfalso; revert hc19; first | (simp; done) | (simp; omega)
        try simp only [nq] at hc19
        refine CW.skip ?_
        refine NQ.block ?_
        refine NQ.then ?_
        refine CW.reg ?_
        refine WL.pure rfl rfl rfl (PV.add rfl rfl (by constructor <;> omega)) ?_
        refine WL.mv rfl rfl ?_
        refine WL.nil ?_
        refine NQ.next (ρ := [(225, _)]) ⟨rfl, rfl, rfl, rfl, rfl, rfl, rfl, rfl, rfl, rfl, rfl, rfl, rfl, rfl, rfl, trivial⟩ ?_
        exact ⟨_, ⟨k2 + 1, rfl, rfl, hU1, (by first | omega | assumption | (simp_all; done) | (simp_all; omega))⟩, by omega⟩
      try simp only [nq] at hc17
      refine CW.exit ?_
      refine XQ.then ?_
      refine XQ.then ?_
      refine XQ.here ?_
      refine NQ.block ?_
      refine NQ.then ?_
      refine CW.reg ?_
      refine WL.pure rfl rfl rfl (PV.add rfl rfl (by constructor <;> omega)) ?_
      refine WL.mv rfl rfl ?_
      refine WL.nil ?_
      refine NQ.next (ρ := [(144, _)]) ⟨rfl, rfl, rfl, rfl, rfl, rfl, rfl, rfl, rfl, rfl, rfl, rfl, trivial⟩ ?_
      exact ⟨_, ⟨k + 1, rfl, rfl, hU0, (by first | omega | assumption | (simp_all; done) | (simp_all; omega))⟩, by omega⟩
    try simp only [nq] at hc13
    refine CW.skipS ?_
    refine CW.seq ?_
    refine CW.seq ?_
    refine CW.reg ?_
    refine WL.mv rfl rfl ?_
    refine WL.pure rfl rfl rfl (PV.not rfl) ?_
    refine WL.nilS ?_
    refine CW.cond rfl (fun hc20 => ?_) (fun hc20 => ?_)
    · skip
      try simp only [nq] at hc20
      refine CW.exit ?_
      refine XQ.then ?_
      refine XQ.here ?_
      refine NQ.then ?_
      refine CW.reg ?_
      refine WL.pure rfl rfl rfl (PV.add rfl rfl (by constructor <;> omega)) ?_
      refine WL.mv rfl rfl ?_
      refine WL.nil ?_
      refine NQ.next (ρ := [(144, _)]) ⟨rfl, rfl, rfl, rfl, rfl, rfl, rfl, rfl, rfl, rfl, rfl, rfl, trivial⟩ ?_
      exact ⟨_, ⟨k + 1, rfl, rfl, hU0, (by first | omega | assumption | (simp_all; done) | (simp_all; omega))⟩, by omega⟩
    try simp only [nq] at hc20
    have hCB := (by assumption : (chainB S2 2 rs3 es4 S11 2 rs12 es13) = true); have hCV := chainV hCB; have hWC := onW hCB hW; have hSB := out_y hBv hOW (show (0 : Int) ≤ 2 ∧ (2 : Int) ≤ 4 from by decide); have hlB := out_len hSB
    refine CW.skipS ?_
    refine CW.seq ?_
    refine CW.draw T.mixed (by kernel_rfl) (fun _ _ _ _ _ h => h) (fun w8 w9 => Upd none w8 w9) 11 (.take 0 (.take 1 (.take 2 (.take 3 (.take 4 (.must 5 (.take 6 (.take 7 (.take 8 (.take 9 (.take 10 .done))))))))))) (by kernel_rfl) (fun w44 hXd => ?_)
    have hB := hB.trans hXd
    have ho5 := ho5.up hXd
    have ho6 := ho6.up hXd
    have hb9 := hb9.up hXd
    have ho14 := ho14.up hXd
    have ho15 := ho15.up hXd
    have hb18 := hb18.up hXd
    have ho21 := ho21.up hXd
    have ho23 := ho23.up hXd
    have ho24 := ho24.up hXd
    have hb25 := hb25.up hXd
    have ho26 := ho26.up hXd
    have ho27 := ho27.up hXd
    have hb28 := hb28.up hXd
    have ho29 := ho29.up hXd
    have ho30 := ho30.up hXd
    have hb31 := hb31.up hXd
    have ho32 := ho32.up hXd
    have ho33 := ho33.up hXd
    have hb34 := hb34.up hXd
    have ho35 := ho35.up hXd
    have ho36 := ho36.up hXd
    have hb37 := hb37.up hXd
    have ho38 := ho38.up hXd
    have hn39 := hn39.up hXd
    have ho40 := ho40.up hXd
    have hn41 := hn41.up hXd
    have hU0 := hU0.ext hXd
    have hBr := hB
    have hS : Upd none w44 w44 := Ext.toUpd (Ext.refl _)
    refine HP.take rfl rfl rfl rfl hS (fun wS hS1 => PV.loadA T.ag88 rfl (Bx.cells (Bx.updD (by assumption) hS1 (Dj.nlR _))) (Ext.refl _) rfl) ?_
    refine HP.take rfl rfl rfl rfl hS (fun wS hS1 => PV.move rfl) ?_
    refine HP.take rfl rfl rfl rfl hS (fun wS hS1 => PV.move rfl) ?_
    first
      | refine HP.atO (wb := w44) (x := .tmp 214) (y := .tmp 215) (f := VV) (.slice none 0 0) rfl rfl (by assumption) (by first | omega | (simp only [List.length_set]; omega) | (simp only [List.length_append, List.length_take, List.length_replicate, List.length_drop]; omega)) (fun p8 hpp8 hcp8 => ?_)
      | refine HP.atOZ (wb := w44) (x := .tmp 214) (y := .tmp 215) (f := VV) (.slice none 0 0) rfl rfl (by assumption) (by first | omega | (simp only [List.length_set]; omega) | (simp only [List.length_append, List.length_take, List.length_replicate, List.length_drop]; omega)) (fun p8 hpp8 hzp8 hcp8 => ?_)
    refine HP.take rfl rfl rfl rfl hS (fun wS hS1 => (by first | exact PV.indexAddr hpp8 rfl rfl T.sl25 | exact PV.indexAddr hpp8 rfl (by rw [← hzp8]; rfl) T.sl25)) ?_
    refine HP.take rfl rfl rfl rfl hS (fun wS hS1 => (by first | exact PV.load0 T.na28 rfl (by first | exact Cells.up (by assumption) (hBr.trans hS1) | exact Bx.cells (Bx.updD (by assumption) hS1 (Dj.nlR _)) | exact Cells.upd (by assumption) hS1 (by simp)) (Ext.refl _) rfl | exact PV.load1 T.na28 rfl (by first | exact Cells.up (by assumption) (hBr.trans hS1) | exact Bx.cells (Bx.updD (by assumption) hS1 (Dj.nlR _)) | exact Cells.upd (by assumption) hS1 (by simp)) (Ext.refl _) rfl)) ?_
    refine HP.must rfl rfl (OpK.call rfl T.cf69 rfl (c_impl_OutputsOf_y (Osn.rdR ho14) (Osl.rd ho15) (by first | assumption | exact Rd.up (by assumption) hB | exact Osl.rd (by assumption) | exact Osn.rdR (by assumption) | exact NL.rd (by assumption) | exact rdII (by assumption) (by assumption) | exact Inn.rd (by assumption) (by omega)) (by first | assumption | omega | (simp only [marks_len, marksB_len, marksR_len, sumL_marksS]; omega))) (fun rv12 w45 hR => ?_))
    obtain ⟨hXw45, v44, og44, vs45, os45, rfl, ho44, hq44, hn45, hq45, hd44_45⟩ := hR
    have hl44 := Lo.up hq44 hB
    have hv44 := Lo.up hq44 hS
    have hd5_44 := Dj.lo ho5.ltO hq44
    have hd6_44 := Dj.lo ho6.ltO hq44
    have hd9_44 := Dj.lo hb9.ltO hq44
    have hd14_44 := Dj.lo ho14.ltO hq44
    have hd15_44 := Dj.lo ho15.ltO hq44
    have hd18_44 := Dj.lo hb18.ltO hq44
    have hd21_44 := Dj.lo ho21.ltO hq44
    have hd23_44 := Dj.lo ho23.ltO hq44
    have hd24_44 := Dj.lo ho24.ltO hq44
    have hd25_44 := Dj.lo hb25.ltO hq44
    have hd26_44 := Dj.lo ho26.ltO hq44
    have hd27_44 := Dj.lo ho27.ltO hq44
    have hd28_44 := Dj.lo hb28.ltO hq44
    have hd29_44 := Dj.lo ho29.ltO hq44
    have hd30_44 := Dj.lo ho30.ltO hq44
    have hd31_44 := Dj.lo hb31.ltO hq44
    have hd32_44 := Dj.lo ho32.ltO hq44
    have hd33_44 := Dj.lo ho33.ltO hq44
    have hd34_44 := Dj.lo hb34.ltO hq44
    have hd35_44 := Dj.lo ho35.ltO hq44
    have hd36_44 := Dj.lo ho36.ltO hq44
    have hd37_44 := Dj.lo hb37.ltO hq44
    have hd38_44 := Dj.lo ho38.ltO hq44
    have hd39_44 := DI.fresh hn39 hq44
    have hd40_44 := Dj.lo ho40.ltO hq44
    have hd41_44 := DI.fresh hn41 hq44
    have hk0_44 := OkN.lo hU0 hq44
    have hg0_44 := OgR.lo hU0.size hq44
    have hl45 := LoI.up hq45 hB
    have hlv45 := hn45.lv
    have hd5_45 := DI.lo ho5.ltO hq45
    have hd6_45 := DI.lo ho6.ltO hq45
    have hd9_45 := DI.lo hb9.ltO hq45
    have hd14_45 := DI.lo ho14.ltO hq45
    have hd15_45 := DI.lo ho15.ltO hq45
    have hd18_45 := DI.lo hb18.ltO hq45
    have hd21_45 := DI.lo ho21.ltO hq45
    have hd23_45 := DI.lo ho23.ltO hq45
    have hd24_45 := DI.lo ho24.ltO hq45
    have hd25_45 := DI.lo hb25.ltO hq45
    have hd26_45 := DI.lo ho26.ltO hq45
    have hd27_45 := DI.lo ho27.ltO hq45
    have hd28_45 := DI.lo hb28.ltO hq45
    have hd29_45 := DI.lo ho29.ltO hq45
    have hd30_45 := DI.lo ho30.ltO hq45
    have hd31_45 := DI.lo hb31.ltO hq45
    have hd32_45 := DI.lo ho32.ltO hq45
    have hd33_45 := DI.lo ho33.ltO hq45
    have hd34_45 := DI.lo hb34.ltO hq45
    have hd35_45 := DI.lo ho35.ltO hq45
    have hd36_45 := DI.lo ho36.ltO hq45
    have hd37_45 := DI.lo hb37.ltO hq45
    have hd38_45 := DI.lo ho38.ltO hq45
    have hdd39_45 := DD.symm (DD.lo hn39 hq45)
    have hd40_45 := DI.lo ho40.ltO hq45
    have hdd41_45 := DD.symm (DD.lo hn41 hq45)
    have hz0_45 := BlR.lo hU0.size hq45
    refine ⟨Upd.trans hS hXw45, ?_⟩
    have hS := Upd.trans hS hXw45
    have hB := hB.trans hXw45
    have ho5 := ho5.up hXw45
    have ho6 := ho6.up hXw45
    have hb9 := hb9.up hXw45
    have ho14 := ho14.up hXw45
    have ho15 := ho15.up hXw45
    have hb18 := hb18.up hXw45
    have ho21 := ho21.up hXw45
    have ho23 := ho23.up hXw45
    have ho24 := ho24.up hXw45
    have hb25 := hb25.up hXw45
    have ho26 := ho26.up hXw45
    have ho27 := ho27.up hXw45
    have hb28 := hb28.up hXw45
    have ho29 := ho29.up hXw45
    have ho30 := ho30.up hXw45
    have hb31 := hb31.up hXw45
    have ho32 := ho32.up hXw45
    have ho33 := ho33.up hXw45
    have hb34 := hb34.up hXw45
    have ho35 := ho35.up hXw45
    have ho36 := ho36.up hXw45
    have hb37 := hb37.up hXw45
    have ho38 := ho38.up hXw45
    have hn39 := hn39.up hXw45
    have ho40 := ho40.up hXw45
    have hn41 := hn41.up hXw45
    have hU0 := hU0.ext hXw45
    refine HP.take rfl rfl rfl rfl hS (fun wS hS1 => PV.move rfl) ?_
    refine HP.take rfl rfl rfl rfl hS (fun wS hS1 => PV.extract rfl rfl) ?_
    refine HP.take rfl rfl rfl rfl hS (fun wS hS1 => PV.extract rfl rfl) ?_
    refine HP.take rfl rfl rfl rfl hS (fun wS hS1 => PV.assign rfl) ?_
    refine HP.take rfl rfl rfl rfl hS (fun wS hS1 => PV.assign rfl) ?_
    refine HP.doneS ?_
    refine CW.seq ?_
    refine CW.seq ?_
    refine CW.reg ?_
    refine WL.mv rfl rfl ?_
    refine WL.pure rfl rfl rfl (PV.not rfl) ?_
    refine WL.nilS ?_
    refine CW.condF rfl ?_
    refine CW.skipS ?_
    refine CW.seq ?_
    refine CW.reg ?_
    refine WL.mv rfl rfl ?_
    refine WL.pure rfl rfl rfl ((PV.lenOs rfl ho44 T.sl25)) ?_
    refine WL.mv rfl rfl ?_
    refine WL.nilS ?_
    refine CW.block ?_
    refine CW.loop (σk := [(5, _), (6, _), (7, _), (8, _), (10, _), (11, _), (14, _), (15, _), (18, _), (20, _), (29, _), (143, _), (144, _), (224, _)]) (fun ρ wz m => ∃ (k2 : Nat), ρ = [(225, .int .i64 (k2 : Nat))] ∧ m = (outL rs12 es13 ((outL rs3 es4 ws20 2 3).getD k []) 2 2).length - k2 ∧ UpdL [] w45 wz ∧ (k2 ≤ (outL rs12 es13 ((outL rs3 es4 ws20 2 3).getD k []) 2 2).length)) (ρ₀ := [(225, _)]) (m₀ := _) ⟨rfl, rfl, rfl, rfl, rfl, rfl, rfl, rfl, rfl, rfl, rfl, rfl, rfl, rfl, rfl, trivial⟩ ⟨0, rfl, rfl, (UpdL.refl _ _), (by first | omega | rfl | (simp; done) | assumption | (simp_all; done))⟩ ?_
    rintro _ wl3 _ ⟨k2, rfl, rfl, hU1, hk2⟩
    have hU0 := hU0.trans hU1 trivial
    have ho5 := ho5.loop hU1 trivial
    have ho6 := ho6.loop hU1 trivial
    have hb9 := hb9.loop hU1 trivial
    have ho14 := ho14.loop hU1 trivial
    have ho15 := ho15.loop hU1 trivial
    have hb18 := hb18.loop hU1 trivial
    have ho21 := ho21.loop hU1 trivial
    have ho23 := ho23.loop hU1 trivial
    have ho24 := ho24.loop hU1 trivial
    have hb25 := hb25.loop hU1 trivial
    have ho26 := ho26.loop hU1 trivial
    have ho27 := ho27.loop hU1 trivial
    have hb28 := hb28.loop hU1 trivial
    have ho29 := ho29.loop hU1 trivial
    have ho30 := ho30.loop hU1 trivial
    have hb31 := hb31.loop hU1 trivial
    have ho32 := ho32.loop hU1 trivial
    have ho33 := ho33.loop hU1 trivial
    have hb34 := hb34.loop hU1 trivial
    have ho35 := ho35.loop hU1 trivial
    have ho36 := ho36.loop hU1 trivial
    have hb37 := hb37.loop hU1 trivial
    have ho38 := ho38.loop hU1 trivial
    have hn39 := hn39.loop hU1 trivial
    have ho40 := ho40.loop hU1 trivial
    have hn41 := hn41.loop hU1 trivial
    have ho44 := ho44.loop hU1 trivial
    have hn45 := hn45.loop hU1 trivial
    have hB := hB.loop hU1 trivial
    refine CW.seq ?_
    refine CW.reg ?_
    refine WL.pure rfl rfl rfl (PV.lss rfl rfl) ?_
    refine WL.nilS ?_
    refine CW.seq ?_
    refine CW.cond rfl (fun hc21 => ?_) (fun hc21 => ?_)
    · skip
      try simp only [nq] at hc21
      refine CW.skipS ?_
      refine CW.seq ?_
      refine CW.block ?_
      refine CW.seq ?_
      refine CW.reg ?_
      refine WL.mv rfl rfl ?_
      refine WL.asg rfl rfl ?_
      refine WL.nilS ?_
      refine CW.seq ?_
      refine CW.draw T.mixed (by kernel_rfl) (fun _ _ _ _ _ h => h) (fun w8 w9 => Upd none w8 w9) 12 (.take 0 (.take 1 (.take 2 (.take 3 (.take 4 (.take 5 (.must 6 (.take 7 (.take 8 (.take 9 (.take 10 (.take 11 .done)))))))))))) (by kernel_rfl) (fun w46 hXd => ?_)
      have hB := hB.trans hXd
      have ho5 := ho5.up hXd
      have ho6 := ho6.up hXd
      have hb9 := hb9.up hXd
      have ho14 := ho14.up hXd
      have ho15 := ho15.up hXd
      have hb18 := hb18.up hXd
      have ho21 := ho21.up hXd
      have ho23 := ho23.up hXd
      have ho24 := ho24.up hXd
      have hb25 := hb25.up hXd
      have ho26 := ho26.up hXd
      have ho27 := ho27.up hXd
      have hb28 := hb28.up hXd
      have ho29 := ho29.up hXd
      have ho30 := ho30.up hXd
      have hb31 := hb31.up hXd
      have ho32 := ho32.up hXd
      have ho33 := ho33.up hXd
      have hb34 := hb34.up hXd
      have ho35 := ho35.up hXd
      have ho36 := ho36.up hXd
      have hb37 := hb37.up hXd
      have ho38 := ho38.up hXd
      have hn39 := hn39.up hXd
      have ho40 := ho40.up hXd
      have hn41 := hn41.up hXd
      have ho44 := ho44.up hXd
      have hn45 := hn45.up hXd
      have hU0 := hU0.ext hXd
      have hU1 := hU1.ext hXd
      have hBr := hB
      have hS : Upd none w46 w46 := Ext.toUpd (Ext.refl _)
      have hQ := out_get (rs := rs12) (en := es13) (ins := ((outL rs3 es4 ws20 2 3).getD k [])) (L := 2) (mo := 2) (k := k2) hL12 (by decide) (by omega); have hQW := onW hCB hQ.2; have hQR := onR hCB (rd_chain hA hBv hO1 hQ.1)
      refine HP.take rfl rfl rfl rfl hS (fun wS hS1 => PV.loadA T.ag88 rfl (Bx.cells (Bx.updD (by assumption) hS1 (Dj.nlR _))) (Ext.refl _) rfl) ?_
      refine HP.take rfl rfl rfl rfl hS (fun wS hS1 => PV.move rfl) ?_
      refine HP.take rfl rfl rfl rfl hS (fun wS hS1 => PV.move rfl) ?_
      refine HP.take rfl rfl rfl rfl hS (fun wS hS1 => PV.move rfl) ?_
      first
        | refine HP.atO (wb := w46) (x := .tmp 231) (y := .tmp 232) (f := VV) (.slice none 0 0) rfl rfl (by assumption) (by first | omega | (simp only [List.length_set]; omega) | (simp only [List.length_append, List.length_take, List.length_replicate, List.length_drop]; omega)) (fun p9 hpp9 hcp9 => ?_)
        | refine HP.atOZ (wb := w46) (x := .tmp 231) (y := .tmp 232) (f := VV) (.slice none 0 0) rfl rfl (by assumption) (by first | omega | (simp only [List.length_set]; omega) | (simp only [List.length_append, List.length_take, List.length_replicate, List.length_drop]; omega)) (fun p9 hpp9 hzp9 hcp9 => ?_)
      refine HP.take rfl rfl rfl rfl hS (fun wS hS1 => (by first | exact PV.indexAddr hpp9 rfl rfl T.sl25 | exact PV.indexAddr hpp9 rfl (by rw [← hzp9]; rfl) T.sl25)) ?_
      refine HP.take rfl rfl rfl rfl hS (fun wS hS1 => (by first | exact PV.load0 T.na28 rfl (by first | exact Cells.up (by assumption) (hBr.trans hS1) | exact Bx.cells (Bx.updD (by assumption) hS1 (Dj.nlR _)) | exact Cells.upd (by assumption) hS1 (by simp)) (Ext.refl _) rfl | exact PV.load1 T.na28 rfl (by first | exact Cells.up (by assumption) (hBr.trans hS1) | exact Bx.cells (Bx.updD (by assumption) hS1 (Dj.nlR _)) | exact Cells.upd (by assumption) hS1 (by simp)) (Ext.refl _) rfl)) ?_
      refine HP.must rfl rfl (OpK.callR rfl T.cf74 rfl (c_impl_ReadsPair_y (Osn.rdR ho26) (Osl.rd ho27) (Osl.rd ho21) (by first | assumption | exact Rd.up (by assumption) hB | exact Osl.rd (by assumption) | exact Osn.rdR (by assumption) | exact NL.rd (by assumption) | exact rdII (by assumption) (by assumption) | exact Inn.rd (by assumption) (by omega)) (by first | assumption | omega | (simp only [marks_len, marksB_len, marksR_len, sumL_marksS]; omega)) (by first | assumption | omega | (simp only [marks_len, marksB_len, marksR_len, sumL_marksS]; omega)) (by first | assumption | omega | (simp only [marks_len, marksB_len, marksR_len, sumL_marksS]; omega)) (by first | assumption | omega | (simp only [marks_len, marksB_len, marksR_len, sumL_marksS]; omega))) (fun w47 hXw47 => ?_))
      refine ⟨Upd.trans hS hXw47, ?_⟩
      have hS := Upd.trans hS hXw47
      have hB := hB.trans hXw47
      have ho5 := ho5.up hXw47
      have ho6 := ho6.up hXw47
      have hb9 := hb9.up hXw47
      have ho14 := ho14.up hXw47
      have ho15 := ho15.up hXw47
      have hb18 := hb18.up hXw47
      have ho21 := ho21.up hXw47
      have ho23 := ho23.up hXw47
      have ho24 := ho24.up hXw47
      have hb25 := hb25.up hXw47
      have ho26 := ho26.up hXw47
      have ho27 := ho27.up hXw47
      have hb28 := hb28.up hXw47
      have ho29 := ho29.up hXw47
      have ho30 := ho30.up hXw47
      have hb31 := hb31.up hXw47
      have ho32 := ho32.up hXw47
      have ho33 := ho33.up hXw47
      have hb34 := hb34.up hXw47
      have ho35 := ho35.up hXw47
      have ho36 := ho36.up hXw47
      have hb37 := hb37.up hXw47
      have ho38 := ho38.up hXw47
      have hn39 := hn39.up hXw47
      have ho40 := ho40.up hXw47
      have hn41 := hn41.up hXw47
      have ho44 := ho44.up hXw47
      have hn45 := hn45.up hXw47
      have hU0 := hU0.ext hXw47
      have hU1 := hU1.ext hXw47
      refine HP.take rfl rfl rfl rfl hS (fun wS hS1 => PV.move rfl) ?_
      refine HP.take rfl rfl rfl rfl hS (fun wS hS1 => PV.extract rfl rfl) ?_
      refine HP.take rfl rfl rfl rfl hS (fun wS hS1 => PV.extract rfl rfl) ?_
      refine HP.take rfl rfl rfl rfl hS (fun wS hS1 => PV.assign rfl) ?_
      refine HP.take rfl rfl rfl rfl hS (fun wS hS1 => PV.assign rfl) ?_
      refine HP.doneS ?_
      refine CW.seq ?_
      refine CW.reg ?_
      refine WL.mv rfl rfl ?_
      refine WL.pure rfl rfl rfl (PV.not rfl) ?_
      refine WL.mv rfl rfl ?_
      refine WL.split (t := 240) rfl (fun hc22 => ?_) (fun hc22 => ?_)
      · skip
        try simp only [nq] at hc22
        exfalso; revert hc22; first | (simp; done) | (simp; omega)
      try simp only [nq] at hc22
      refine WL.pureG rfl rfl rfl rfl rfl (PV.move rfl) ?_
      refine WL.pureG rfl rfl rfl rfl rfl (PV.not rfl) ?_
      refine WL.pure rfl rfl rfl (PV.pickF rfl rfl) ?_
      refine WL.nilS ?_
      refine CW.cond rfl (fun hc23 => ?_) (fun hc23 => ?_)
      · skip
        try simp only [nq] at hc23
        exfalso; revert hc23; first | (simp; done) | (simp; omega)
      try simp only [nq] at hc23
      refine CW.skip ?_
      refine NQ.block ?_
      refine NQ.then ?_
      refine CW.reg ?_
      refine WL.pure rfl rfl rfl (PV.add rfl rfl (by constructor <;> omega)) ?_
      refine WL.mv rfl rfl ?_
      refine WL.nil ?_
      refine NQ.next (ρ := [(225, _)]) ⟨rfl, rfl, rfl, rfl, rfl, rfl, rfl, rfl, rfl, rfl, rfl, rfl, rfl, rfl, rfl, trivial⟩ ?_
      exact ⟨_, ⟨k2 + 1, rfl, rfl, hU1, (by first | omega | assumption | (simp_all; done) | (simp_all; omega))⟩, by omega⟩
    try simp only [nq] at hc21
    refine CW.exit ?_
    refine XQ.then ?_
    refine XQ.then ?_
    refine XQ.here ?_
    refine NQ.block ?_
    refine NQ.then ?_
    refine CW.reg ?_
    refine WL.pure rfl rfl rfl (PV.add rfl rfl (by constructor <;> omega)) ?_
    refine WL.mv rfl rfl ?_
    refine WL.nil ?_
    refine NQ.next (ρ := [(144, _)]) ⟨rfl, rfl, rfl, rfl, rfl, rfl, rfl, rfl, rfl, rfl, rfl, rfl, trivial⟩ ?_
    exact ⟨_, ⟨k + 1, rfl, rfl, hU0, (by first | omega | assumption | (simp_all; done) | (simp_all; omega))⟩, by omega⟩
  try simp only [nq] at hc8
  refine CW.exit ?_
  refine XQ.then ?_
  refine XQ.then ?_
  refine XQ.here ?_
  refine NQ.then ?_
  refine CW.seq ?_
  refine CW.reg ?_
  refine WL.asg rfl rfl ?_
  refine WL.nilS ?_
  refine CW.ret ?_
  refine RQ.r1 rfl ?_
  refine ⟨?_, hB⟩
  first | rfl | (exfalso; revert hc23; simp; done) | (exfalso; revert hc23; simp; omega) | (exfalso; omega) | first | rfl | exact bT (by omega) | exact bF (by omega) | exact bD (by omega) | exact iE (by omega) | (simp_all; done) | (simp_all; omega) | (simp_all; intros; omega)

end Go.Proofs.Ythemmoceomdccaa
