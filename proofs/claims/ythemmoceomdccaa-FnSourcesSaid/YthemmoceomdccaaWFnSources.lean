/- Walks of the functions that the law FnSources reaches: each says what its function computes. No condition. -/
import Derived.Test.YthemmoceomdccaaProg
import Derived.Test.YthemmoceomdccaaLibM
import Derived.Test.YthemmoceomdccaaPlA
import Derived.Test.YthemmoceomdccaaLibT
import Derived.Test.YthemmoceomdccaaLibV
import Derived.Test.YthemmoceomdccaaPlK
import Derived.Test.YthemmoceomdccaaPlQ
import Derived.Test.YthemmoceomdccaaPlL
import Derived.Test.YthemmoceomdccaaPlO
import Derived.Test.YthemmoceomdccaaPlG
import Derived.Test.YthemmoceomdccaaLibW
import Derived.Test.YthemmoceomdccaaPlSo
import Derived.Test.YthemmoceomdccaaPlFc
import Derived.Test.YthemmoceomdccaaPlDr
import Derived.Test.YthemmoceomdccaaLibY
import Derived.Test.YthemmoceomdccaaPlLs
import Derived.Test.YthemmoceomdccaaPlFs
import Derived.Test.YthemmoceomdccaaWFnSourcese
namespace Go.Proofs.Ythemmoceomdccaa
open Go Go.WX Go.Proofs
set_option linter.unusedSimpArgs false
set_option linter.unusedVariables false

theorem c_impl_SourcesOf_y {w : World} {va : Value} {cs : List C4} {vw : Value} {xs : List Int} {L n : Int} (ha : Rd ECh w va cs) (hw : Rd EI w vw xs) (hV : srcB cs xs L n = true) : Calls Try.prog 83 #[va, vw, .int .i64 L, .int .i64 n] w (Ret1 (fun v w' => Ext w w' ∧ ∃ u og_u vs_u os_u, v = .tuple #[u, .bool true] ∧ Osl VV w' og_u u vs_u ∧ Lo w og_u ∧ Inn w' os_u vs_u (srcL (runF cs) xs L n) ∧ LoI w os_u ∧ DI os_u og_u)) := by
  have h := c_impl_SourcesOf ha hw (L := L) (n := n)
  rw [hV] at h; exact h
theorem c_spec_SourcesOf_y {w : World} {va : Value} {cs : List C4} {vw : Value} {xs : List Int} {L n : Int} (ha : Rd ECh w va cs) (hw : Rd EI w vw xs) (hV : srcB cs xs L n = true) : Calls Try.prog 84 #[va, vw, .int .i64 L, .int .i64 n] w (Ret1 (fun v w' => Ext w w' ∧ ∃ u og_u vs_u os_u, v = .tuple #[u, .bool true] ∧ Osl VV w' og_u u vs_u ∧ Lo w og_u ∧ Inn w' os_u vs_u (srcL (runF cs) xs L n) ∧ LoI w os_u ∧ DI os_u og_u)) := by
  have h := c_spec_SourcesOf ha hw (L := L) (n := n)
  rw [hV] at h; exact h
theorem c_impl_OverlapsOf_y {w : World} {va : Value} {cs : List C4} {L : Int} (ha : Rd ECh w va cs) (hV : plnB cs L = true) : Calls Try.prog 88 #[va, .int .i64 L] w (Ret1 (fun v w' => Ext w w' ∧ ∃ u og_u vs_u os_u, v = .tuple #[u, .bool true] ∧ Osl VV w' og_u u vs_u ∧ Lo w og_u ∧ Inn w' os_u vs_u (ovR cs L) ∧ LoI w os_u ∧ DI os_u og_u)) := by
  have h := c_impl_OverlapsOf ha (L := L)
  rw [hV] at h; exact h
theorem c_spec_OverlapsOf_y {w : World} {va : Value} {cs : List C4} {L : Int} (ha : Rd ECh w va cs) (hV : plnB cs L = true) : Calls Try.prog 89 #[va, .int .i64 L] w (Ret1 (fun v w' => Ext w w' ∧ ∃ u og_u vs_u os_u, v = .tuple #[u, .bool true] ∧ Osl VV w' og_u u vs_u ∧ Lo w og_u ∧ Inn w' os_u vs_u (ovR cs L) ∧ LoI w os_u ∧ DI os_u og_u)) := by
  have h := c_spec_OverlapsOf ha (L := L)
  rw [hV] at h; exact h
theorem c_impl_RunChanges_y {w : World} {va : Value} {cs : List C4} {vw : Value} {xs : List Int} {L : Int} {ys : List Int} (ha : Rd ECh w va cs) (hw : Rd EI w vw xs) (hV : runR cs xs L = some ys) : Calls Try.prog 85 #[va, vw, .int .i64 L] w (Ret1 (fun v w' => Ext w w' ∧ ∃ u og_u, v = .tuple #[u, .bool true] ∧ Osl VI w' og_u u (ys) ∧ Lo w og_u)) := by
  have h := c_impl_RunChanges ha hw (L := L)
  rw [hV] at h; exact h
theorem c_laws_b10Ints_y {w : World} {va vb : Value} {xs ys : List Int} (ha : Rd EI w va xs) (hb : Rd EI w vb ys) (hV : xs = ys) : Calls Try.prog 75 #[va, vb] w (Ret1 (RQt (.bool true) w)) := by
  have h := c_laws_b10Ints ha hb
  rw [decide_eq_true hV] at h; exact h
theorem c_impl_OrderWord_n {w : World} {uc0 uc1 uc2 uc3 : Value} {c : C4} {ud0 ud1 ud2 ud3 : Value} {c2 : C4} {L n : Int} (hch0 : Rd EI w uc0 c.1) (hch1 : Rd EI w uc1 c.2.1) (hch2 : Rd EI w uc2 c.2.2.1) (hch3 : Rd EI w uc3 c.2.2.2) (hdh0 : Rd EI w ud0 c2.1) (hdh1 : Rd EI w ud1 c2.2.1) (hdh2 : Rd EI w ud2 c2.2.2.1) (hdh3 : Rd EI w ud3 c2.2.2.2) (hV : c = c2) : Calls Try.prog 86 #[.agg #[uc0, uc1, uc2, uc3], .agg #[ud0, ud1, ud2, ud3], .int .i64 L, .int .i64 n] w (Ret1 (fun v w' => Ext w w' ∧ ∃ u og_u, v = .tuple #[u, .bool false] ∧ Osl VI w' og_u u (([] : List Int)) ∧ Lo w og_u)) := by
  have h := c_impl_OrderWord hch0 hch1 hch2 hch3 hdh0 hdh1 hdh2 hdh3 (L := L) (n := n)
  subst hV
  rw [fs_ordL, fs_ord] at h; exact h
set_option maxHeartbeats 8000000 in
theorem c_laws_FnSources {w : World} {va vb : Value} {xs ys : List Int} (ha : Rd EU8 w va xs) (hb : Rd EU8 w vb ys) (hg : ∀ x ∈ xs, 0 ≤ x ∧ x ≤ 255) (hgb : ∀ x ∈ ys, 0 ≤ x ∧ x ≤ 255) : Calls Try.prog 8 #[va, vb] w (Ret1 (RQt (.bool true) w)) := by
  have hB : Ext w w := Ext.refl w
  have hla := ha.leI; have hlb := hb.leI; have hr0 := atN_rng (i := (0 : Int).toNat) (n := 3) hgb (by decide); have hr1 := atN_rng (i := (1 : Int).toNat) (n := 4) hgb (by decide); have hr2 := atN_rng (i := (2 : Int).toNat) (n := 3) hgb (by decide); have hL12 : (1 : Int) ≤ 2 ∧ (2 : Int) ≤ 4 := (by decide)
  refine callsOf (vs := [_, _]) Try.func8 rfl Try.ntmps8 rfl rfl ?_
  refine CW.seq ?_
  refine CW.reg ?_
  refine WL.pure rfl rfl rfl (PV.assign rfl) ?_
  refine WL.nilS ?_
  refine CW.seq ?_
  refine CW.seq ?_
  refine CW.reg ?_
  refine WL.pure rfl rfl rfl (PV.move rfl) ?_
  refine WL.pure rfl rfl rfl (PV.move rfl) ?_
  refine WL.op rfl (OpK.callR rfl T.cf60 rfl (c_laws_b10Long (by first | assumption | exact Rd.up (by assumption) hB | exact Osl.rd (by assumption) | exact Osn.rdR (by assumption) | exact NL.rd (by assumption) | exact rdII (by assumption) (by assumption) | exact Inn.rd (by assumption) (by omega)) (by first | assumption | exact Rd.up (by assumption) hB | exact Osl.rd (by assumption) | exact Osn.rdR (by assumption) | exact NL.rd (by assumption) | exact rdII (by assumption) (by assumption) | exact Inn.rd (by assumption) (by omega))) (fun w1 hXw1 => ?_))
  have hB := hB.trans hXw1
  refine WL.nilS ?_
  refine CW.cond rfl (fun hc1 => ?_) (fun hc1 => ?_)
  · skip
    try simp only [decide_eq_true_eq, decide_eq_false_iff_not, Bool.not_eq_true', Bool.not_eq_false', Bool.not_eq_eq_eq_not, Bool.not_true, Bool.not_false, Int.not_lt, Int.not_le, Classical.not_not, beq_iff_eq, beq_eq_false_iff_ne] at hc1
    refine CW.seq ?_
    refine CW.reg ?_
    refine WL.pure rfl rfl rfl (PV.assign rfl) ?_
    refine WL.nilS ?_
    refine CW.ret ?_
    refine RQ.then ?_
    refine RQ.r1 rfl ?_
    refine ⟨?_, hB⟩
    first | rfl | (exfalso; revert hc1; simp; done) | (exfalso; revert hc1; simp; omega) | (exfalso; omega) | first | rfl | exact bT (by omega) | exact bF (by omega) | exact bD (by omega) | exact iE (by omega) | (simp_all; done) | (simp_all; omega) | (simp_all; intros; omega)
  try simp only [decide_eq_true_eq, decide_eq_false_iff_not, Bool.not_eq_true', Bool.not_eq_false', Bool.not_eq_eq_eq_not, Bool.not_true, Bool.not_false, Int.not_lt, Int.not_le, Classical.not_not, beq_iff_eq, beq_eq_false_iff_ne] at hc1
  refine CW.skipS ?_
  refine CW.seq ?_
  refine CW.reg ?_
  refine WL.pure rfl rfl rfl (PV.move rfl) ?_
  refine WL.pure rfl rfl rfl (PV.move rfl) ?_
  refine WL.op rfl (OpK.callR rfl T.cf63 rfl (c_laws_b10At (by first | assumption | exact Rd.up (by assumption) hB | exact Osl.rd (by assumption) | exact Osn.rdR (by assumption) | exact NL.rd (by assumption) | exact rdII (by assumption) (by assumption) | exact Inn.rd (by assumption) (by omega)) (by first | assumption | omega | (simp only [marks_len, marksB_len, marksR_len, sumL_marksS, List.length_take]; omega)) (by first | assumption | omega | (simp only [marks_len, marksB_len, marksR_len, sumL_marksS, List.length_take]; omega))) (fun w2 hXw2 => ?_))
  have hB := hB.trans hXw2
  refine WL.pure rfl rfl rfl (PV.add rfl rfl (by constructor <;> omega)) ?_
  refine WL.op rfl (OpK.call rfl T.cf76 rfl (c_spec_B10Changes (by first | assumption | exact Rd.up (by assumption) hB | exact Osl.rd (by assumption) | exact Osn.rdR (by assumption) | exact NL.rd (by assumption) | exact rdII (by assumption) (by assumption) | exact Inn.rd (by assumption) (by omega)) (by first | assumption | omega | (simp only [marks_len, marksB_len, marksR_len, sumL_marksS, List.length_take]; omega)) (by first | assumption | omega | (simp only [marks_len, marksB_len, marksR_len, sumL_marksS, List.length_take]; omega)) (by first | assumption | omega | (simp only [marks_len, marksB_len, marksR_len, sumL_marksS, List.length_take]; omega))) (fun rv1 w3 hR => ?_))
  obtain ⟨hXw3, cs3, v1, og1, vs2, os2, rfl, hm4, ho1, hq1, hn2, hq2, hd1_2⟩ := hR
  have hl1 := Lo.up hq1 hB
  have hl2 := LoI.up hq2 hB
  have hlv2 := hn2.lv
  have hB := hB.trans hXw3
  refine WL.pure rfl rfl rfl (PV.assign rfl) ?_
  refine WL.nilS ?_
  refine CW.seq ?_
  refine CW.reg ?_
  refine WL.pure rfl rfl rfl (PV.move rfl) ?_
  refine WL.pure rfl rfl rfl (PV.move rfl) ?_
  refine WL.op rfl (OpK.callR rfl T.cf63 rfl (c_laws_b10At (by first | assumption | exact Rd.up (by assumption) hB | exact Osl.rd (by assumption) | exact Osn.rdR (by assumption) | exact NL.rd (by assumption) | exact rdII (by assumption) (by assumption) | exact Inn.rd (by assumption) (by omega)) (by first | assumption | omega | (simp only [marks_len, marksB_len, marksR_len, sumL_marksS, List.length_take]; omega)) (by first | assumption | omega | (simp only [marks_len, marksB_len, marksR_len, sumL_marksS, List.length_take]; omega))) (fun w4 hXw4 => ?_))
  have hB := hB.trans hXw4
  have ho1 := ho1.up hXw4
  have hn2 := hn2.up hXw4
  refine WL.op rfl (OpK.call rfl T.cf62 rfl (c_spec_B10Word hB (by first | assumption | exact Rd.up (by assumption) hB | exact Osl.rd (by assumption) | exact Osn.rdR (by assumption) | exact NL.rd (by assumption) | exact rdII (by assumption) (by assumption) | exact Inn.rd (by assumption) (by omega)) (by first | assumption | omega | (simp only [marks_len, marksB_len, marksR_len, sumL_marksS, List.length_take]; omega)) (by first | assumption | omega | (simp only [marks_len, marksB_len, marksR_len, sumL_marksS, List.length_take]; omega)) (by first | assumption | omega | (simp only [marks_len, marksB_len, marksR_len, sumL_marksS, List.length_take]; omega))) (fun rv2 w5 hR => ?_))
  obtain ⟨hUC5, ws6, v7, og7, rfl, hm8, ho7, hq7⟩ := hR
  have hl7 := Lo.up hq7 hB
  have hd1_7 := Dj.lo ho1.ltO hq7
  have hd2_7 := DI.fresh hn2 hq7
  have ho1 := ho1.loop hUC5 trivial
  have hn2 := hn2.loop hUC5 trivial
  have hB := hB.loop hUC5 trivial
  refine WL.pure rfl rfl rfl (PV.assign rfl) ?_
  refine WL.nilS ?_
  refine CW.seq ?_
  refine CW.reg ?_
  have hLB := fs_list hL12 (by omega) (fun x hx => (hm4.2 x hx).1); have hW := longB_mk hL12 (by omega) hm8.2; have hS := src_y hLB hW (show (0 : Int) ≤ 4 ∧ (4 : Int) ≤ 5 from by decide)
  refine WL.pure rfl rfl rfl (PV.move rfl) ?_
  refine WL.pure rfl rfl rfl (PV.move rfl) ?_
  refine WL.op rfl (OpK.call rfl T.cf83 rfl (c_impl_SourcesOf_y (by first | assumption | exact Rd.up (by assumption) hB | exact rdCh (by assumption) (by assumption)) (by first | assumption | exact Rd.up (by assumption) hB | exact Osl.rd (by assumption) | exact Osn.rdR (by assumption) | exact NL.rd (by assumption) | exact rdII (by assumption) (by assumption) | exact Inn.rd (by assumption) (by omega)) (by first | assumption | omega | (simp only [marks_len, marksB_len, marksR_len, sumL_marksS, List.length_take]; omega))) (fun rv3 w6 hR => ?_))
  obtain ⟨hXw6, v9, og9, vs10, os10, rfl, ho9, hq9, hn10, hq10, hd9_10⟩ := hR
  have hl9 := Lo.up hq9 hB
  have hd1_9 := Dj.lo ho1.ltO hq9
  have hd2_9 := DI.fresh hn2 hq9
  have hd7_9 := Dj.lo ho7.ltO hq9
  have hl10 := LoI.up hq10 hB
  have hlv10 := hn10.lv
  have hd1_10 := DI.lo ho1.ltO hq10
  have hdd2_10 := DD.symm (DD.lo hn2 hq10)
  have hd7_10 := DI.lo ho7.ltO hq10
  have hB := hB.trans hXw6
  have ho1 := ho1.up hXw6
  have hn2 := hn2.up hXw6
  have ho7 := ho7.up hXw6
  refine WL.pure rfl rfl rfl (PV.move rfl) ?_
  refine WL.pure rfl rfl rfl (PV.extract rfl rfl) ?_
  refine WL.pure rfl rfl rfl (PV.extract rfl rfl) ?_
  refine WL.pure rfl rfl rfl (PV.assign rfl) ?_
  refine WL.pure rfl rfl rfl (PV.assign rfl) ?_
  refine WL.nilS ?_
  refine CW.seq ?_
  refine CW.reg ?_
  refine WL.pure rfl rfl rfl (PV.move rfl) ?_
  refine WL.pure rfl rfl rfl (PV.move rfl) ?_
  refine WL.op rfl (OpK.call rfl T.cf84 rfl (c_spec_SourcesOf_y (by first | assumption | exact Rd.up (by assumption) hB | exact rdCh (by assumption) (by assumption)) (by first | assumption | exact Rd.up (by assumption) hB | exact Osl.rd (by assumption) | exact Osn.rdR (by assumption) | exact NL.rd (by assumption) | exact rdII (by assumption) (by assumption) | exact Inn.rd (by assumption) (by omega)) (by first | assumption | omega | (simp only [marks_len, marksB_len, marksR_len, sumL_marksS, List.length_take]; omega))) (fun rv4 w7 hR => ?_))
  obtain ⟨hXw7, v11, og11, vs12, os12, rfl, ho11, hq11, hn12, hq12, hd11_12⟩ := hR
  have hl11 := Lo.up hq11 hB
  have hd1_11 := Dj.lo ho1.ltO hq11
  have hd2_11 := DI.fresh hn2 hq11
  have hd7_11 := Dj.lo ho7.ltO hq11
  have hd9_11 := Dj.lo ho9.ltO hq11
  have hd10_11 := DI.fresh hn10 hq11
  have hl12 := LoI.up hq12 hB
  have hlv12 := hn12.lv
  have hd1_12 := DI.lo ho1.ltO hq12
  have hdd2_12 := DD.symm (DD.lo hn2 hq12)
  have hd7_12 := DI.lo ho7.ltO hq12
  have hd9_12 := DI.lo ho9.ltO hq12
  have hdd10_12 := DD.symm (DD.lo hn10 hq12)
  have hB := hB.trans hXw7
  have ho1 := ho1.up hXw7
  have hn2 := hn2.up hXw7
  have ho7 := ho7.up hXw7
  have ho9 := ho9.up hXw7
  have hn10 := hn10.up hXw7
  refine WL.pure rfl rfl rfl (PV.move rfl) ?_
  refine WL.pure rfl rfl rfl (PV.extract rfl rfl) ?_
  refine WL.pure rfl rfl rfl (PV.extract rfl rfl) ?_
  refine WL.pure rfl rfl rfl (PV.assign rfl) ?_
  refine WL.pure rfl rfl rfl (PV.assign rfl) ?_
  refine WL.nilS ?_
  refine CW.seq ?_
  refine CW.seq ?_
  refine CW.reg ?_
  have hb10 : vs10.length ≤ 1365 := (by have h9 := (srcs_len (cs := cs3) (xs := ws6) (L := 2) (m := 4) (f := runF cs3)).1; rw [onT_yes hS] at h9; rw [hlv10]; exact h9)
  refine WL.pure rfl rfl rfl (PV.move rfl) ?_
  refine WL.pure rfl rfl rfl (PV.not rfl) ?_
  refine WL.pure rfl rfl rfl (PV.move rfl) ?_
  refine WL.pureG rfl rfl rfl rfl rfl (PV.move rfl) ?_
  refine WL.pureG rfl rfl rfl rfl rfl (PV.not rfl) ?_
  refine WL.pure rfl rfl rfl (PV.pickF rfl rfl) ?_
  refine WL.pure rfl rfl rfl (PV.move rfl) ?_
  refine WL.pureG rfl rfl rfl rfl rfl (PV.move rfl) ?_
  refine WL.pureG rfl rfl rfl rfl rfl ((PV.lenOs rfl ho9 T.sl25)) ?_
  refine WL.pureG rfl rfl rfl rfl rfl (PV.move rfl) ?_
  refine WL.pureG rfl rfl rfl rfl rfl ((PV.lenOs rfl ho11 T.sl25)) ?_
  refine WL.pureG rfl rfl rfl rfl rfl (PV.neq rfl rfl) ?_
  refine WL.pure rfl rfl rfl (PV.pickF rfl rfl) ?_
  refine WL.nilS ?_
  refine CW.cond rfl (fun hc2 => ?_) (fun hc2 => ?_)
  · skip
    try simp only [decide_eq_true_eq, decide_eq_false_iff_not, Bool.not_eq_true', Bool.not_eq_false', Bool.not_eq_eq_eq_not, Bool.not_true, Bool.not_false, Int.not_lt, Int.not_le, Classical.not_not, beq_iff_eq, beq_eq_false_iff_ne] at hc2
    exact absurd (by rw [hlv10, hlv12]) hc2
  try simp only [decide_eq_true_eq, decide_eq_false_iff_not, Bool.not_eq_true', Bool.not_eq_false', Bool.not_eq_eq_eq_not, Bool.not_true, Bool.not_false, Int.not_lt, Int.not_le, Classical.not_not, beq_iff_eq, beq_eq_false_iff_ne] at hc2
  refine CW.skipS ?_
  refine CW.seq ?_
  refine CW.seq ?_
  refine CW.reg ?_
  refine WL.pure rfl rfl rfl (PV.move rfl) ?_
  refine WL.pure rfl rfl rfl ((PV.lenOs rfl ho9 T.sl25)) ?_
  refine WL.pure rfl rfl rfl (PV.move rfl) ?_
  refine WL.nilS ?_
  refine CW.block ?_
  refine CW.loop (σk := [(0, _), (1, _), (5, _), (6, _), (7, _), (9, _), (79, _)]) (fun ρ wz m => ∃ (k : Nat), ρ = [(80, .int .i64 (k : Nat))] ∧ m = vs10.length - k ∧ UpdL [] w7 wz ∧ (k ≤ vs10.length)) (ρ₀ := [(80, _)]) (m₀ := _) ⟨rfl, rfl, rfl, rfl, rfl, rfl, rfl, rfl, trivial⟩ ⟨0, rfl, rfl, (UpdL.refl _ _), (by first | omega | rfl | (simp; done) | assumption | (simp_all; done))⟩ ?_
  rintro _ wl1 _ ⟨k, rfl, rfl, hU0, hk⟩
  have ho1 := ho1.loop hU0 trivial
  have hn2 := hn2.loop hU0 trivial
  have ho7 := ho7.loop hU0 trivial
  have ho9 := ho9.loop hU0 trivial
  have hn10 := hn10.loop hU0 trivial
  have ho11 := ho11.loop hU0 trivial
  have hn12 := hn12.loop hU0 trivial
  have hB := hB.loop hU0 trivial
  refine CW.seq ?_
  refine CW.reg ?_
  refine WL.pure rfl rfl rfl (PV.lss rfl rfl) ?_
  refine WL.nilS ?_
  refine CW.seq ?_
  refine CW.cond rfl (fun hc3 => ?_) (fun hc3 => ?_)
  · skip
    try simp only [decide_eq_true_eq, decide_eq_false_iff_not, Bool.not_eq_true', Bool.not_eq_false', Bool.not_eq_eq_eq_not, Bool.not_true, Bool.not_false, Int.not_lt, Int.not_le, Classical.not_not, beq_iff_eq, beq_eq_false_iff_ne] at hc3
    refine CW.skipS ?_
    refine CW.seq ?_
    refine CW.block ?_
    refine CW.seq ?_
    refine CW.reg ?_
    refine WL.pure rfl rfl rfl (PV.move rfl) ?_
    refine WL.pure rfl rfl rfl (PV.assign rfl) ?_
    refine WL.nilS ?_
    refine CW.seq ?_
    refine CW.reg ?_
    have hRR := fs_src (k := k) hL12 hLB (show (4 : Int) ≤ 5 from by decide) (show k < (srcL (runF cs3) ws6 2 4).length from by omega)
    refine WL.pure rfl rfl rfl (PV.move rfl) ?_
    refine WL.pure rfl rfl rfl (PV.move rfl) ?_
    refine WL.pure rfl rfl rfl (PV.move rfl) ?_
    first
      | refine WL.atO (x := .tmp 85) (y := .tmp 86) (f := VV) (.slice none 0 0) rfl rfl ho9 (by first | omega | (simp only [List.length_set]; omega) | (simp only [List.length_append, List.length_take, List.length_replicate, List.length_drop]; omega)) (fun p1 hpp1 hcp1 => ?_)
      | refine WL.atOZ (x := .tmp 85) (y := .tmp 86) (f := VV) (.slice none 0 0) rfl rfl ho9 (by first | omega | (simp only [List.length_set]; omega) | (simp only [List.length_append, List.length_take, List.length_replicate, List.length_drop]; omega)) (fun p1 hpp1 hzp1 hcp1 => ?_)
    refine WL.pure rfl rfl rfl ((by first | exact PV.indexAddr hpp1 rfl rfl T.sl25 | exact PV.indexAddr hpp1 rfl (by rw [← hzp1]; rfl) T.sl25)) ?_
    refine WL.pure rfl rfl rfl ((by first | exact PV.load0 T.na28 rfl (by first | exact Cells.up (by assumption) hB | exact Bx.cells (by assumption) | assumption) (Ext.refl _) rfl | exact PV.load1 T.na28 rfl (by first | exact Cells.up (by assumption) hB | exact Bx.cells (by assumption) | assumption) (Ext.refl _) rfl)) ?_
    refine WL.op rfl (OpK.call rfl T.cf85 rfl (c_impl_RunChanges_y (by first | assumption | exact Rd.up (by assumption) hB | exact rdCh (by assumption) (by assumption)) (by first | assumption | exact Rd.up (by assumption) hB | exact Osl.rd (by assumption) | exact Osn.rdR (by assumption) | exact NL.rd (by assumption) | exact rdII (by assumption) (by assumption) | exact Inn.rd (by assumption) (by omega)) (by first | assumption | omega | (simp only [marks_len, marksB_len, marksR_len, sumL_marksS, List.length_take]; omega))) (fun rv5 w8 hR => ?_))
    obtain ⟨hXw8, v13, og13, rfl, ho13, hq13⟩ := hR
    have hl13 := Lo.up hq13 hB
    have hd1_13 := Dj.lo ho1.ltO hq13
    have hd2_13 := DI.fresh hn2 hq13
    have hd7_13 := Dj.lo ho7.ltO hq13
    have hd9_13 := Dj.lo ho9.ltO hq13
    have hd10_13 := DI.fresh hn10 hq13
    have hd11_13 := Dj.lo ho11.ltO hq13
    have hd12_13 := DI.fresh hn12 hq13
    have hk0_13 := OkN.lo hU0 hq13
    have hg0_13 := OgR.lo hU0.size hq13
    have hB := hB.trans hXw8
    have ho1 := ho1.up hXw8
    have hn2 := hn2.up hXw8
    have ho7 := ho7.up hXw8
    have ho9 := ho9.up hXw8
    have hn10 := hn10.up hXw8
    have ho11 := ho11.up hXw8
    have hn12 := hn12.up hXw8
    have hU0 := hU0.ext hXw8
    refine WL.pure rfl rfl rfl (PV.move rfl) ?_
    refine WL.pure rfl rfl rfl (PV.extract rfl rfl) ?_
    refine WL.pure rfl rfl rfl (PV.extract rfl rfl) ?_
    refine WL.pure rfl rfl rfl (PV.assign rfl) ?_
    refine WL.pure rfl rfl rfl (PV.assign rfl) ?_
    refine WL.nilS ?_
    refine CW.seq ?_
    refine CW.draw T.mixed (by kernel_rfl) (fun _ _ _ _ _ h => h) (fun w8 w9 => Upd none w8 w9) 20 (.take 0 (.take 1 (.take 2 (.take 3 (.take 4 (.take 5 (.take 6 (.take 7 (.take 8 (.take 9 (.take 10 (.must 11 (.take 12 (.take 13 (.take 14 (.split (.take 15 (.take 16 (.take 17 (.take 18 (.take 19 .done))))) (.take 15 (.take 16 (.must 17 (.take 18 (.take 19 .done))))))))))))))))))))) (by kernel_rfl) (fun w9 hXd => ?_)
    have hB := hB.trans hXd
    have ho1 := ho1.up hXd
    have hn2 := hn2.up hXd
    have ho7 := ho7.up hXd
    have ho9 := ho9.up hXd
    have hn10 := hn10.up hXd
    have ho11 := ho11.up hXd
    have hn12 := hn12.up hXd
    have ho13 := ho13.up hXd
    have hU0 := hU0.ext hXd
    have hBr := hB
    have hS : Upd none w9 w9 := Ext.toUpd (Ext.refl _)
    refine HP.take rfl rfl rfl rfl hS (fun wS hS1 => PV.move rfl) ?_
    refine HP.take rfl rfl rfl rfl hS (fun wS hS1 => PV.not rfl) ?_
    refine HP.take rfl rfl rfl rfl hS (fun wS hS1 => PV.move rfl) ?_
    refine HP.takeG rfl rfl rfl rfl rfl rfl hS (fun wS hS1 => PV.move rfl) ?_
    refine HP.takeG rfl rfl rfl rfl rfl rfl hS (fun wS hS1 => PV.move rfl) ?_
    first
      | refine HP.atO (wb := w9) (x := .tmp 95) (y := .tmp 96) (f := VV) (.slice none 0 0) rfl rfl (by assumption) (by first | omega | (simp only [List.length_set]; omega) | (simp only [List.length_append, List.length_take, List.length_replicate, List.length_drop]; omega)) (fun p2 hpp2 hcp2 => ?_)
      | refine HP.atOZ (wb := w9) (x := .tmp 95) (y := .tmp 96) (f := VV) (.slice none 0 0) rfl rfl (by assumption) (by first | omega | (simp only [List.length_set]; omega) | (simp only [List.length_append, List.length_take, List.length_replicate, List.length_drop]; omega)) (fun p2 hpp2 hzp2 hcp2 => ?_)
    refine HP.takeG rfl rfl rfl rfl rfl rfl hS (fun wS hS1 => (by first | exact PV.indexAddr hpp2 rfl rfl T.sl25 | exact PV.indexAddr hpp2 rfl (by rw [← hzp2]; rfl) T.sl25)) ?_
    refine HP.takeG rfl rfl rfl rfl rfl rfl hS (fun wS hS1 => (by first | exact PV.load0 T.na28 rfl (by first | exact Cells.up (by assumption) (hBr.trans hS1) | exact Bx.cells (Bx.updD (by assumption) hS1 (Dj.nlR _)) | exact Cells.upd (by assumption) hS1 (by simp)) (Ext.refl _) rfl | exact PV.load1 T.na28 rfl (by first | exact Cells.up (by assumption) (hBr.trans hS1) | exact Bx.cells (Bx.updD (by assumption) hS1 (Dj.nlR _)) | exact Cells.upd (by assumption) hS1 (by simp)) (Ext.refl _) rfl)) ?_
    refine HP.takeG rfl rfl rfl rfl rfl rfl hS (fun wS hS1 => PV.move rfl) ?_
    refine HP.takeG rfl rfl rfl rfl rfl rfl hS (fun wS hS1 => PV.move rfl) ?_
    first
      | refine HP.atO (wb := w9) (x := .tmp 99) (y := .tmp 100) (f := VV) (.slice none 0 0) rfl rfl (by assumption) (by first | omega | (simp only [List.length_set]; omega) | (simp only [List.length_append, List.length_take, List.length_replicate, List.length_drop]; omega)) (fun p3 hpp3 hcp3 => ?_)
      | refine HP.atOZ (wb := w9) (x := .tmp 99) (y := .tmp 100) (f := VV) (.slice none 0 0) rfl rfl (by assumption) (by first | omega | (simp only [List.length_set]; omega) | (simp only [List.length_append, List.length_take, List.length_replicate, List.length_drop]; omega)) (fun p3 hpp3 hzp3 hcp3 => ?_)
    refine HP.takeG rfl rfl rfl rfl rfl rfl hS (fun wS hS1 => (by first | exact PV.indexAddr hpp3 rfl rfl T.sl25 | exact PV.indexAddr hpp3 rfl (by rw [← hzp3]; rfl) T.sl25)) ?_
    refine HP.takeG rfl rfl rfl rfl rfl rfl hS (fun wS hS1 => (by first | exact PV.load0 T.na28 rfl (by first | exact Cells.up (by assumption) (hBr.trans hS1) | exact Bx.cells (Bx.updD (by assumption) hS1 (Dj.nlR _)) | exact Cells.upd (by assumption) hS1 (by simp)) (Ext.refl _) rfl | exact PV.load1 T.na28 rfl (by first | exact Cells.up (by assumption) (hBr.trans hS1) | exact Bx.cells (Bx.updD (by assumption) hS1 (Dj.nlR _)) | exact Cells.upd (by assumption) hS1 (by simp)) (Ext.refl _) rfl)) ?_
    refine HP.mustG rfl rfl rfl rfl (OpK.callR rfl T.cf75 rfl (c_laws_b10Ints_y (by first | assumption | exact Rd.up (by assumption) hB | exact Osl.rd (by assumption) | exact Osn.rdR (by assumption) | exact NL.rd (by assumption) | exact rdII (by assumption) (by assumption) | exact Inn.rd (by assumption) (by omega)) (by first | assumption | exact Rd.up (by assumption) hB | exact Osl.rd (by assumption) | exact Osn.rdR (by assumption) | exact NL.rd (by assumption) | exact rdII (by assumption) (by assumption) | exact Inn.rd (by assumption) (by omega)) (by first | rfl | assumption)) (fun w10 hXw10 => ?_))
    refine ⟨Upd.trans hS hXw10, ?_⟩
    have hS := Upd.trans hS hXw10
    have hB := hB.trans hXw10
    have ho1 := ho1.up hXw10
    have hn2 := hn2.up hXw10
    have ho7 := ho7.up hXw10
    have ho9 := ho9.up hXw10
    have hn10 := hn10.up hXw10
    have ho11 := ho11.up hXw10
    have hn12 := hn12.up hXw10
    have ho13 := ho13.up hXw10
    have hU0 := hU0.ext hXw10
    refine HP.takeG rfl rfl rfl rfl rfl rfl hS (fun wS hS1 => PV.not rfl) ?_
    refine HP.take rfl rfl rfl rfl hS (fun wS hS1 => PV.pickF rfl rfl) ?_
    refine HP.take rfl rfl rfl rfl hS (fun wS hS1 => PV.move rfl) ?_
    refine HP.split (t := 106) rfl (fun hc4 => ?_) (fun hc4 => ?_)
    · skip
      try simp only [decide_eq_true_eq, decide_eq_false_iff_not, Bool.not_eq_true', Bool.not_eq_false', Bool.not_eq_eq_eq_not, Bool.not_true, Bool.not_false, Int.not_lt, Int.not_le, Classical.not_not, beq_iff_eq, beq_eq_false_iff_ne] at hc4
      refine HP.skip rfl rfl rfl rfl rfl rfl hS ?_
      refine HP.skip rfl rfl rfl rfl rfl rfl hS ?_
      refine HP.skip rfl rfl rfl rfl rfl rfl hS ?_
      refine HP.skip rfl rfl rfl rfl rfl rfl hS ?_
      refine HP.take rfl rfl rfl rfl hS (fun wS hS1 => PV.pickT rfl rfl) ?_
      refine HP.doneS ?_
      refine CW.condT rfl ?_
      refine CW.seq ?_
      refine CW.reg ?_
      refine WL.pure rfl rfl rfl (PV.assign rfl) ?_
      refine WL.nilS ?_
      refine CW.ret ?_
      refine RQ.block ?_
      refine RQ.then ?_
      refine RQ.then ?_
      refine RQ.block ?_
      refine RQ.then ?_
      refine RQ.r1 rfl ?_
      refine ⟨?_, hB⟩
      first | rfl | (exfalso; revert hc4; simp; done) | (exfalso; revert hc4; simp; omega) | (exfalso; omega) | first | rfl | exact bT (by omega) | exact bF (by omega) | exact bD (by omega) | exact iE (by omega) | (simp_all; done) | (simp_all; omega) | (simp_all; intros; omega)
    try simp only [decide_eq_true_eq, decide_eq_false_iff_not, Bool.not_eq_true', Bool.not_eq_false', Bool.not_eq_eq_eq_not, Bool.not_true, Bool.not_false, Int.not_lt, Int.not_le, Classical.not_not, beq_iff_eq, beq_eq_false_iff_ne] at hc4
    refine HP.takeG rfl rfl rfl rfl rfl rfl hS (fun wS hS1 => PV.move rfl) ?_
    refine HP.takeG rfl rfl rfl rfl rfl rfl hS (fun wS hS1 => PV.move rfl) ?_
    refine HP.mustG rfl rfl rfl rfl (OpK.callR rfl T.cf75 rfl (c_laws_b10Ints_y (by first | assumption | exact Rd.up (by assumption) hB | exact Osl.rd (by assumption) | exact Osn.rdR (by assumption) | exact NL.rd (by assumption) | exact rdII (by assumption) (by assumption) | exact Inn.rd (by assumption) (by omega)) (by first | assumption | exact Rd.up (by assumption) hB | exact Osl.rd (by assumption) | exact Osn.rdR (by assumption) | exact NL.rd (by assumption) | exact rdII (by assumption) (by assumption) | exact Inn.rd (by assumption) (by omega)) (by first | rfl | assumption)) (fun w11 hXw11 => ?_))
    refine ⟨Upd.trans hS hXw11, ?_⟩
    have hS := Upd.trans hS hXw11
    have hB := hB.trans hXw11
    have ho1 := ho1.up hXw11
    have hn2 := hn2.up hXw11
    have ho7 := ho7.up hXw11
    have ho9 := ho9.up hXw11
    have hn10 := hn10.up hXw11
    have ho11 := ho11.up hXw11
    have hn12 := hn12.up hXw11
    have ho13 := ho13.up hXw11
    have hU0 := hU0.ext hXw11
    refine HP.takeG rfl rfl rfl rfl rfl rfl hS (fun wS hS1 => PV.not rfl) ?_
    refine HP.take rfl rfl rfl rfl hS (fun wS hS1 => PV.pickF rfl rfl) ?_
    refine HP.doneS ?_
    refine CW.condF rfl ?_
    refine CW.skip ?_
    refine NQ.block ?_
    refine NQ.then ?_
    refine CW.reg ?_
    refine WL.pure rfl rfl rfl (PV.add rfl rfl (by constructor <;> omega)) ?_
    refine WL.pure rfl rfl rfl (PV.move rfl) ?_
    refine WL.nil ?_
    refine NQ.next (ρ := [(80, _)]) ⟨rfl, rfl, rfl, rfl, rfl, rfl, rfl, rfl, trivial⟩ ?_
    exact ⟨_, ⟨k + 1, rfl, rfl, hU0, (by first | omega | assumption | (simp_all; done) | (simp_all; omega))⟩, by omega⟩
  try simp only [decide_eq_true_eq, decide_eq_false_iff_not, Bool.not_eq_true', Bool.not_eq_false', Bool.not_eq_eq_eq_not, Bool.not_true, Bool.not_false, Int.not_lt, Int.not_le, Classical.not_not, beq_iff_eq, beq_eq_false_iff_ne] at hc3
  refine CW.exit ?_
  refine XQ.then ?_
  refine XQ.then ?_
  refine XQ.here ?_
  refine NQ.then ?_
  refine CW.seq ?_
  refine CW.reg ?_
  refine WL.pure rfl rfl rfl (PV.move rfl) ?_
  refine WL.op rfl (OpK.call rfl T.cf76 rfl (c_spec_B10Changes (by first | assumption | exact Rd.up (by assumption) hB | exact Osl.rd (by assumption) | exact Osn.rdR (by assumption) | exact NL.rd (by assumption) | exact rdII (by assumption) (by assumption) | exact Inn.rd (by assumption) (by omega)) (by first | assumption | omega | (simp only [marks_len, marksB_len, marksR_len, sumL_marksS, List.length_take]; omega)) (by first | assumption | omega | (simp only [marks_len, marksB_len, marksR_len, sumL_marksS, List.length_take]; omega)) (by first | assumption | omega | (simp only [marks_len, marksB_len, marksR_len, sumL_marksS, List.length_take]; omega))) (fun rv6 w12 hR => ?_))
  obtain ⟨hXw12, cs16, v14, og14, vs15, os15, rfl, hm17, ho14, hq14, hn15, hq15, hd14_15⟩ := hR
  have hl14 := Lo.up hq14 hB
  have hd1_14 := Dj.lo ho1.ltO hq14
  have hd2_14 := DI.fresh hn2 hq14
  have hd7_14 := Dj.lo ho7.ltO hq14
  have hd9_14 := Dj.lo ho9.ltO hq14
  have hd10_14 := DI.fresh hn10 hq14
  have hd11_14 := Dj.lo ho11.ltO hq14
  have hd12_14 := DI.fresh hn12 hq14
  have hl15 := LoI.up hq15 hB
  have hlv15 := hn15.lv
  have hd1_15 := DI.lo ho1.ltO hq15
  have hdd2_15 := DD.symm (DD.lo hn2 hq15)
  have hd7_15 := DI.lo ho7.ltO hq15
  have hd9_15 := DI.lo ho9.ltO hq15
  have hdd10_15 := DD.symm (DD.lo hn10 hq15)
  have hd11_15 := DI.lo ho11.ltO hq15
  have hdd12_15 := DD.symm (DD.lo hn12 hq15)
  obtain ⟨c, c2, rfl⟩ := two_of hm17.1
  have hB := hB.trans hXw12
  have ho1 := ho1.up hXw12
  have hn2 := hn2.up hXw12
  have ho7 := ho7.up hXw12
  have ho9 := ho9.up hXw12
  have hn10 := hn10.up hXw12
  have ho11 := ho11.up hXw12
  have hn12 := hn12.up hXw12
  refine WL.pure rfl rfl rfl (PV.assign rfl) ?_
  refine WL.nilS ?_
  refine CW.seq ?_
  refine CW.draw T.mixed (by kernel_rfl) (fun _ _ _ _ _ h => h) (fun w8 w9 => Upd none w8 w9) 12 (.take 0 (.take 1 (.take 2 (.take 3 (.take 4 (.take 5 (.must 6 (.take 7 (.take 8 (.take 9 (.take 10 (.take 11 .done)))))))))))) (by kernel_rfl) (fun w13 hXd => ?_)
  have hB := hB.trans hXd
  have ho1 := ho1.up hXd
  have hn2 := hn2.up hXd
  have ho7 := ho7.up hXd
  have ho9 := ho9.up hXd
  have hn10 := hn10.up hXd
  have ho11 := ho11.up hXd
  have hn12 := hn12.up hXd
  have ho14 := ho14.up hXd
  have hn15 := hn15.up hXd
  have hBr := hB
  have hS : Upd none w13 w13 := Ext.toUpd (Ext.refl _)
  refine HP.take rfl rfl rfl rfl hS (fun wS hS1 => PV.move rfl) ?_
  obtain ⟨p4, vqp4_0, vqp4_1, vqp4_2, vqp4_3, hpp4, hcp4, hqFp4⟩ := Osn.chAt ho14 hn15 (i := 0) (by first | omega | (simp only [List.length_set]; omega) | (simp only [List.length_append, List.length_take, List.length_replicate, List.length_drop]; omega))
  refine HP.take rfl rfl rfl rfl hS (fun wS hS1 => (PV.indexAddr hpp4 rfl rfl T.sl98)) ?_
  obtain ⟨hqp4_0, hqp4_1, hqp4_2, hqp4_3⟩ := hqFp4 _ hn15
  refine HP.take rfl rfl rfl rfl hS (fun wS hS1 => (by first | exact PV.loadA T.ag107 rfl (by first | exact Cells.up (by assumption) (hBr.trans hS1) | exact Bx.cells (Bx.updD (by assumption) hS1 (Dj.nlR _)) | exact Cells.upd (by assumption) hS1 (by simp)) (Ext.refl _) rfl | exact PV.loadP (ds := [_, _, _, _]) T.ag107 rfl (by first | exact Cells.up (by assumption) (hBr.trans hS1) | exact Bx.cells (Bx.updD (by assumption) hS1 (Dj.nlR _)) | exact Cells.upd (by assumption) hS1 (by simp)) (Ext.refl _) rfl rfl)) ?_
  refine HP.take rfl rfl rfl rfl hS (fun wS hS1 => PV.move rfl) ?_
  obtain ⟨p5, vqp5_0, vqp5_1, vqp5_2, vqp5_3, hpp5, hcp5, hqFp5⟩ := Osn.chAt ho14 hn15 (i := 1) (by first | omega | (simp only [List.length_set]; omega) | (simp only [List.length_append, List.length_take, List.length_replicate, List.length_drop]; omega))
  refine HP.take rfl rfl rfl rfl hS (fun wS hS1 => (PV.indexAddr hpp5 rfl rfl T.sl98)) ?_
  obtain ⟨hqp4_0, hqp4_1, hqp4_2, hqp4_3⟩ := hqFp4 _ hn15
  obtain ⟨hqp5_0, hqp5_1, hqp5_2, hqp5_3⟩ := hqFp5 _ hn15
  refine HP.take rfl rfl rfl rfl hS (fun wS hS1 => (by first | exact PV.loadA T.ag107 rfl (by first | exact Cells.up (by assumption) (hBr.trans hS1) | exact Bx.cells (Bx.updD (by assumption) hS1 (Dj.nlR _)) | exact Cells.upd (by assumption) hS1 (by simp)) (Ext.refl _) rfl | exact PV.loadP (ds := [_, _, _, _]) T.ag107 rfl (by first | exact Cells.up (by assumption) (hBr.trans hS1) | exact Bx.cells (Bx.updD (by assumption) hS1 (Dj.nlR _)) | exact Cells.upd (by assumption) hS1 (by simp)) (Ext.refl _) rfl rfl)) ?_
  refine HP.must rfl rfl (OpK.call rfl T.cf86 rfl (c_impl_OrderWord (c := c) (c2 := c2) (by first | assumption | exact Rd.up (by assumption) hB | exact Osl.rd (by assumption) | exact Osn.rdR (by assumption) | exact NL.rd (by assumption) | exact rdII (by assumption) (by assumption) | exact Inn.rd (by assumption) (by omega)) (by first | assumption | exact Rd.up (by assumption) hB | exact Osl.rd (by assumption) | exact Osn.rdR (by assumption) | exact NL.rd (by assumption) | exact rdII (by assumption) (by assumption) | exact Inn.rd (by assumption) (by omega)) (by first | assumption | exact Rd.up (by assumption) hB | exact Osl.rd (by assumption) | exact Osn.rdR (by assumption) | exact NL.rd (by assumption) | exact rdII (by assumption) (by assumption) | exact Inn.rd (by assumption) (by omega)) (by first | assumption | exact Rd.up (by assumption) hB | exact Osl.rd (by assumption) | exact Osn.rdR (by assumption) | exact NL.rd (by assumption) | exact rdII (by assumption) (by assumption) | exact Inn.rd (by assumption) (by omega)) (by first | assumption | exact Rd.up (by assumption) hB | exact Osl.rd (by assumption) | exact Osn.rdR (by assumption) | exact NL.rd (by assumption) | exact rdII (by assumption) (by assumption) | exact Inn.rd (by assumption) (by omega)) (by first | assumption | exact Rd.up (by assumption) hB | exact Osl.rd (by assumption) | exact Osn.rdR (by assumption) | exact NL.rd (by assumption) | exact rdII (by assumption) (by assumption) | exact Inn.rd (by assumption) (by omega)) (by first | assumption | exact Rd.up (by assumption) hB | exact Osl.rd (by assumption) | exact Osn.rdR (by assumption) | exact NL.rd (by assumption) | exact rdII (by assumption) (by assumption) | exact Inn.rd (by assumption) (by omega)) (by first | assumption | exact Rd.up (by assumption) hB | exact Osl.rd (by assumption) | exact Osn.rdR (by assumption) | exact NL.rd (by assumption) | exact rdII (by assumption) (by assumption) | exact Inn.rd (by assumption) (by omega))) (fun rv7 w14 hR => ?_))
  obtain ⟨hXw14, v18, og18, rfl, ho18, hq18⟩ := hR
  have hl18 := Lo.up hq18 hB
  have hv18 := Lo.up hq18 hS
  have hd1_18 := Dj.lo ho1.ltO hq18
  have hd2_18 := DI.fresh hn2 hq18
  have hd7_18 := Dj.lo ho7.ltO hq18
  have hd9_18 := Dj.lo ho9.ltO hq18
  have hd10_18 := DI.fresh hn10 hq18
  have hd11_18 := Dj.lo ho11.ltO hq18
  have hd12_18 := DI.fresh hn12 hq18
  have hd14_18 := Dj.lo ho14.ltO hq18
  have hd15_18 := DI.fresh hn15 hq18
  refine ⟨Upd.trans hS hXw14, ?_⟩
  have hS := Upd.trans hS hXw14
  have hB := hB.trans hXw14
  have ho1 := ho1.up hXw14
  have hn2 := hn2.up hXw14
  have ho7 := ho7.up hXw14
  have ho9 := ho9.up hXw14
  have hn10 := hn10.up hXw14
  have ho11 := ho11.up hXw14
  have hn12 := hn12.up hXw14
  have ho14 := ho14.up hXw14
  have hn15 := hn15.up hXw14
  obtain ⟨hqp4_0, hqp4_1, hqp4_2, hqp4_3⟩ := hqFp4 _ hn15
  obtain ⟨hqp5_0, hqp5_1, hqp5_2, hqp5_3⟩ := hqFp5 _ hn15
  refine HP.take rfl rfl rfl rfl hS (fun wS hS1 => PV.move rfl) ?_
  refine HP.take rfl rfl rfl rfl hS (fun wS hS1 => PV.extract rfl rfl) ?_
  refine HP.take rfl rfl rfl rfl hS (fun wS hS1 => PV.extract rfl rfl) ?_
  refine HP.take rfl rfl rfl rfl hS (fun wS hS1 => PV.assign rfl) ?_
  refine HP.take rfl rfl rfl rfl hS (fun wS hS1 => PV.assign rfl) ?_
  refine HP.doneS ?_
  refine CW.seq ?_
  refine CW.draw T.mixed (by kernel_rfl) (fun _ _ _ _ _ h => h) (fun w8 w9 => Upd none w8 w9) 12 (.take 0 (.take 1 (.take 2 (.take 3 (.take 4 (.take 5 (.must 6 (.take 7 (.take 8 (.take 9 (.take 10 (.take 11 .done)))))))))))) (by kernel_rfl) (fun w15 hXd => ?_)
  have hB := hB.trans hXd
  have ho1 := ho1.up hXd
  have hn2 := hn2.up hXd
  have ho7 := ho7.up hXd
  have ho9 := ho9.up hXd
  have hn10 := hn10.up hXd
  have ho11 := ho11.up hXd
  have hn12 := hn12.up hXd
  have ho14 := ho14.up hXd
  have hn15 := hn15.up hXd
  have ho18 := ho18.up hXd
  have hBr := hB
  have hS : Upd none w15 w15 := Ext.toUpd (Ext.refl _)
  obtain ⟨hqp4_0, hqp4_1, hqp4_2, hqp4_3⟩ := hqFp4 _ hn15
  obtain ⟨hqp5_0, hqp5_1, hqp5_2, hqp5_3⟩ := hqFp5 _ hn15
  refine HP.take rfl rfl rfl rfl hS (fun wS hS1 => PV.move rfl) ?_
  obtain ⟨p6, vqp6_0, vqp6_1, vqp6_2, vqp6_3, hpp6, hcp6, hqFp6⟩ := Osn.chAt ho14 hn15 (i := 0) (by first | omega | (simp only [List.length_set]; omega) | (simp only [List.length_append, List.length_take, List.length_replicate, List.length_drop]; omega))
  refine HP.take rfl rfl rfl rfl hS (fun wS hS1 => (PV.indexAddr hpp6 rfl rfl T.sl98)) ?_
  obtain ⟨hqp4_0, hqp4_1, hqp4_2, hqp4_3⟩ := hqFp4 _ hn15
  obtain ⟨hqp5_0, hqp5_1, hqp5_2, hqp5_3⟩ := hqFp5 _ hn15
  obtain ⟨hqp6_0, hqp6_1, hqp6_2, hqp6_3⟩ := hqFp6 _ hn15
  refine HP.take rfl rfl rfl rfl hS (fun wS hS1 => (by first | exact PV.loadA T.ag107 rfl (by first | exact Cells.up (by assumption) (hBr.trans hS1) | exact Bx.cells (Bx.updD (by assumption) hS1 (Dj.nlR _)) | exact Cells.upd (by assumption) hS1 (by simp)) (Ext.refl _) rfl | exact PV.loadP (ds := [_, _, _, _]) T.ag107 rfl (by first | exact Cells.up (by assumption) (hBr.trans hS1) | exact Bx.cells (Bx.updD (by assumption) hS1 (Dj.nlR _)) | exact Cells.upd (by assumption) hS1 (by simp)) (Ext.refl _) rfl rfl)) ?_
  refine HP.take rfl rfl rfl rfl hS (fun wS hS1 => PV.move rfl) ?_
  obtain ⟨p7, vqp7_0, vqp7_1, vqp7_2, vqp7_3, hpp7, hcp7, hqFp7⟩ := Osn.chAt ho14 hn15 (i := 1) (by first | omega | (simp only [List.length_set]; omega) | (simp only [List.length_append, List.length_take, List.length_replicate, List.length_drop]; omega))
  refine HP.take rfl rfl rfl rfl hS (fun wS hS1 => (PV.indexAddr hpp7 rfl rfl T.sl98)) ?_
  obtain ⟨hqp4_0, hqp4_1, hqp4_2, hqp4_3⟩ := hqFp4 _ hn15
  obtain ⟨hqp5_0, hqp5_1, hqp5_2, hqp5_3⟩ := hqFp5 _ hn15
  obtain ⟨hqp6_0, hqp6_1, hqp6_2, hqp6_3⟩ := hqFp6 _ hn15
  obtain ⟨hqp7_0, hqp7_1, hqp7_2, hqp7_3⟩ := hqFp7 _ hn15
  refine HP.take rfl rfl rfl rfl hS (fun wS hS1 => (by first | exact PV.loadA T.ag107 rfl (by first | exact Cells.up (by assumption) (hBr.trans hS1) | exact Bx.cells (Bx.updD (by assumption) hS1 (Dj.nlR _)) | exact Cells.upd (by assumption) hS1 (by simp)) (Ext.refl _) rfl | exact PV.loadP (ds := [_, _, _, _]) T.ag107 rfl (by first | exact Cells.up (by assumption) (hBr.trans hS1) | exact Bx.cells (Bx.updD (by assumption) hS1 (Dj.nlR _)) | exact Cells.upd (by assumption) hS1 (by simp)) (Ext.refl _) rfl rfl)) ?_
  refine HP.must rfl rfl (OpK.call rfl T.cf87 rfl (c_spec_OrderWord (c := c) (c2 := c2) (by first | assumption | exact Rd.up (by assumption) hB | exact Osl.rd (by assumption) | exact Osn.rdR (by assumption) | exact NL.rd (by assumption) | exact rdII (by assumption) (by assumption) | exact Inn.rd (by assumption) (by omega)) (by first | assumption | exact Rd.up (by assumption) hB | exact Osl.rd (by assumption) | exact Osn.rdR (by assumption) | exact NL.rd (by assumption) | exact rdII (by assumption) (by assumption) | exact Inn.rd (by assumption) (by omega)) (by first | assumption | exact Rd.up (by assumption) hB | exact Osl.rd (by assumption) | exact Osn.rdR (by assumption) | exact NL.rd (by assumption) | exact rdII (by assumption) (by assumption) | exact Inn.rd (by assumption) (by omega)) (by first | assumption | exact Rd.up (by assumption) hB | exact Osl.rd (by assumption) | exact Osn.rdR (by assumption) | exact NL.rd (by assumption) | exact rdII (by assumption) (by assumption) | exact Inn.rd (by assumption) (by omega)) (by first | assumption | exact Rd.up (by assumption) hB | exact Osl.rd (by assumption) | exact Osn.rdR (by assumption) | exact NL.rd (by assumption) | exact rdII (by assumption) (by assumption) | exact Inn.rd (by assumption) (by omega)) (by first | assumption | exact Rd.up (by assumption) hB | exact Osl.rd (by assumption) | exact Osn.rdR (by assumption) | exact NL.rd (by assumption) | exact rdII (by assumption) (by assumption) | exact Inn.rd (by assumption) (by omega)) (by first | assumption | exact Rd.up (by assumption) hB | exact Osl.rd (by assumption) | exact Osn.rdR (by assumption) | exact NL.rd (by assumption) | exact rdII (by assumption) (by assumption) | exact Inn.rd (by assumption) (by omega)) (by first | assumption | exact Rd.up (by assumption) hB | exact Osl.rd (by assumption) | exact Osn.rdR (by assumption) | exact NL.rd (by assumption) | exact rdII (by assumption) (by assumption) | exact Inn.rd (by assumption) (by omega))) (fun rv8 w16 hR => ?_))
  obtain ⟨hXw16, v19, og19, rfl, ho19, hq19⟩ := hR
  have hl19 := Lo.up hq19 hB
  have hv19 := Lo.up hq19 hS
  have hd1_19 := Dj.lo ho1.ltO hq19
  have hd2_19 := DI.fresh hn2 hq19
  have hd7_19 := Dj.lo ho7.ltO hq19
  have hd9_19 := Dj.lo ho9.ltO hq19
  have hd10_19 := DI.fresh hn10 hq19
  have hd11_19 := Dj.lo ho11.ltO hq19
  have hd12_19 := DI.fresh hn12 hq19
  have hd14_19 := Dj.lo ho14.ltO hq19
  have hd15_19 := DI.fresh hn15 hq19
  have hd18_19 := Dj.lo ho18.ltO hq19
  refine ⟨Upd.trans hS hXw16, ?_⟩
  have hS := Upd.trans hS hXw16
  have hB := hB.trans hXw16
  have ho1 := ho1.up hXw16
  have hn2 := hn2.up hXw16
  have ho7 := ho7.up hXw16
  have ho9 := ho9.up hXw16
  have hn10 := hn10.up hXw16
  have ho11 := ho11.up hXw16
  have hn12 := hn12.up hXw16
  have ho14 := ho14.up hXw16
  have hn15 := hn15.up hXw16
  have ho18 := ho18.up hXw16
  obtain ⟨hqp4_0, hqp4_1, hqp4_2, hqp4_3⟩ := hqFp4 _ hn15
  obtain ⟨hqp5_0, hqp5_1, hqp5_2, hqp5_3⟩ := hqFp5 _ hn15
  obtain ⟨hqp6_0, hqp6_1, hqp6_2, hqp6_3⟩ := hqFp6 _ hn15
  obtain ⟨hqp7_0, hqp7_1, hqp7_2, hqp7_3⟩ := hqFp7 _ hn15
  refine HP.take rfl rfl rfl rfl hS (fun wS hS1 => PV.move rfl) ?_
  refine HP.take rfl rfl rfl rfl hS (fun wS hS1 => PV.extract rfl rfl) ?_
  refine HP.take rfl rfl rfl rfl hS (fun wS hS1 => PV.extract rfl rfl) ?_
  refine HP.take rfl rfl rfl rfl hS (fun wS hS1 => PV.assign rfl) ?_
  refine HP.take rfl rfl rfl rfl hS (fun wS hS1 => PV.assign rfl) ?_
  refine HP.doneS ?_
  refine CW.seq ?_
  refine CW.draw T.mixed (by kernel_rfl) (fun _ _ _ _ _ h => h) (fun w8 w9 => Upd none w8 w9) 12 (.take 0 (.take 1 (.take 2 (.take 3 (.take 4 (.take 5 (.must 6 (.take 7 (.take 8 (.take 9 (.take 10 (.take 11 .done)))))))))))) (by kernel_rfl) (fun w17 hXd => ?_)
  have hB := hB.trans hXd
  have ho1 := ho1.up hXd
  have hn2 := hn2.up hXd
  have ho7 := ho7.up hXd
  have ho9 := ho9.up hXd
  have hn10 := hn10.up hXd
  have ho11 := ho11.up hXd
  have hn12 := hn12.up hXd
  have ho14 := ho14.up hXd
  have hn15 := hn15.up hXd
  have ho18 := ho18.up hXd
  have ho19 := ho19.up hXd
  have hBr := hB
  have hS : Upd none w17 w17 := Ext.toUpd (Ext.refl _)
  obtain ⟨hqp4_0, hqp4_1, hqp4_2, hqp4_3⟩ := hqFp4 _ hn15
  obtain ⟨hqp5_0, hqp5_1, hqp5_2, hqp5_3⟩ := hqFp5 _ hn15
  obtain ⟨hqp6_0, hqp6_1, hqp6_2, hqp6_3⟩ := hqFp6 _ hn15
  obtain ⟨hqp7_0, hqp7_1, hqp7_2, hqp7_3⟩ := hqFp7 _ hn15
  refine HP.take rfl rfl rfl rfl hS (fun wS hS1 => PV.move rfl) ?_
  obtain ⟨p8, vqp8_0, vqp8_1, vqp8_2, vqp8_3, hpp8, hcp8, hqFp8⟩ := Osn.chAt ho14 hn15 (i := 0) (by first | omega | (simp only [List.length_set]; omega) | (simp only [List.length_append, List.length_take, List.length_replicate, List.length_drop]; omega))
  refine HP.take rfl rfl rfl rfl hS (fun wS hS1 => (PV.indexAddr hpp8 rfl rfl T.sl98)) ?_
  obtain ⟨hqp4_0, hqp4_1, hqp4_2, hqp4_3⟩ := hqFp4 _ hn15
  obtain ⟨hqp5_0, hqp5_1, hqp5_2, hqp5_3⟩ := hqFp5 _ hn15
  obtain ⟨hqp6_0, hqp6_1, hqp6_2, hqp6_3⟩ := hqFp6 _ hn15
  obtain ⟨hqp7_0, hqp7_1, hqp7_2, hqp7_3⟩ := hqFp7 _ hn15
  obtain ⟨hqp8_0, hqp8_1, hqp8_2, hqp8_3⟩ := hqFp8 _ hn15
  refine HP.take rfl rfl rfl rfl hS (fun wS hS1 => (by first | exact PV.loadA T.ag107 rfl (by first | exact Cells.up (by assumption) (hBr.trans hS1) | exact Bx.cells (Bx.updD (by assumption) hS1 (Dj.nlR _)) | exact Cells.upd (by assumption) hS1 (by simp)) (Ext.refl _) rfl | exact PV.loadP (ds := [_, _, _, _]) T.ag107 rfl (by first | exact Cells.up (by assumption) (hBr.trans hS1) | exact Bx.cells (Bx.updD (by assumption) hS1 (Dj.nlR _)) | exact Cells.upd (by assumption) hS1 (by simp)) (Ext.refl _) rfl rfl)) ?_
  refine HP.take rfl rfl rfl rfl hS (fun wS hS1 => PV.move rfl) ?_
  obtain ⟨p9, vqp9_0, vqp9_1, vqp9_2, vqp9_3, hpp9, hcp9, hqFp9⟩ := Osn.chAt ho14 hn15 (i := 0) (by first | omega | (simp only [List.length_set]; omega) | (simp only [List.length_append, List.length_take, List.length_replicate, List.length_drop]; omega))
  refine HP.take rfl rfl rfl rfl hS (fun wS hS1 => (PV.indexAddr hpp9 rfl rfl T.sl98)) ?_
  obtain ⟨hqp4_0, hqp4_1, hqp4_2, hqp4_3⟩ := hqFp4 _ hn15
  obtain ⟨hqp5_0, hqp5_1, hqp5_2, hqp5_3⟩ := hqFp5 _ hn15
  obtain ⟨hqp6_0, hqp6_1, hqp6_2, hqp6_3⟩ := hqFp6 _ hn15
  obtain ⟨hqp7_0, hqp7_1, hqp7_2, hqp7_3⟩ := hqFp7 _ hn15
  obtain ⟨hqp8_0, hqp8_1, hqp8_2, hqp8_3⟩ := hqFp8 _ hn15
  obtain ⟨hqp9_0, hqp9_1, hqp9_2, hqp9_3⟩ := hqFp9 _ hn15
  refine HP.take rfl rfl rfl rfl hS (fun wS hS1 => (by first | exact PV.loadA T.ag107 rfl (by first | exact Cells.up (by assumption) (hBr.trans hS1) | exact Bx.cells (Bx.updD (by assumption) hS1 (Dj.nlR _)) | exact Cells.upd (by assumption) hS1 (by simp)) (Ext.refl _) rfl | exact PV.loadP (ds := [_, _, _, _]) T.ag107 rfl (by first | exact Cells.up (by assumption) (hBr.trans hS1) | exact Bx.cells (Bx.updD (by assumption) hS1 (Dj.nlR _)) | exact Cells.upd (by assumption) hS1 (by simp)) (Ext.refl _) rfl rfl)) ?_
  refine HP.must rfl rfl (OpK.call rfl T.cf86 rfl (c_impl_OrderWord_n (c := c) (c2 := c) (by first | assumption | exact Rd.up (by assumption) hB | exact Osl.rd (by assumption) | exact Osn.rdR (by assumption) | exact NL.rd (by assumption) | exact rdII (by assumption) (by assumption) | exact Inn.rd (by assumption) (by omega)) (by first | assumption | exact Rd.up (by assumption) hB | exact Osl.rd (by assumption) | exact Osn.rdR (by assumption) | exact NL.rd (by assumption) | exact rdII (by assumption) (by assumption) | exact Inn.rd (by assumption) (by omega)) (by first | assumption | exact Rd.up (by assumption) hB | exact Osl.rd (by assumption) | exact Osn.rdR (by assumption) | exact NL.rd (by assumption) | exact rdII (by assumption) (by assumption) | exact Inn.rd (by assumption) (by omega)) (by first | assumption | exact Rd.up (by assumption) hB | exact Osl.rd (by assumption) | exact Osn.rdR (by assumption) | exact NL.rd (by assumption) | exact rdII (by assumption) (by assumption) | exact Inn.rd (by assumption) (by omega)) (by first | assumption | exact Rd.up (by assumption) hB | exact Osl.rd (by assumption) | exact Osn.rdR (by assumption) | exact NL.rd (by assumption) | exact rdII (by assumption) (by assumption) | exact Inn.rd (by assumption) (by omega)) (by first | assumption | exact Rd.up (by assumption) hB | exact Osl.rd (by assumption) | exact Osn.rdR (by assumption) | exact NL.rd (by assumption) | exact rdII (by assumption) (by assumption) | exact Inn.rd (by assumption) (by omega)) (by first | assumption | exact Rd.up (by assumption) hB | exact Osl.rd (by assumption) | exact Osn.rdR (by assumption) | exact NL.rd (by assumption) | exact rdII (by assumption) (by assumption) | exact Inn.rd (by assumption) (by omega)) (by first | assumption | exact Rd.up (by assumption) hB | exact Osl.rd (by assumption) | exact Osn.rdR (by assumption) | exact NL.rd (by assumption) | exact rdII (by assumption) (by assumption) | exact Inn.rd (by assumption) (by omega)) (by rfl)) (fun rv9 w18 hR => ?_))
  obtain ⟨hXw18, v20, og20, rfl, ho20, hq20⟩ := hR
  have hl20 := Lo.up hq20 hB
  have hv20 := Lo.up hq20 hS
  have hd1_20 := Dj.lo ho1.ltO hq20
  have hd2_20 := DI.fresh hn2 hq20
  have hd7_20 := Dj.lo ho7.ltO hq20
  have hd9_20 := Dj.lo ho9.ltO hq20
  have hd10_20 := DI.fresh hn10 hq20
  have hd11_20 := Dj.lo ho11.ltO hq20
  have hd12_20 := DI.fresh hn12 hq20
  have hd14_20 := Dj.lo ho14.ltO hq20
  have hd15_20 := DI.fresh hn15 hq20
  have hd18_20 := Dj.lo ho18.ltO hq20
  have hd19_20 := Dj.lo ho19.ltO hq20
  refine ⟨Upd.trans hS hXw18, ?_⟩
  have hS := Upd.trans hS hXw18
  have hB := hB.trans hXw18
  have ho1 := ho1.up hXw18
  have hn2 := hn2.up hXw18
  have ho7 := ho7.up hXw18
  have ho9 := ho9.up hXw18
  have hn10 := hn10.up hXw18
  have ho11 := ho11.up hXw18
  have hn12 := hn12.up hXw18
  have ho14 := ho14.up hXw18
  have hn15 := hn15.up hXw18
  have ho18 := ho18.up hXw18
  have ho19 := ho19.up hXw18
  obtain ⟨hqp4_0, hqp4_1, hqp4_2, hqp4_3⟩ := hqFp4 _ hn15
  obtain ⟨hqp5_0, hqp5_1, hqp5_2, hqp5_3⟩ := hqFp5 _ hn15
  obtain ⟨hqp6_0, hqp6_1, hqp6_2, hqp6_3⟩ := hqFp6 _ hn15
  obtain ⟨hqp7_0, hqp7_1, hqp7_2, hqp7_3⟩ := hqFp7 _ hn15
  obtain ⟨hqp8_0, hqp8_1, hqp8_2, hqp8_3⟩ := hqFp8 _ hn15
  obtain ⟨hqp9_0, hqp9_1, hqp9_2, hqp9_3⟩ := hqFp9 _ hn15
  refine HP.take rfl rfl rfl rfl hS (fun wS hS1 => PV.move rfl) ?_
  refine HP.take rfl rfl rfl rfl hS (fun wS hS1 => PV.extract rfl rfl) ?_
  refine HP.take rfl rfl rfl rfl hS (fun wS hS1 => PV.extract rfl rfl) ?_
  refine HP.take rfl rfl rfl rfl hS (fun wS hS1 => PV.assign rfl) ?_
  refine HP.take rfl rfl rfl rfl hS (fun wS hS1 => PV.assign rfl) ?_
  refine HP.doneS ?_
  refine CW.seq ?_
  refine CW.cut (σk := [(0, _), (1, _), (6, _)]) (fun ρ wz => ∃ (_ : Unit), ρ = [(164, .bool false)] ∧ Ext w18 wz ∧ True) ⟨rfl, rfl, rfl, trivial⟩ ?_ ?_
  · skip
    have hB0 := Ext.refl w18
    have hBc := Ext.refl w18
    refine CW.reg ?_
    refine WL.pure rfl rfl rfl (PV.move rfl) ?_
    refine WL.pure rfl rfl rfl (PV.move rfl) ?_
    refine WL.pure rfl rfl rfl (PV.neqB T.bl4 rfl rfl) ?_
    refine WL.pure rfl rfl rfl (PV.move rfl) ?_
    refine WL.split (t := 148) rfl (fun hc5 => ?_) (fun hc5 => ?_)
    · skip
      try simp only [decide_eq_true_eq, decide_eq_false_iff_not, Bool.not_eq_true', Bool.not_eq_false', Bool.not_eq_eq_eq_not, Bool.not_true, Bool.not_false, Int.not_lt, Int.not_le, Classical.not_not, beq_iff_eq, beq_eq_false_iff_ne] at hc5
      exfalso; revert hc5; simp
    try simp only [decide_eq_true_eq, decide_eq_false_iff_not, Bool.not_eq_true', Bool.not_eq_false', Bool.not_eq_eq_eq_not, Bool.not_true, Bool.not_false, Int.not_lt, Int.not_le, Classical.not_not, beq_iff_eq, beq_eq_false_iff_ne] at hc5
    refine WL.pureG rfl rfl rfl rfl rfl (PV.move rfl) ?_
    refine WL.pureG rfl rfl rfl rfl rfl (PV.move rfl) ?_
    refine WL.split (t := 150) rfl (fun hc6 => ?_) (fun hc6 => ?_)
    rotate_left
    · skip
      try simp only [decide_eq_true_eq, decide_eq_false_iff_not, Bool.not_eq_true', Bool.not_eq_false', Bool.not_eq_eq_eq_not, Bool.not_true, Bool.not_false, Int.not_lt, Int.not_le, Classical.not_not, beq_iff_eq, beq_eq_false_iff_ne] at hc6
      refine WL.skip rfl rfl rfl rfl rfl ?_
      refine WL.skip rfl rfl rfl rfl rfl ?_
      refine WL.skip rfl rfl rfl rfl rfl ?_
      refine WL.skip rfl rfl rfl rfl rfl ?_
      refine WL.pureG rfl rfl rfl rfl rfl (PV.pickF rfl rfl) ?_
      refine WL.pure rfl rfl rfl (PV.pickF rfl rfl) ?_
      refine WL.pure rfl rfl rfl (PV.move rfl) ?_
      refine WL.pureG rfl rfl rfl rfl rfl (PV.move rfl) ?_
      refine WL.pure rfl rfl rfl (PV.pickF rfl rfl) ?_
      refine WL.pure rfl rfl rfl (PV.move rfl) ?_
      refine WL.pureG rfl rfl rfl rfl rfl (PV.move rfl) ?_
      refine WL.pureG rfl rfl rfl rfl rfl ((PV.lenOs rfl ho20 T.sl28)) ?_
      refine WL.pureG rfl rfl rfl rfl rfl (PV.neq rfl rfl) ?_
      refine WL.pure rfl rfl rfl (PV.pickF rfl rfl) ?_
      refine WL.nil ?_
      exact NQ.cut (ρ := [(164, _)]) ⟨rfl, rfl, rfl, rfl, trivial⟩ ⟨(), (by first | rfl | exact congrArg (fun b => [(164, Value.bool b)]) (by first | (simp; done) | (simp; omega))), hBc, trivial⟩
    try simp only [decide_eq_true_eq, decide_eq_false_iff_not, Bool.not_eq_true', Bool.not_eq_false', Bool.not_eq_eq_eq_not, Bool.not_true, Bool.not_false, Int.not_lt, Int.not_le, Classical.not_not, beq_iff_eq, beq_eq_false_iff_ne] at hc6
    refine WL.pureG rfl rfl rfl rfl rfl (PV.move rfl) ?_
    refine WL.pureG rfl rfl rfl rfl rfl (PV.move rfl) ?_
    refine WL.opG rfl rfl rfl (OpK.callR rfl T.cf75 rfl (c_laws_b10Ints_y (by first | assumption | exact Rd.up (by assumption) hB | exact Osl.rd (by assumption) | exact Osn.rdR (by assumption) | exact NL.rd (by assumption) | exact rdII (by assumption) (by assumption) | exact Inn.rd (by assumption) (by omega)) (by first | assumption | exact Rd.up (by assumption) hB | exact Osl.rd (by assumption) | exact Osn.rdR (by assumption) | exact NL.rd (by assumption) | exact rdII (by assumption) (by assumption) | exact Inn.rd (by assumption) (by omega)) (by first | rfl | assumption)) (fun w19 hXw19 => ?_))
    have hB := hB.trans hXw19
    have hBc := (by first | exact hBc.trans hXw19 | exact hB0.trans hXw19)
    have ho1 := ho1.up hXw19
    have hn2 := hn2.up hXw19
    have ho7 := ho7.up hXw19
    have ho9 := ho9.up hXw19
    have hn10 := hn10.up hXw19
    have ho11 := ho11.up hXw19
    have hn12 := hn12.up hXw19
    have ho14 := ho14.up hXw19
    have hn15 := hn15.up hXw19
    have ho18 := ho18.up hXw19
    have ho19 := ho19.up hXw19
    have ho20 := ho20.up hXw19
    obtain ⟨hqp4_0, hqp4_1, hqp4_2, hqp4_3⟩ := hqFp4 _ hn15
    obtain ⟨hqp5_0, hqp5_1, hqp5_2, hqp5_3⟩ := hqFp5 _ hn15
    obtain ⟨hqp6_0, hqp6_1, hqp6_2, hqp6_3⟩ := hqFp6 _ hn15
    obtain ⟨hqp7_0, hqp7_1, hqp7_2, hqp7_3⟩ := hqFp7 _ hn15
    obtain ⟨hqp8_0, hqp8_1, hqp8_2, hqp8_3⟩ := hqFp8 _ hn15
    obtain ⟨hqp9_0, hqp9_1, hqp9_2, hqp9_3⟩ := hqFp9 _ hn15
    refine WL.pureG rfl rfl rfl rfl rfl (PV.not rfl) ?_
    refine WL.pureG rfl rfl rfl rfl rfl (PV.pickT rfl rfl) ?_
    refine WL.pure rfl rfl rfl (PV.pickF rfl rfl) ?_
    refine WL.pure rfl rfl rfl (PV.move rfl) ?_
    refine WL.pureG rfl rfl rfl rfl rfl (PV.move rfl) ?_
    refine WL.pure rfl rfl rfl (PV.pickF rfl rfl) ?_
    refine WL.pure rfl rfl rfl (PV.move rfl) ?_
    refine WL.pureG rfl rfl rfl rfl rfl (PV.move rfl) ?_
    refine WL.pureG rfl rfl rfl rfl rfl ((PV.lenOs rfl ho20 T.sl28)) ?_
    refine WL.pureG rfl rfl rfl rfl rfl (PV.neq rfl rfl) ?_
    refine WL.pure rfl rfl rfl (PV.pickF rfl rfl) ?_
    refine WL.nil ?_
    exact NQ.cut (ρ := [(164, _)]) ⟨rfl, rfl, rfl, rfl, trivial⟩ ⟨(), (by first | rfl | exact congrArg (fun b => [(164, Value.bool b)]) (by first | (simp; done) | (simp; omega))), hBc, trivial⟩
  rintro _ wc1 ⟨_, rfl, hXc, _⟩
  have hB := hB.trans hXc
  have ho1 := ho1.up hXc
  have hn2 := hn2.up hXc
  have ho7 := ho7.up hXc
  have ho9 := ho9.up hXc
  have hn10 := hn10.up hXc
  have ho11 := ho11.up hXc
  have hn12 := hn12.up hXc
  have ho14 := ho14.up hXc
  have hn15 := hn15.up hXc
  have ho18 := ho18.up hXc
  have ho19 := ho19.up hXc
  have ho20 := ho20.up hXc
  refine CW.condF rfl ?_
  refine CW.skipS ?_
  refine CW.seq ?_
  refine CW.reg ?_
  obtain ⟨hqp4_0, hqp4_1, hqp4_2, hqp4_3⟩ := hqFp4 _ hn15
  obtain ⟨hqp5_0, hqp5_1, hqp5_2, hqp5_3⟩ := hqFp5 _ hn15
  obtain ⟨hqp6_0, hqp6_1, hqp6_2, hqp6_3⟩ := hqFp6 _ hn15
  obtain ⟨hqp7_0, hqp7_1, hqp7_2, hqp7_3⟩ := hqFp7 _ hn15
  obtain ⟨hqp8_0, hqp8_1, hqp8_2, hqp8_3⟩ := hqFp8 _ hn15
  obtain ⟨hqp9_0, hqp9_1, hqp9_2, hqp9_3⟩ := hqFp9 _ hn15
  refine WL.pure rfl rfl rfl (PV.move rfl) ?_
  refine WL.pure rfl rfl rfl (PV.move rfl) ?_
  refine WL.op rfl (OpK.callR rfl T.cf63 rfl (c_laws_b10At (by first | assumption | exact Rd.up (by assumption) hB | exact Osl.rd (by assumption) | exact Osn.rdR (by assumption) | exact NL.rd (by assumption) | exact rdII (by assumption) (by assumption) | exact Inn.rd (by assumption) (by omega)) (by first | assumption | omega | (simp only [marks_len, marksB_len, marksR_len, sumL_marksS, List.length_take]; omega)) (by first | assumption | omega | (simp only [marks_len, marksB_len, marksR_len, sumL_marksS, List.length_take]; omega))) (fun w20 hXw20 => ?_))
  have hB := hB.trans hXw20
  have ho1 := ho1.up hXw20
  have hn2 := hn2.up hXw20
  have ho7 := ho7.up hXw20
  have ho9 := ho9.up hXw20
  have hn10 := hn10.up hXw20
  have ho11 := ho11.up hXw20
  have hn12 := hn12.up hXw20
  have ho14 := ho14.up hXw20
  have hn15 := hn15.up hXw20
  have ho18 := ho18.up hXw20
  have ho19 := ho19.up hXw20
  have ho20 := ho20.up hXw20
  obtain ⟨hqp4_0, hqp4_1, hqp4_2, hqp4_3⟩ := hqFp4 _ hn15
  obtain ⟨hqp5_0, hqp5_1, hqp5_2, hqp5_3⟩ := hqFp5 _ hn15
  obtain ⟨hqp6_0, hqp6_1, hqp6_2, hqp6_3⟩ := hqFp6 _ hn15
  obtain ⟨hqp7_0, hqp7_1, hqp7_2, hqp7_3⟩ := hqFp7 _ hn15
  obtain ⟨hqp8_0, hqp8_1, hqp8_2, hqp8_3⟩ := hqFp8 _ hn15
  obtain ⟨hqp9_0, hqp9_1, hqp9_2, hqp9_3⟩ := hqFp9 _ hn15
  refine WL.pure rfl rfl rfl (PV.add rfl rfl (by constructor <;> omega)) ?_
  refine WL.op rfl (OpK.call rfl T.cf76 rfl (c_spec_B10Changes (by first | assumption | exact Rd.up (by assumption) hB | exact Osl.rd (by assumption) | exact Osn.rdR (by assumption) | exact NL.rd (by assumption) | exact rdII (by assumption) (by assumption) | exact Inn.rd (by assumption) (by omega)) (by first | assumption | omega | (simp only [marks_len, marksB_len, marksR_len, sumL_marksS, List.length_take]; omega)) (by first | assumption | omega | (simp only [marks_len, marksB_len, marksR_len, sumL_marksS, List.length_take]; omega)) (by first | assumption | omega | (simp only [marks_len, marksB_len, marksR_len, sumL_marksS, List.length_take]; omega))) (fun rv10 w21 hR => ?_))
  obtain ⟨hXw21, cs23, v21, og21, vs22, os22, rfl, hm24, ho21, hq21, hn22, hq22, hd21_22⟩ := hR
  have hl21 := Lo.up hq21 hB
  have hd1_21 := Dj.lo ho1.ltO hq21
  have hd2_21 := DI.fresh hn2 hq21
  have hd7_21 := Dj.lo ho7.ltO hq21
  have hd9_21 := Dj.lo ho9.ltO hq21
  have hd10_21 := DI.fresh hn10 hq21
  have hd11_21 := Dj.lo ho11.ltO hq21
  have hd12_21 := DI.fresh hn12 hq21
  have hd14_21 := Dj.lo ho14.ltO hq21
  have hd15_21 := DI.fresh hn15 hq21
  have hd18_21 := Dj.lo ho18.ltO hq21
  have hd19_21 := Dj.lo ho19.ltO hq21
  have hd20_21 := Dj.lo ho20.ltO hq21
  have hl22 := LoI.up hq22 hB
  have hlv22 := hn22.lv
  have hd1_22 := DI.lo ho1.ltO hq22
  have hdd2_22 := DD.symm (DD.lo hn2 hq22)
  have hd7_22 := DI.lo ho7.ltO hq22
  have hd9_22 := DI.lo ho9.ltO hq22
  have hdd10_22 := DD.symm (DD.lo hn10 hq22)
  have hd11_22 := DI.lo ho11.ltO hq22
  have hdd12_22 := DD.symm (DD.lo hn12 hq22)
  have hd14_22 := DI.lo ho14.ltO hq22
  have hdd15_22 := DD.symm (DD.lo hn15 hq22)
  have hd18_22 := DI.lo ho18.ltO hq22
  have hd19_22 := DI.lo ho19.ltO hq22
  have hd20_22 := DI.lo ho20.ltO hq22
  have hB := hB.trans hXw21
  have ho1 := ho1.up hXw21
  have hn2 := hn2.up hXw21
  have ho7 := ho7.up hXw21
  have ho9 := ho9.up hXw21
  have hn10 := hn10.up hXw21
  have ho11 := ho11.up hXw21
  have hn12 := hn12.up hXw21
  have ho14 := ho14.up hXw21
  have hn15 := hn15.up hXw21
  have ho18 := ho18.up hXw21
  have ho19 := ho19.up hXw21
  have ho20 := ho20.up hXw21
  obtain ⟨hqp4_0, hqp4_1, hqp4_2, hqp4_3⟩ := hqFp4 _ hn15
  obtain ⟨hqp5_0, hqp5_1, hqp5_2, hqp5_3⟩ := hqFp5 _ hn15
  obtain ⟨hqp6_0, hqp6_1, hqp6_2, hqp6_3⟩ := hqFp6 _ hn15
  obtain ⟨hqp7_0, hqp7_1, hqp7_2, hqp7_3⟩ := hqFp7 _ hn15
  obtain ⟨hqp8_0, hqp8_1, hqp8_2, hqp8_3⟩ := hqFp8 _ hn15
  obtain ⟨hqp9_0, hqp9_1, hqp9_2, hqp9_3⟩ := hqFp9 _ hn15
  refine WL.pure rfl rfl rfl (PV.assign rfl) ?_
  refine WL.nilS ?_
  refine CW.seq ?_
  refine CW.reg ?_
  have hLB2 := fs_list (cs := cs23) hL12 (by omega) (fun x hx => (hm24.2 x hx).1); have hPL := fs_pln hLB2 (fun x hx => (hm24.2 x hx).2 rfl); have hcn : vs22.length = cs23.length := (by have := hlv22; rw [flatH_len, flatC_len] at this; omega)
  refine WL.pure rfl rfl rfl (PV.move rfl) ?_
  refine WL.op rfl (OpK.call rfl T.cf88 rfl (c_impl_OverlapsOf_y (by first | assumption | exact Rd.up (by assumption) hB | exact rdCh (by assumption) (by assumption)) (by first | assumption | omega | (simp only [marks_len, marksB_len, marksR_len, sumL_marksS, List.length_take]; omega))) (fun rv11 w22 hR => ?_))
  obtain ⟨hXw22, v25, og25, vs26, os26, rfl, ho25, hq25, hn26, hq26, hd25_26⟩ := hR
  have hl25 := Lo.up hq25 hB
  have hd1_25 := Dj.lo ho1.ltO hq25
  have hd2_25 := DI.fresh hn2 hq25
  have hd7_25 := Dj.lo ho7.ltO hq25
  have hd9_25 := Dj.lo ho9.ltO hq25
  have hd10_25 := DI.fresh hn10 hq25
  have hd11_25 := Dj.lo ho11.ltO hq25
  have hd12_25 := DI.fresh hn12 hq25
  have hd14_25 := Dj.lo ho14.ltO hq25
  have hd15_25 := DI.fresh hn15 hq25
  have hd18_25 := Dj.lo ho18.ltO hq25
  have hd19_25 := Dj.lo ho19.ltO hq25
  have hd20_25 := Dj.lo ho20.ltO hq25
  have hd21_25 := Dj.lo ho21.ltO hq25
  have hd22_25 := DI.fresh hn22 hq25
  have hl26 := LoI.up hq26 hB
  have hlv26 := hn26.lv
  have hd1_26 := DI.lo ho1.ltO hq26
  have hdd2_26 := DD.symm (DD.lo hn2 hq26)
  have hd7_26 := DI.lo ho7.ltO hq26
  have hd9_26 := DI.lo ho9.ltO hq26
  have hdd10_26 := DD.symm (DD.lo hn10 hq26)
  have hd11_26 := DI.lo ho11.ltO hq26
  have hdd12_26 := DD.symm (DD.lo hn12 hq26)
  have hd14_26 := DI.lo ho14.ltO hq26
  have hdd15_26 := DD.symm (DD.lo hn15 hq26)
  have hd18_26 := DI.lo ho18.ltO hq26
  have hd19_26 := DI.lo ho19.ltO hq26
  have hd20_26 := DI.lo ho20.ltO hq26
  have hd21_26 := DI.lo ho21.ltO hq26
  have hdd22_26 := DD.symm (DD.lo hn22 hq26)
  have hB := hB.trans hXw22
  have ho1 := ho1.up hXw22
  have hn2 := hn2.up hXw22
  have ho7 := ho7.up hXw22
  have ho9 := ho9.up hXw22
  have hn10 := hn10.up hXw22
  have ho11 := ho11.up hXw22
  have hn12 := hn12.up hXw22
  have ho14 := ho14.up hXw22
  have hn15 := hn15.up hXw22
  have ho18 := ho18.up hXw22
  have ho19 := ho19.up hXw22
  have ho20 := ho20.up hXw22
  have ho21 := ho21.up hXw22
  have hn22 := hn22.up hXw22
  obtain ⟨hqp4_0, hqp4_1, hqp4_2, hqp4_3⟩ := hqFp4 _ hn15
  obtain ⟨hqp5_0, hqp5_1, hqp5_2, hqp5_3⟩ := hqFp5 _ hn15
  obtain ⟨hqp6_0, hqp6_1, hqp6_2, hqp6_3⟩ := hqFp6 _ hn15
  obtain ⟨hqp7_0, hqp7_1, hqp7_2, hqp7_3⟩ := hqFp7 _ hn15
  obtain ⟨hqp8_0, hqp8_1, hqp8_2, hqp8_3⟩ := hqFp8 _ hn15
  obtain ⟨hqp9_0, hqp9_1, hqp9_2, hqp9_3⟩ := hqFp9 _ hn15
  refine WL.pure rfl rfl rfl (PV.move rfl) ?_
  refine WL.pure rfl rfl rfl (PV.extract rfl rfl) ?_
  refine WL.pure rfl rfl rfl (PV.extract rfl rfl) ?_
  refine WL.pure rfl rfl rfl (PV.assign rfl) ?_
  refine WL.pure rfl rfl rfl (PV.assign rfl) ?_
  refine WL.nilS ?_
  refine CW.seq ?_
  refine CW.reg ?_
  refine WL.pure rfl rfl rfl (PV.move rfl) ?_
  refine WL.op rfl (OpK.call rfl T.cf89 rfl (c_spec_OverlapsOf_y (by first | assumption | exact Rd.up (by assumption) hB | exact rdCh (by assumption) (by assumption)) (by first | assumption | omega | (simp only [marks_len, marksB_len, marksR_len, sumL_marksS, List.length_take]; omega))) (fun rv12 w23 hR => ?_))
  obtain ⟨hXw23, v27, og27, vs28, os28, rfl, ho27, hq27, hn28, hq28, hd27_28⟩ := hR
  have hl27 := Lo.up hq27 hB
  have hd1_27 := Dj.lo ho1.ltO hq27
  have hd2_27 := DI.fresh hn2 hq27
  have hd7_27 := Dj.lo ho7.ltO hq27
  have hd9_27 := Dj.lo ho9.ltO hq27
  have hd10_27 := DI.fresh hn10 hq27
  have hd11_27 := Dj.lo ho11.ltO hq27
  have hd12_27 := DI.fresh hn12 hq27
  have hd14_27 := Dj.lo ho14.ltO hq27
  have hd15_27 := DI.fresh hn15 hq27
  have hd18_27 := Dj.lo ho18.ltO hq27
  have hd19_27 := Dj.lo ho19.ltO hq27
  have hd20_27 := Dj.lo ho20.ltO hq27
  have hd21_27 := Dj.lo ho21.ltO hq27
  have hd22_27 := DI.fresh hn22 hq27
  have hd25_27 := Dj.lo ho25.ltO hq27
  have hd26_27 := DI.fresh hn26 hq27
  have hl28 := LoI.up hq28 hB
  have hlv28 := hn28.lv
  have hd1_28 := DI.lo ho1.ltO hq28
  have hdd2_28 := DD.symm (DD.lo hn2 hq28)
  have hd7_28 := DI.lo ho7.ltO hq28
  have hd9_28 := DI.lo ho9.ltO hq28
  have hdd10_28 := DD.symm (DD.lo hn10 hq28)
  have hd11_28 := DI.lo ho11.ltO hq28
  have hdd12_28 := DD.symm (DD.lo hn12 hq28)
  have hd14_28 := DI.lo ho14.ltO hq28
  have hdd15_28 := DD.symm (DD.lo hn15 hq28)
  have hd18_28 := DI.lo ho18.ltO hq28
  have hd19_28 := DI.lo ho19.ltO hq28
  have hd20_28 := DI.lo ho20.ltO hq28
  have hd21_28 := DI.lo ho21.ltO hq28
  have hdd22_28 := DD.symm (DD.lo hn22 hq28)
  have hd25_28 := DI.lo ho25.ltO hq28
  have hdd26_28 := DD.symm (DD.lo hn26 hq28)
  have hB := hB.trans hXw23
  have ho1 := ho1.up hXw23
  have hn2 := hn2.up hXw23
  have ho7 := ho7.up hXw23
  have ho9 := ho9.up hXw23
  have hn10 := hn10.up hXw23
  have ho11 := ho11.up hXw23
  have hn12 := hn12.up hXw23
  have ho14 := ho14.up hXw23
  have hn15 := hn15.up hXw23
  have ho18 := ho18.up hXw23
  have ho19 := ho19.up hXw23
  have ho20 := ho20.up hXw23
  have ho21 := ho21.up hXw23
  have hn22 := hn22.up hXw23
  have ho25 := ho25.up hXw23
  have hn26 := hn26.up hXw23
  obtain ⟨hqp4_0, hqp4_1, hqp4_2, hqp4_3⟩ := hqFp4 _ hn15
  obtain ⟨hqp5_0, hqp5_1, hqp5_2, hqp5_3⟩ := hqFp5 _ hn15
  obtain ⟨hqp6_0, hqp6_1, hqp6_2, hqp6_3⟩ := hqFp6 _ hn15
  obtain ⟨hqp7_0, hqp7_1, hqp7_2, hqp7_3⟩ := hqFp7 _ hn15
  obtain ⟨hqp8_0, hqp8_1, hqp8_2, hqp8_3⟩ := hqFp8 _ hn15
  obtain ⟨hqp9_0, hqp9_1, hqp9_2, hqp9_3⟩ := hqFp9 _ hn15
  refine WL.pure rfl rfl rfl (PV.move rfl) ?_
  refine WL.pure rfl rfl rfl (PV.extract rfl rfl) ?_
  refine WL.pure rfl rfl rfl (PV.extract rfl rfl) ?_
  refine WL.pure rfl rfl rfl (PV.assign rfl) ?_
  refine WL.pure rfl rfl rfl (PV.assign rfl) ?_
  refine WL.nilS ?_
  refine CW.seq ?_
  refine CW.seq ?_
  refine CW.reg ?_
  have hb26 : vs26.length ≤ 300 := (by rw [hlv26]; exact ovR_len.1)
  refine WL.pure rfl rfl rfl (PV.move rfl) ?_
  refine WL.pure rfl rfl rfl (PV.not rfl) ?_
  refine WL.pure rfl rfl rfl (PV.move rfl) ?_
  refine WL.pureG rfl rfl rfl rfl rfl (PV.move rfl) ?_
  refine WL.pureG rfl rfl rfl rfl rfl (PV.not rfl) ?_
  refine WL.pure rfl rfl rfl (PV.pickF rfl rfl) ?_
  refine WL.pure rfl rfl rfl (PV.move rfl) ?_
  refine WL.pureG rfl rfl rfl rfl rfl (PV.move rfl) ?_
  refine WL.pureG rfl rfl rfl rfl rfl ((PV.lenOs rfl ho25 T.sl25)) ?_
  refine WL.pureG rfl rfl rfl rfl rfl (PV.move rfl) ?_
  refine WL.pureG rfl rfl rfl rfl rfl ((PV.lenOs rfl ho27 T.sl25)) ?_
  refine WL.pureG rfl rfl rfl rfl rfl (PV.neq rfl rfl) ?_
  refine WL.pure rfl rfl rfl (PV.pickF rfl rfl) ?_
  refine WL.nilS ?_
  refine CW.cond rfl (fun hc7 => ?_) (fun hc7 => ?_)
  · skip
    try simp only [decide_eq_true_eq, decide_eq_false_iff_not, Bool.not_eq_true', Bool.not_eq_false', Bool.not_eq_eq_eq_not, Bool.not_true, Bool.not_false, Int.not_lt, Int.not_le, Classical.not_not, beq_iff_eq, beq_eq_false_iff_ne] at hc7
    exact absurd (by rw [hlv26, hlv28]) hc7
  try simp only [decide_eq_true_eq, decide_eq_false_iff_not, Bool.not_eq_true', Bool.not_eq_false', Bool.not_eq_eq_eq_not, Bool.not_true, Bool.not_false, Int.not_lt, Int.not_le, Classical.not_not, beq_iff_eq, beq_eq_false_iff_ne] at hc7
  refine CW.skipS ?_
  refine CW.seq ?_
  refine CW.seq ?_
  refine CW.reg ?_
  refine WL.pure rfl rfl rfl (PV.move rfl) ?_
  refine WL.pure rfl rfl rfl ((PV.lenOs rfl ho25 T.sl25)) ?_
  refine WL.pure rfl rfl rfl (PV.move rfl) ?_
  refine WL.nilS ?_
  refine CW.block ?_
  refine CW.loop (σk := [(6, _), (21, _), (22, _), (24, _), (194, _)]) (fun ρ wz m => ∃ (k : Nat), ρ = [(195, .int .i64 (k : Nat))] ∧ m = vs26.length - k ∧ UpdL [] w23 wz ∧ (k ≤ vs26.length)) (ρ₀ := [(195, _)]) (m₀ := _) ⟨rfl, rfl, rfl, rfl, rfl, rfl, trivial⟩ ⟨0, rfl, rfl, (UpdL.refl _ _), (by first | omega | rfl | (simp; done) | assumption | (simp_all; done))⟩ ?_
  rintro _ wl2 _ ⟨k, rfl, rfl, hU1, hk⟩
  have ho1 := ho1.loop hU1 trivial
  have hn2 := hn2.loop hU1 trivial
  have ho7 := ho7.loop hU1 trivial
  have ho9 := ho9.loop hU1 trivial
  have hn10 := hn10.loop hU1 trivial
  have ho11 := ho11.loop hU1 trivial
  have hn12 := hn12.loop hU1 trivial
  have ho14 := ho14.loop hU1 trivial
  have hn15 := hn15.loop hU1 trivial
  have ho18 := ho18.loop hU1 trivial
  have ho19 := ho19.loop hU1 trivial
  have ho20 := ho20.loop hU1 trivial
  have ho21 := ho21.loop hU1 trivial
  have hn22 := hn22.loop hU1 trivial
  have ho25 := ho25.loop hU1 trivial
  have hn26 := hn26.loop hU1 trivial
  have ho27 := ho27.loop hU1 trivial
  have hn28 := hn28.loop hU1 trivial
  have hB := hB.loop hU1 trivial
  refine CW.seq ?_
  refine CW.reg ?_
  obtain ⟨hqp4_0, hqp4_1, hqp4_2, hqp4_3⟩ := hqFp4 _ hn15
  obtain ⟨hqp5_0, hqp5_1, hqp5_2, hqp5_3⟩ := hqFp5 _ hn15
  obtain ⟨hqp6_0, hqp6_1, hqp6_2, hqp6_3⟩ := hqFp6 _ hn15
  obtain ⟨hqp7_0, hqp7_1, hqp7_2, hqp7_3⟩ := hqFp7 _ hn15
  obtain ⟨hqp8_0, hqp8_1, hqp8_2, hqp8_3⟩ := hqFp8 _ hn15
  obtain ⟨hqp9_0, hqp9_1, hqp9_2, hqp9_3⟩ := hqFp9 _ hn15
  refine WL.pure rfl rfl rfl (PV.lss rfl rfl) ?_
  refine WL.nilS ?_
  refine CW.seq ?_
  refine CW.cond rfl (fun hc8 => ?_) (fun hc8 => ?_)
  · skip
    try simp only [decide_eq_true_eq, decide_eq_false_iff_not, Bool.not_eq_true', Bool.not_eq_false', Bool.not_eq_eq_eq_not, Bool.not_true, Bool.not_false, Int.not_lt, Int.not_le, Classical.not_not, beq_iff_eq, beq_eq_false_iff_ne] at hc8
    refine CW.skipS ?_
    refine CW.seq ?_
    refine CW.block ?_
    refine CW.seq ?_
    refine CW.reg ?_
    refine WL.pure rfl rfl rfl (PV.move rfl) ?_
    refine WL.pure rfl rfl rfl (PV.assign rfl) ?_
    refine WL.nilS ?_
    refine CW.seq ?_
    refine CW.draw T.mixed (by kernel_rfl) (fun _ _ _ _ _ h => h) (fun w8 w9 => Upd none w8 w9) 10 (.take 0 (.take 1 (.take 2 (.take 3 (.take 4 (.take 5 (.take 6 (.take 7 (.must 8 (.take 9 .done)))))))))) (by kernel_rfl) (fun w24 hXd => ?_)
    have hB := hB.trans hXd
    have ho1 := ho1.up hXd
    have hn2 := hn2.up hXd
    have ho7 := ho7.up hXd
    have ho9 := ho9.up hXd
    have hn10 := hn10.up hXd
    have ho11 := ho11.up hXd
    have hn12 := hn12.up hXd
    have ho14 := ho14.up hXd
    have hn15 := hn15.up hXd
    have ho18 := ho18.up hXd
    have ho19 := ho19.up hXd
    have ho20 := ho20.up hXd
    have ho21 := ho21.up hXd
    have hn22 := hn22.up hXd
    have ho25 := ho25.up hXd
    have hn26 := hn26.up hXd
    have ho27 := ho27.up hXd
    have hn28 := hn28.up hXd
    have hU1 := hU1.ext hXd
    have hBr := hB
    have hS : Upd none w24 w24 := Ext.toUpd (Ext.refl _)
    obtain ⟨hqp4_0, hqp4_1, hqp4_2, hqp4_3⟩ := hqFp4 _ hn15
    obtain ⟨hqp5_0, hqp5_1, hqp5_2, hqp5_3⟩ := hqFp5 _ hn15
    obtain ⟨hqp6_0, hqp6_1, hqp6_2, hqp6_3⟩ := hqFp6 _ hn15
    obtain ⟨hqp7_0, hqp7_1, hqp7_2, hqp7_3⟩ := hqFp7 _ hn15
    obtain ⟨hqp8_0, hqp8_1, hqp8_2, hqp8_3⟩ := hqFp8 _ hn15
    obtain ⟨hqp9_0, hqp9_1, hqp9_2, hqp9_3⟩ := hqFp9 _ hn15
    refine HP.take rfl rfl rfl rfl hS (fun wS hS1 => PV.move rfl) ?_
    refine HP.take rfl rfl rfl rfl hS (fun wS hS1 => PV.move rfl) ?_
    first
      | refine HP.atO (wb := w24) (x := .tmp 198) (y := .tmp 199) (f := VV) (.slice none 0 0) rfl rfl (by assumption) (by first | omega | (simp only [List.length_set]; omega) | (simp only [List.length_append, List.length_take, List.length_replicate, List.length_drop]; omega)) (fun p10 hpp10 hcp10 => ?_)
      | refine HP.atOZ (wb := w24) (x := .tmp 198) (y := .tmp 199) (f := VV) (.slice none 0 0) rfl rfl (by assumption) (by first | omega | (simp only [List.length_set]; omega) | (simp only [List.length_append, List.length_take, List.length_replicate, List.length_drop]; omega)) (fun p10 hpp10 hzp10 hcp10 => ?_)
    refine HP.take rfl rfl rfl rfl hS (fun wS hS1 => (by first | exact PV.indexAddr hpp10 rfl rfl T.sl25 | exact PV.indexAddr hpp10 rfl (by rw [← hzp10]; rfl) T.sl25)) ?_
    refine HP.take rfl rfl rfl rfl hS (fun wS hS1 => (by first | exact PV.load0 T.na28 rfl (by first | exact Cells.up (by assumption) (hBr.trans hS1) | exact Bx.cells (Bx.updD (by assumption) hS1 (Dj.nlR _)) | exact Cells.upd (by assumption) hS1 (by simp)) (Ext.refl _) rfl | exact PV.load1 T.na28 rfl (by first | exact Cells.up (by assumption) (hBr.trans hS1) | exact Bx.cells (Bx.updD (by assumption) hS1 (Dj.nlR _)) | exact Cells.upd (by assumption) hS1 (by simp)) (Ext.refl _) rfl)) ?_
    refine HP.take rfl rfl rfl rfl hS (fun wS hS1 => PV.move rfl) ?_
    refine HP.take rfl rfl rfl rfl hS (fun wS hS1 => PV.move rfl) ?_
    first
      | refine HP.atO (wb := w24) (x := .tmp 202) (y := .tmp 203) (f := VV) (.slice none 0 0) rfl rfl (by assumption) (by first | omega | (simp only [List.length_set]; omega) | (simp only [List.length_append, List.length_take, List.length_replicate, List.length_drop]; omega)) (fun p11 hpp11 hcp11 => ?_)
      | refine HP.atOZ (wb := w24) (x := .tmp 202) (y := .tmp 203) (f := VV) (.slice none 0 0) rfl rfl (by assumption) (by first | omega | (simp only [List.length_set]; omega) | (simp only [List.length_append, List.length_take, List.length_replicate, List.length_drop]; omega)) (fun p11 hpp11 hzp11 hcp11 => ?_)
    refine HP.take rfl rfl rfl rfl hS (fun wS hS1 => (by first | exact PV.indexAddr hpp11 rfl rfl T.sl25 | exact PV.indexAddr hpp11 rfl (by rw [← hzp11]; rfl) T.sl25)) ?_
    refine HP.take rfl rfl rfl rfl hS (fun wS hS1 => (by first | exact PV.load0 T.na28 rfl (by first | exact Cells.up (by assumption) (hBr.trans hS1) | exact Bx.cells (Bx.updD (by assumption) hS1 (Dj.nlR _)) | exact Cells.upd (by assumption) hS1 (by simp)) (Ext.refl _) rfl | exact PV.load1 T.na28 rfl (by first | exact Cells.up (by assumption) (hBr.trans hS1) | exact Bx.cells (Bx.updD (by assumption) hS1 (Dj.nlR _)) | exact Cells.upd (by assumption) hS1 (by simp)) (Ext.refl _) rfl)) ?_
    refine HP.must rfl rfl (OpK.callR rfl T.cf75 rfl (c_laws_b10Ints_y (by first | assumption | exact Rd.up (by assumption) hB | exact Osl.rd (by assumption) | exact Osn.rdR (by assumption) | exact NL.rd (by assumption) | exact rdII (by assumption) (by assumption) | exact Inn.rd (by assumption) (by omega)) (by first | assumption | exact Rd.up (by assumption) hB | exact Osl.rd (by assumption) | exact Osn.rdR (by assumption) | exact NL.rd (by assumption) | exact rdII (by assumption) (by assumption) | exact Inn.rd (by assumption) (by omega)) (by first | rfl | assumption)) (fun w25 hXw25 => ?_))
    refine ⟨Upd.trans hS hXw25, ?_⟩
    have hS := Upd.trans hS hXw25
    have hB := hB.trans hXw25
    have ho1 := ho1.up hXw25
    have hn2 := hn2.up hXw25
    have ho7 := ho7.up hXw25
    have ho9 := ho9.up hXw25
    have hn10 := hn10.up hXw25
    have ho11 := ho11.up hXw25
    have hn12 := hn12.up hXw25
    have ho14 := ho14.up hXw25
    have hn15 := hn15.up hXw25
    have ho18 := ho18.up hXw25
    have ho19 := ho19.up hXw25
    have ho20 := ho20.up hXw25
    have ho21 := ho21.up hXw25
    have hn22 := hn22.up hXw25
    have ho25 := ho25.up hXw25
    have hn26 := hn26.up hXw25
    have ho27 := ho27.up hXw25
    have hn28 := hn28.up hXw25
    have hU1 := hU1.ext hXw25
    obtain ⟨hqp4_0, hqp4_1, hqp4_2, hqp4_3⟩ := hqFp4 _ hn15
    obtain ⟨hqp5_0, hqp5_1, hqp5_2, hqp5_3⟩ := hqFp5 _ hn15
    obtain ⟨hqp6_0, hqp6_1, hqp6_2, hqp6_3⟩ := hqFp6 _ hn15
    obtain ⟨hqp7_0, hqp7_1, hqp7_2, hqp7_3⟩ := hqFp7 _ hn15
    obtain ⟨hqp8_0, hqp8_1, hqp8_2, hqp8_3⟩ := hqFp8 _ hn15
    obtain ⟨hqp9_0, hqp9_1, hqp9_2, hqp9_3⟩ := hqFp9 _ hn15
    refine HP.take rfl rfl rfl rfl hS (fun wS hS1 => PV.not rfl) ?_
    refine HP.doneS ?_
    refine CW.condF rfl ?_
    refine CW.skip ?_
    refine NQ.block ?_
    refine NQ.then ?_
    refine CW.reg ?_
    refine WL.pure rfl rfl rfl (PV.add rfl rfl (by constructor <;> omega)) ?_
    refine WL.pure rfl rfl rfl (PV.move rfl) ?_
    refine WL.nil ?_
    refine NQ.next (ρ := [(195, _)]) ⟨rfl, rfl, rfl, rfl, rfl, rfl, trivial⟩ ?_
    exact ⟨_, ⟨k + 1, rfl, rfl, hU1, (by first | omega | assumption | (simp_all; done) | (simp_all; omega))⟩, by omega⟩
  try simp only [decide_eq_true_eq, decide_eq_false_iff_not, Bool.not_eq_true', Bool.not_eq_false', Bool.not_eq_eq_eq_not, Bool.not_true, Bool.not_false, Int.not_lt, Int.not_le, Classical.not_not, beq_iff_eq, beq_eq_false_iff_ne] at hc8
  refine CW.exit ?_
  refine XQ.then ?_
  refine XQ.then ?_
  refine XQ.here ?_
  refine NQ.then ?_
  refine CW.seq ?_
  refine CW.reg ?_
  refine WL.pure rfl rfl rfl (PV.move rfl) ?_
  refine WL.pure rfl rfl rfl (PV.move rfl) ?_
  refine WL.op rfl (OpK.call rfl T.cf90 rfl (c_impl_NormalOf (by first | assumption | exact Rd.up (by assumption) hB | exact rdCh (by assumption) (by assumption)) (by first | assumption | exact Rd.up (by assumption) hB | exact Osl.rd (by assumption) | exact Osn.rdR (by assumption) | exact NL.rd (by assumption) | exact rdII (by assumption) (by assumption) | exact Inn.rd (by assumption) (by omega))) (fun rv13 w26 hR => ?_))
  obtain ⟨hXw26, v29, og29, rfl, ho29, hq29⟩ := hR
  have hl29 := Lo.up hq29 hB
  have hd1_29 := Dj.lo ho1.ltO hq29
  have hd2_29 := DI.fresh hn2 hq29
  have hd7_29 := Dj.lo ho7.ltO hq29
  have hd9_29 := Dj.lo ho9.ltO hq29
  have hd10_29 := DI.fresh hn10 hq29
  have hd11_29 := Dj.lo ho11.ltO hq29
  have hd12_29 := DI.fresh hn12 hq29
  have hd14_29 := Dj.lo ho14.ltO hq29
  have hd15_29 := DI.fresh hn15 hq29
  have hd18_29 := Dj.lo ho18.ltO hq29
  have hd19_29 := Dj.lo ho19.ltO hq29
  have hd20_29 := Dj.lo ho20.ltO hq29
  have hd21_29 := Dj.lo ho21.ltO hq29
  have hd22_29 := DI.fresh hn22 hq29
  have hd25_29 := Dj.lo ho25.ltO hq29
  have hd26_29 := DI.fresh hn26 hq29
  have hd27_29 := Dj.lo ho27.ltO hq29
  have hd28_29 := DI.fresh hn28 hq29
  have hB := hB.trans hXw26
  have ho1 := ho1.up hXw26
  have hn2 := hn2.up hXw26
  have ho7 := ho7.up hXw26
  have ho9 := ho9.up hXw26
  have hn10 := hn10.up hXw26
  have ho11 := ho11.up hXw26
  have hn12 := hn12.up hXw26
  have ho14 := ho14.up hXw26
  have hn15 := hn15.up hXw26
  have ho18 := ho18.up hXw26
  have ho19 := ho19.up hXw26
  have ho20 := ho20.up hXw26
  have ho21 := ho21.up hXw26
  have hn22 := hn22.up hXw26
  have ho25 := ho25.up hXw26
  have hn26 := hn26.up hXw26
  have ho27 := ho27.up hXw26
  have hn28 := hn28.up hXw26
  obtain ⟨hqp4_0, hqp4_1, hqp4_2, hqp4_3⟩ := hqFp4 _ hn15
  obtain ⟨hqp5_0, hqp5_1, hqp5_2, hqp5_3⟩ := hqFp5 _ hn15
  obtain ⟨hqp6_0, hqp6_1, hqp6_2, hqp6_3⟩ := hqFp6 _ hn15
  obtain ⟨hqp7_0, hqp7_1, hqp7_2, hqp7_3⟩ := hqFp7 _ hn15
  obtain ⟨hqp8_0, hqp8_1, hqp8_2, hqp8_3⟩ := hqFp8 _ hn15
  obtain ⟨hqp9_0, hqp9_1, hqp9_2, hqp9_3⟩ := hqFp9 _ hn15
  refine WL.pure rfl rfl rfl (PV.move rfl) ?_
  refine WL.pure rfl rfl rfl (PV.extract rfl rfl) ?_
  refine WL.pure rfl rfl rfl (PV.extract rfl rfl) ?_
  refine WL.pure rfl rfl rfl (PV.extract rfl rfl) ?_
  refine WL.pure rfl rfl rfl (PV.assign rfl) ?_
  refine WL.pure rfl rfl rfl (PV.assign rfl) ?_
  refine WL.pure rfl rfl rfl (PV.assign rfl) ?_
  refine WL.nilS ?_
  refine CW.seq ?_
  refine CW.reg ?_
  refine WL.pure rfl rfl rfl (PV.move rfl) ?_
  refine WL.pure rfl rfl rfl (PV.move rfl) ?_
  refine WL.op rfl (OpK.call rfl T.cf91 rfl (c_spec_NormalOf (by first | assumption | exact Rd.up (by assumption) hB | exact rdCh (by assumption) (by assumption)) (by first | assumption | exact Rd.up (by assumption) hB | exact Osl.rd (by assumption) | exact Osn.rdR (by assumption) | exact NL.rd (by assumption) | exact rdII (by assumption) (by assumption) | exact Inn.rd (by assumption) (by omega))) (fun rv14 w27 hR => ?_))
  obtain ⟨hXw27, v30, og30, rfl, ho30, hq30⟩ := hR
  have hl30 := Lo.up hq30 hB
  have hd1_30 := Dj.lo ho1.ltO hq30
  have hd2_30 := DI.fresh hn2 hq30
  have hd7_30 := Dj.lo ho7.ltO hq30
  have hd9_30 := Dj.lo ho9.ltO hq30
  have hd10_30 := DI.fresh hn10 hq30
  have hd11_30 := Dj.lo ho11.ltO hq30
  have hd12_30 := DI.fresh hn12 hq30
  have hd14_30 := Dj.lo ho14.ltO hq30
  have hd15_30 := DI.fresh hn15 hq30
  have hd18_30 := Dj.lo ho18.ltO hq30
  have hd19_30 := Dj.lo ho19.ltO hq30
  have hd20_30 := Dj.lo ho20.ltO hq30
  have hd21_30 := Dj.lo ho21.ltO hq30
  have hd22_30 := DI.fresh hn22 hq30
  have hd25_30 := Dj.lo ho25.ltO hq30
  have hd26_30 := DI.fresh hn26 hq30
  have hd27_30 := Dj.lo ho27.ltO hq30
  have hd28_30 := DI.fresh hn28 hq30
  have hd29_30 := Dj.lo ho29.ltO hq30
  have hB := hB.trans hXw27
  have ho1 := ho1.up hXw27
  have hn2 := hn2.up hXw27
  have ho7 := ho7.up hXw27
  have ho9 := ho9.up hXw27
  have hn10 := hn10.up hXw27
  have ho11 := ho11.up hXw27
  have hn12 := hn12.up hXw27
  have ho14 := ho14.up hXw27
  have hn15 := hn15.up hXw27
  have ho18 := ho18.up hXw27
  have ho19 := ho19.up hXw27
  have ho20 := ho20.up hXw27
  have ho21 := ho21.up hXw27
  have hn22 := hn22.up hXw27
  have ho25 := ho25.up hXw27
  have hn26 := hn26.up hXw27
  have ho27 := ho27.up hXw27
  have hn28 := hn28.up hXw27
  have ho29 := ho29.up hXw27
  obtain ⟨hqp4_0, hqp4_1, hqp4_2, hqp4_3⟩ := hqFp4 _ hn15
  obtain ⟨hqp5_0, hqp5_1, hqp5_2, hqp5_3⟩ := hqFp5 _ hn15
  obtain ⟨hqp6_0, hqp6_1, hqp6_2, hqp6_3⟩ := hqFp6 _ hn15
  obtain ⟨hqp7_0, hqp7_1, hqp7_2, hqp7_3⟩ := hqFp7 _ hn15
  obtain ⟨hqp8_0, hqp8_1, hqp8_2, hqp8_3⟩ := hqFp8 _ hn15
  obtain ⟨hqp9_0, hqp9_1, hqp9_2, hqp9_3⟩ := hqFp9 _ hn15
  refine WL.pure rfl rfl rfl (PV.move rfl) ?_
  refine WL.pure rfl rfl rfl (PV.extract rfl rfl) ?_
  refine WL.pure rfl rfl rfl (PV.extract rfl rfl) ?_
  refine WL.pure rfl rfl rfl (PV.extract rfl rfl) ?_
  refine WL.pure rfl rfl rfl (PV.assign rfl) ?_
  refine WL.pure rfl rfl rfl (PV.assign rfl) ?_
  refine WL.pure rfl rfl rfl (PV.assign rfl) ?_
  refine WL.nilS ?_
  refine CW.seq ?_
  refine CW.cut (σk := [(21, _), (27, _), (29, _)]) (fun ρ wz => ∃ (_ : Unit), ρ = [(239, .bool false)] ∧ Ext w27 wz ∧ True) ⟨rfl, rfl, rfl, trivial⟩ ?_ ?_
  · skip
    have hB0 := Ext.refl w27
    have hBc := Ext.refl w27
    refine CW.reg ?_
    refine WL.pure rfl rfl rfl (PV.move rfl) ?_
    refine WL.pure rfl rfl rfl (PV.move rfl) ?_
    refine WL.pure rfl rfl rfl (PV.neqB T.bl4 rfl rfl) ?_
    refine WL.pure rfl rfl rfl (PV.move rfl) ?_
    refine WL.split (t := 226) rfl (fun hc9 => ?_) (fun hc9 => ?_)
    · skip
      try simp only [decide_eq_true_eq, decide_eq_false_iff_not, Bool.not_eq_true', Bool.not_eq_false', Bool.not_eq_eq_eq_not, Bool.not_true, Bool.not_false, Int.not_lt, Int.not_le, Classical.not_not, beq_iff_eq, beq_eq_false_iff_ne] at hc9
      exfalso; revert hc9; simp
    try simp only [decide_eq_true_eq, decide_eq_false_iff_not, Bool.not_eq_true', Bool.not_eq_false', Bool.not_eq_eq_eq_not, Bool.not_true, Bool.not_false, Int.not_lt, Int.not_le, Classical.not_not, beq_iff_eq, beq_eq_false_iff_ne] at hc9
    refine WL.pureG rfl rfl rfl rfl rfl (PV.move rfl) ?_
    refine WL.pureG rfl rfl rfl rfl rfl (PV.move rfl) ?_
    refine WL.split (t := 228) rfl (fun hc10 => ?_) (fun hc10 => ?_)
    rotate_left
    · skip
      try simp only [decide_eq_true_eq, decide_eq_false_iff_not, Bool.not_eq_true', Bool.not_eq_false', Bool.not_eq_eq_eq_not, Bool.not_true, Bool.not_false, Int.not_lt, Int.not_le, Classical.not_not, beq_iff_eq, beq_eq_false_iff_ne] at hc10
      refine WL.skip rfl rfl rfl rfl rfl ?_
      refine WL.skip rfl rfl rfl rfl rfl ?_
      refine WL.skip rfl rfl rfl rfl rfl ?_
      refine WL.skip rfl rfl rfl rfl rfl ?_
      refine WL.skip rfl rfl rfl rfl rfl ?_
      refine WL.skipU rfl rfl rfl rfl rfl ?_
      refine WL.skipU rfl rfl rfl rfl rfl ?_
      refine WL.skipU rfl rfl rfl rfl rfl ?_
      refine WL.skip rfl rfl rfl rfl rfl ?_
      refine WL.pureG rfl rfl rfl rfl rfl (PV.pickF rfl rfl) ?_
      refine WL.pure rfl rfl rfl (PV.pickF rfl rfl) ?_
      refine WL.nil ?_
      exact NQ.cut (ρ := [(239, _)]) ⟨rfl, rfl, rfl, rfl, trivial⟩ ⟨(), (by first | rfl | exact congrArg (fun b => [(239, Value.bool b)]) (by first | (simp; done) | (simp; omega))), hBc, trivial⟩
    try simp only [decide_eq_true_eq, decide_eq_false_iff_not, Bool.not_eq_true', Bool.not_eq_false', Bool.not_eq_eq_eq_not, Bool.not_true, Bool.not_false, Int.not_lt, Int.not_le, Classical.not_not, beq_iff_eq, beq_eq_false_iff_ne] at hc10
    refine WL.pureG rfl rfl rfl rfl rfl (PV.move rfl) ?_
    refine WL.pureG rfl rfl rfl rfl rfl (PV.move rfl) ?_
    refine WL.opG rfl rfl rfl (OpK.callR rfl T.cf75 rfl (c_laws_b10Ints_y (by first | assumption | exact Rd.up (by assumption) hB | exact Osl.rd (by assumption) | exact Osn.rdR (by assumption) | exact NL.rd (by assumption) | exact rdII (by assumption) (by assumption) | exact Inn.rd (by assumption) (by omega)) (by first | assumption | exact Rd.up (by assumption) hB | exact Osl.rd (by assumption) | exact Osn.rdR (by assumption) | exact NL.rd (by assumption) | exact rdII (by assumption) (by assumption) | exact Inn.rd (by assumption) (by omega)) (by first | rfl | assumption)) (fun w28 hXw28 => ?_))
    have hB := hB.trans hXw28
    have hBc := (by first | exact hBc.trans hXw28 | exact hB0.trans hXw28)
    have ho1 := ho1.up hXw28
    have hn2 := hn2.up hXw28
    have ho7 := ho7.up hXw28
    have ho9 := ho9.up hXw28
    have hn10 := hn10.up hXw28
    have ho11 := ho11.up hXw28
    have hn12 := hn12.up hXw28
    have ho14 := ho14.up hXw28
    have hn15 := hn15.up hXw28
    have ho18 := ho18.up hXw28
    have ho19 := ho19.up hXw28
    have ho20 := ho20.up hXw28
    have ho21 := ho21.up hXw28
    have hn22 := hn22.up hXw28
    have ho25 := ho25.up hXw28
    have hn26 := hn26.up hXw28
    have ho27 := ho27.up hXw28
    have hn28 := hn28.up hXw28
    have ho29 := ho29.up hXw28
    have ho30 := ho30.up hXw28
    obtain ⟨hqp4_0, hqp4_1, hqp4_2, hqp4_3⟩ := hqFp4 _ hn15
    obtain ⟨hqp5_0, hqp5_1, hqp5_2, hqp5_3⟩ := hqFp5 _ hn15
    obtain ⟨hqp6_0, hqp6_1, hqp6_2, hqp6_3⟩ := hqFp6 _ hn15
    obtain ⟨hqp7_0, hqp7_1, hqp7_2, hqp7_3⟩ := hqFp7 _ hn15
    obtain ⟨hqp8_0, hqp8_1, hqp8_2, hqp8_3⟩ := hqFp8 _ hn15
    obtain ⟨hqp9_0, hqp9_1, hqp9_2, hqp9_3⟩ := hqFp9 _ hn15
    refine WL.pureG rfl rfl rfl rfl rfl (PV.not rfl) ?_
    refine WL.pureG rfl rfl rfl rfl rfl (PV.move rfl) ?_
    refine WL.pureG rfl rfl rfl rfl rfl (PV.move rfl) ?_
    refine WL.pureG rfl rfl rfl rfl rfl (PV.move rfl) ?_
    refine WL.pureG rfl rfl rfl rfl rfl (PV.neq rfl rfl) ?_
    refine WL.pureG rfl rfl rfl rfl rfl (PV.pickF rfl rfl) ?_
    refine WL.pureG rfl rfl rfl rfl rfl (PV.pickT rfl rfl) ?_
    refine WL.pure rfl rfl rfl (PV.pickF rfl rfl) ?_
    refine WL.nil ?_
    exact NQ.cut (ρ := [(239, _)]) ⟨rfl, rfl, rfl, rfl, trivial⟩ ⟨(), (by first | rfl | exact congrArg (fun b => [(239, Value.bool b)]) (by first | (simp; done) | (simp; omega))), hBc, trivial⟩
  rintro _ wc2 ⟨_, rfl, hXc, _⟩
  have hB := hB.trans hXc
  have ho1 := ho1.up hXc
  have hn2 := hn2.up hXc
  have ho7 := ho7.up hXc
  have ho9 := ho9.up hXc
  have hn10 := hn10.up hXc
  have ho11 := ho11.up hXc
  have hn12 := hn12.up hXc
  have ho14 := ho14.up hXc
  have hn15 := hn15.up hXc
  have ho18 := ho18.up hXc
  have ho19 := ho19.up hXc
  have ho20 := ho20.up hXc
  have ho21 := ho21.up hXc
  have hn22 := hn22.up hXc
  have ho25 := ho25.up hXc
  have hn26 := hn26.up hXc
  have ho27 := ho27.up hXc
  have hn28 := hn28.up hXc
  have ho29 := ho29.up hXc
  have ho30 := ho30.up hXc
  refine CW.condF rfl ?_
  refine CW.skipS ?_
  refine CW.seq ?_
  refine CW.seq ?_
  refine CW.reg ?_
  obtain ⟨hqp4_0, hqp4_1, hqp4_2, hqp4_3⟩ := hqFp4 _ hn15
  obtain ⟨hqp5_0, hqp5_1, hqp5_2, hqp5_3⟩ := hqFp5 _ hn15
  obtain ⟨hqp6_0, hqp6_1, hqp6_2, hqp6_3⟩ := hqFp6 _ hn15
  obtain ⟨hqp7_0, hqp7_1, hqp7_2, hqp7_3⟩ := hqFp7 _ hn15
  obtain ⟨hqp8_0, hqp8_1, hqp8_2, hqp8_3⟩ := hqFp8 _ hn15
  obtain ⟨hqp9_0, hqp9_1, hqp9_2, hqp9_3⟩ := hqFp9 _ hn15
  refine WL.pure rfl rfl rfl (PV.move rfl) ?_
  refine WL.pure rfl rfl rfl ((PV.lenOsn rfl ho21 T.sl98)) ?_
  refine WL.pure rfl rfl rfl (PV.move rfl) ?_
  refine WL.nilS ?_
  refine CW.block ?_
  refine CW.loop (σk := [(21, _), (27, _), (29, _), (241, _)]) (fun ρ wz m => ∃ (k : Nat), ρ = [(242, .int .i64 (k : Nat))] ∧ m = vs22.length - k ∧ UpdL [] wc2 wz ∧ (k ≤ vs22.length)) (ρ₀ := [(242, _)]) (m₀ := _) ⟨rfl, rfl, rfl, rfl, rfl, trivial⟩ ⟨0, rfl, rfl, (UpdL.refl _ _), (by first | omega | rfl | (simp; done) | assumption | (simp_all; done))⟩ ?_
  rintro _ wl3 _ ⟨k, rfl, rfl, hU2, hk⟩
  have ho1 := ho1.loop hU2 trivial
  have hn2 := hn2.loop hU2 trivial
  have ho7 := ho7.loop hU2 trivial
  have ho9 := ho9.loop hU2 trivial
  have hn10 := hn10.loop hU2 trivial
  have ho11 := ho11.loop hU2 trivial
  have hn12 := hn12.loop hU2 trivial
  have ho14 := ho14.loop hU2 trivial
  have hn15 := hn15.loop hU2 trivial
  have ho18 := ho18.loop hU2 trivial
  have ho19 := ho19.loop hU2 trivial
  have ho20 := ho20.loop hU2 trivial
  have ho21 := ho21.loop hU2 trivial
  have hn22 := hn22.loop hU2 trivial
  have ho25 := ho25.loop hU2 trivial
  have hn26 := hn26.loop hU2 trivial
  have ho27 := ho27.loop hU2 trivial
  have hn28 := hn28.loop hU2 trivial
  have ho29 := ho29.loop hU2 trivial
  have ho30 := ho30.loop hU2 trivial
  have hB := hB.loop hU2 trivial
  refine CW.seq ?_
  refine CW.reg ?_
  obtain ⟨hqp4_0, hqp4_1, hqp4_2, hqp4_3⟩ := hqFp4 _ hn15
  obtain ⟨hqp5_0, hqp5_1, hqp5_2, hqp5_3⟩ := hqFp5 _ hn15
  obtain ⟨hqp6_0, hqp6_1, hqp6_2, hqp6_3⟩ := hqFp6 _ hn15
  obtain ⟨hqp7_0, hqp7_1, hqp7_2, hqp7_3⟩ := hqFp7 _ hn15
  obtain ⟨hqp8_0, hqp8_1, hqp8_2, hqp8_3⟩ := hqFp8 _ hn15
  obtain ⟨hqp9_0, hqp9_1, hqp9_2, hqp9_3⟩ := hqFp9 _ hn15
  refine WL.pure rfl rfl rfl (PV.lss rfl rfl) ?_
  refine WL.nilS ?_
  refine CW.seq ?_
  refine CW.cond rfl (fun hc11 => ?_) (fun hc11 => ?_)
  · skip
    try simp only [decide_eq_true_eq, decide_eq_false_iff_not, Bool.not_eq_true', Bool.not_eq_false', Bool.not_eq_eq_eq_not, Bool.not_true, Bool.not_false, Int.not_lt, Int.not_le, Classical.not_not, beq_iff_eq, beq_eq_false_iff_ne] at hc11
    refine CW.skipS ?_
    refine CW.seq ?_
    refine CW.block ?_
    refine CW.seq ?_
    refine CW.reg ?_
    refine WL.pure rfl rfl rfl (PV.move rfl) ?_
    refine WL.pure rfl rfl rfl (PV.assign rfl) ?_
    refine WL.nilS ?_
    refine CW.seq ?_
    refine CW.reg ?_
    refine WL.pure rfl rfl rfl (PV.move rfl) ?_
    refine WL.pure rfl rfl rfl (PV.move rfl) ?_
    obtain ⟨p12, vqp12_0, vqp12_1, vqp12_2, vqp12_3, hpp12, hcp12, hqFp12⟩ := Osn.chAt ho21 hn22 (i := k) (by first | omega | (have := hcn; omega))
    refine WL.pure rfl rfl rfl ((PV.indexAddr hpp12 rfl rfl T.sl98)) ?_
    obtain ⟨hqp4_0, hqp4_1, hqp4_2, hqp4_3⟩ := hqFp4 _ hn15
    obtain ⟨hqp5_0, hqp5_1, hqp5_2, hqp5_3⟩ := hqFp5 _ hn15
    obtain ⟨hqp6_0, hqp6_1, hqp6_2, hqp6_3⟩ := hqFp6 _ hn15
    obtain ⟨hqp7_0, hqp7_1, hqp7_2, hqp7_3⟩ := hqFp7 _ hn15
    obtain ⟨hqp8_0, hqp8_1, hqp8_2, hqp8_3⟩ := hqFp8 _ hn15
    obtain ⟨hqp9_0, hqp9_1, hqp9_2, hqp9_3⟩ := hqFp9 _ hn15
    obtain ⟨hqp12_0, hqp12_1, hqp12_2, hqp12_3⟩ := hqFp12 _ hn22
    refine WL.pure rfl rfl rfl ((by first | exact PV.loadA T.ag107 rfl (by first | exact Cells.up (by assumption) hB | exact Bx.cells (by assumption) | assumption) (Ext.refl _) rfl | exact PV.loadP (ds := [_, _, _, _]) T.ag107 rfl (by first | exact Cells.up (by assumption) hB | exact Bx.cells (by assumption) | assumption) (Ext.refl _) rfl rfl)) ?_
    refine WL.pure rfl rfl rfl (PV.move rfl) ?_
    refine WL.op rfl (OpK.call rfl T.cf92 rfl (c_impl_PlacesOf (c := cs23.getD k d4) (by first | assumption | exact Rd.up (by assumption) hB | exact Osl.rd (by assumption) | exact Osn.rdR (by assumption) | exact NL.rd (by assumption) | exact rdII (by assumption) (by assumption) | exact Inn.rd (by assumption) (by omega)) (by first | assumption | exact Rd.up (by assumption) hB | exact Osl.rd (by assumption) | exact Osn.rdR (by assumption) | exact NL.rd (by assumption) | exact rdII (by assumption) (by assumption) | exact Inn.rd (by assumption) (by omega)) (by first | assumption | exact Rd.up (by assumption) hB | exact Osl.rd (by assumption) | exact Osn.rdR (by assumption) | exact NL.rd (by assumption) | exact rdII (by assumption) (by assumption) | exact Inn.rd (by assumption) (by omega)) (by first | assumption | exact Rd.up (by assumption) hB | exact Osl.rd (by assumption) | exact Osn.rdR (by assumption) | exact NL.rd (by assumption) | exact rdII (by assumption) (by assumption) | exact Inn.rd (by assumption) (by omega)) (by first | assumption | exact Rd.up (by assumption) hB | exact Osl.rd (by assumption) | exact Osn.rdR (by assumption) | exact NL.rd (by assumption) | exact rdII (by assumption) (by assumption) | exact Inn.rd (by assumption) (by omega))) (fun rv15 w29 hR => ?_))
    obtain ⟨hXw29, v31, og31, rfl, ho31, hq31⟩ := hR
    have hl31 := Lo.up hq31 hB
    have hd1_31 := Dj.lo ho1.ltO hq31
    have hd2_31 := DI.fresh hn2 hq31
    have hd7_31 := Dj.lo ho7.ltO hq31
    have hd9_31 := Dj.lo ho9.ltO hq31
    have hd10_31 := DI.fresh hn10 hq31
    have hd11_31 := Dj.lo ho11.ltO hq31
    have hd12_31 := DI.fresh hn12 hq31
    have hd14_31 := Dj.lo ho14.ltO hq31
    have hd15_31 := DI.fresh hn15 hq31
    have hd18_31 := Dj.lo ho18.ltO hq31
    have hd19_31 := Dj.lo ho19.ltO hq31
    have hd20_31 := Dj.lo ho20.ltO hq31
    have hd21_31 := Dj.lo ho21.ltO hq31
    have hd22_31 := DI.fresh hn22 hq31
    have hd25_31 := Dj.lo ho25.ltO hq31
    have hd26_31 := DI.fresh hn26 hq31
    have hd27_31 := Dj.lo ho27.ltO hq31
    have hd28_31 := DI.fresh hn28 hq31
    have hd29_31 := Dj.lo ho29.ltO hq31
    have hd30_31 := Dj.lo ho30.ltO hq31
    have hk2_31 := OkN.lo hU2 hq31
    have hg2_31 := OgR.lo hU2.size hq31
    have hB := hB.trans hXw29
    have ho1 := ho1.up hXw29
    have hn2 := hn2.up hXw29
    have ho7 := ho7.up hXw29
    have ho9 := ho9.up hXw29
    have hn10 := hn10.up hXw29
    have ho11 := ho11.up hXw29
    have hn12 := hn12.up hXw29
    have ho14 := ho14.up hXw29
    have hn15 := hn15.up hXw29
    have ho18 := ho18.up hXw29
    have ho19 := ho19.up hXw29
    have ho20 := ho20.up hXw29
    have ho21 := ho21.up hXw29
    have hn22 := hn22.up hXw29
    have ho25 := ho25.up hXw29
    have hn26 := hn26.up hXw29
    have ho27 := ho27.up hXw29
    have hn28 := hn28.up hXw29
    have ho29 := ho29.up hXw29
    have ho30 := ho30.up hXw29
    have hU2 := hU2.ext hXw29
    obtain ⟨hqp4_0, hqp4_1, hqp4_2, hqp4_3⟩ := hqFp4 _ hn15
    obtain ⟨hqp5_0, hqp5_1, hqp5_2, hqp5_3⟩ := hqFp5 _ hn15
    obtain ⟨hqp6_0, hqp6_1, hqp6_2, hqp6_3⟩ := hqFp6 _ hn15
    obtain ⟨hqp7_0, hqp7_1, hqp7_2, hqp7_3⟩ := hqFp7 _ hn15
    obtain ⟨hqp8_0, hqp8_1, hqp8_2, hqp8_3⟩ := hqFp8 _ hn15
    obtain ⟨hqp9_0, hqp9_1, hqp9_2, hqp9_3⟩ := hqFp9 _ hn15
    obtain ⟨hqp12_0, hqp12_1, hqp12_2, hqp12_3⟩ := hqFp12 _ hn22
    refine WL.pure rfl rfl rfl (PV.move rfl) ?_
    refine WL.pure rfl rfl rfl (PV.extract rfl rfl) ?_
    refine WL.pure rfl rfl rfl (PV.extract rfl rfl) ?_
    refine WL.pure rfl rfl rfl (PV.assign rfl) ?_
    refine WL.pure rfl rfl rfl (PV.assign rfl) ?_
    refine WL.nilS ?_
    refine CW.seq ?_
    refine CW.reg ?_
    refine WL.pure rfl rfl rfl (PV.move rfl) ?_
    refine WL.pure rfl rfl rfl (PV.move rfl) ?_
    refine WL.split (t := 255) rfl (fun hc12 => ?_) (fun hc12 => ?_)
    rotate_left
    · skip
      try simp only [decide_eq_true_eq, decide_eq_false_iff_not, Bool.not_eq_true', Bool.not_eq_false', Bool.not_eq_eq_eq_not, Bool.not_true, Bool.not_false, Int.not_lt, Int.not_le, Classical.not_not, beq_iff_eq, beq_eq_false_iff_ne] at hc12
      refine WL.skip rfl rfl rfl rfl rfl ?_
      refine WL.skip rfl rfl rfl rfl rfl ?_
      refine WL.skip rfl rfl rfl rfl rfl ?_
      refine WL.skipU rfl rfl rfl rfl rfl ?_
      refine WL.skipU rfl rfl rfl rfl rfl ?_
      refine WL.skipU rfl rfl rfl rfl rfl ?_
      refine WL.skip rfl rfl rfl rfl rfl ?_
      refine WL.pure rfl rfl rfl (PV.pickF rfl rfl) ?_
      refine WL.nilS ?_
      refine CW.condF rfl ?_
      refine CW.skip ?_
      refine NQ.block ?_
      refine NQ.then ?_
      refine CW.reg ?_
      refine WL.pure rfl rfl rfl (PV.add rfl rfl (by constructor <;> omega)) ?_
      refine WL.pure rfl rfl rfl (PV.move rfl) ?_
      refine WL.nil ?_
      refine NQ.next (ρ := [(242, _)]) ⟨rfl, rfl, rfl, rfl, rfl, trivial⟩ ?_
      exact ⟨_, ⟨k + 1, rfl, rfl, hU2, (by first | omega | assumption | (simp_all; done) | (simp_all; omega))⟩, by omega⟩
    try simp only [decide_eq_true_eq, decide_eq_false_iff_not, Bool.not_eq_true', Bool.not_eq_false', Bool.not_eq_eq_eq_not, Bool.not_true, Bool.not_false, Int.not_lt, Int.not_le, Classical.not_not, beq_iff_eq, beq_eq_false_iff_ne] at hc12
    have hNN := fs_none (k := k) (by assumption : nB _ = true) (show k < cs23.length from by omega)
    refine WL.pureG rfl rfl rfl rfl rfl (PV.move rfl) ?_
    refine WL.pureG rfl rfl rfl rfl rfl (PV.not rfl) ?_
    refine WL.pureG rfl rfl rfl rfl rfl (PV.move rfl) ?_
    refine WL.split (t := 258) rfl (fun hc13 => ?_) (fun hc13 => ?_)
    · skip
      try simp only [decide_eq_true_eq, decide_eq_false_iff_not, Bool.not_eq_true', Bool.not_eq_false', Bool.not_eq_eq_eq_not, Bool.not_true, Bool.not_false, Int.not_lt, Int.not_le, Classical.not_not, beq_iff_eq, beq_eq_false_iff_ne] at hc13
      exfalso; revert hc13; rw [hNN.1]; simp
    try simp only [decide_eq_true_eq, decide_eq_false_iff_not, Bool.not_eq_true', Bool.not_eq_false', Bool.not_eq_eq_eq_not, Bool.not_true, Bool.not_false, Int.not_lt, Int.not_le, Classical.not_not, beq_iff_eq, beq_eq_false_iff_ne] at hc13
    refine WL.pureG rfl rfl rfl rfl rfl (PV.move rfl) ?_
    refine WL.pureG rfl rfl rfl rfl rfl ((PV.lenOs rfl ho31 T.sl28)) ?_
    refine WL.pureG rfl rfl rfl rfl rfl (PV.neq rfl rfl) ?_
    refine WL.pureG rfl rfl rfl rfl rfl (PV.pickF rfl rfl) ?_
    refine WL.pure rfl rfl rfl (PV.pickT rfl rfl) ?_
    refine WL.nilS ?_
    refine CW.cond rfl (fun hc14 => ?_) (fun hc14 => ?_)
    · skip
      try simp only [decide_eq_true_eq, decide_eq_false_iff_not, Bool.not_eq_true', Bool.not_eq_false', Bool.not_eq_eq_eq_not, Bool.not_true, Bool.not_false, Int.not_lt, Int.not_le, Classical.not_not, beq_iff_eq, beq_eq_false_iff_ne] at hc14
      exfalso; revert hc14; rw [onT_yes hNN.1, hNN.2]; simp
    try simp only [decide_eq_true_eq, decide_eq_false_iff_not, Bool.not_eq_true', Bool.not_eq_false', Bool.not_eq_eq_eq_not, Bool.not_true, Bool.not_false, Int.not_lt, Int.not_le, Classical.not_not, beq_iff_eq, beq_eq_false_iff_ne] at hc14
    refine CW.skip ?_
    refine NQ.block ?_
    refine NQ.then ?_
    refine CW.reg ?_
    refine WL.pure rfl rfl rfl (PV.add rfl rfl (by constructor <;> omega)) ?_
    refine WL.pure rfl rfl rfl (PV.move rfl) ?_
    refine WL.nil ?_
    refine NQ.next (ρ := [(242, _)]) ⟨rfl, rfl, rfl, rfl, rfl, trivial⟩ ?_
    exact ⟨_, ⟨k + 1, rfl, rfl, hU2, (by first | omega | assumption | (simp_all; done) | (simp_all; omega))⟩, by omega⟩
  try simp only [decide_eq_true_eq, decide_eq_false_iff_not, Bool.not_eq_true', Bool.not_eq_false', Bool.not_eq_eq_eq_not, Bool.not_true, Bool.not_false, Int.not_lt, Int.not_le, Classical.not_not, beq_iff_eq, beq_eq_false_iff_ne] at hc11
  refine CW.exit ?_
  refine XQ.then ?_
  refine XQ.then ?_
  refine XQ.here ?_
  refine NQ.then ?_
  refine CW.seq ?_
  refine CW.reg ?_
  refine WL.pure rfl rfl rfl (PV.move rfl) ?_
  refine WL.op rfl (OpK.call rfl T.cf93 rfl (c_impl_LoosePairs (by first | assumption | exact Rd.up (by assumption) hB | exact rdCh (by assumption) (by assumption))) (fun rv16 w30 hR => ?_))
  obtain ⟨hXw30, v32, og32, vs33, os33, rfl, ho32, hq32, hn33, hq33, hd32_33⟩ := hR
  have hl32 := Lo.up hq32 hB
  have hd1_32 := Dj.lo ho1.ltO hq32
  have hd2_32 := DI.fresh hn2 hq32
  have hd7_32 := Dj.lo ho7.ltO hq32
  have hd9_32 := Dj.lo ho9.ltO hq32
  have hd10_32 := DI.fresh hn10 hq32
  have hd11_32 := Dj.lo ho11.ltO hq32
  have hd12_32 := DI.fresh hn12 hq32
  have hd14_32 := Dj.lo ho14.ltO hq32
  have hd15_32 := DI.fresh hn15 hq32
  have hd18_32 := Dj.lo ho18.ltO hq32
  have hd19_32 := Dj.lo ho19.ltO hq32
  have hd20_32 := Dj.lo ho20.ltO hq32
  have hd21_32 := Dj.lo ho21.ltO hq32
  have hd22_32 := DI.fresh hn22 hq32
  have hd25_32 := Dj.lo ho25.ltO hq32
  have hd26_32 := DI.fresh hn26 hq32
  have hd27_32 := Dj.lo ho27.ltO hq32
  have hd28_32 := DI.fresh hn28 hq32
  have hd29_32 := Dj.lo ho29.ltO hq32
  have hd30_32 := Dj.lo ho30.ltO hq32
  have hl33 := LoI.up hq33 hB
  have hlv33 := hn33.lv
  have hd1_33 := DI.lo ho1.ltO hq33
  have hdd2_33 := DD.symm (DD.lo hn2 hq33)
  have hd7_33 := DI.lo ho7.ltO hq33
  have hd9_33 := DI.lo ho9.ltO hq33
  have hdd10_33 := DD.symm (DD.lo hn10 hq33)
  have hd11_33 := DI.lo ho11.ltO hq33
  have hdd12_33 := DD.symm (DD.lo hn12 hq33)
  have hd14_33 := DI.lo ho14.ltO hq33
  have hdd15_33 := DD.symm (DD.lo hn15 hq33)
  have hd18_33 := DI.lo ho18.ltO hq33
  have hd19_33 := DI.lo ho19.ltO hq33
  have hd20_33 := DI.lo ho20.ltO hq33
  have hd21_33 := DI.lo ho21.ltO hq33
  have hdd22_33 := DD.symm (DD.lo hn22 hq33)
  have hd25_33 := DI.lo ho25.ltO hq33
  have hdd26_33 := DD.symm (DD.lo hn26 hq33)
  have hd27_33 := DI.lo ho27.ltO hq33
  have hdd28_33 := DD.symm (DD.lo hn28 hq33)
  have hd29_33 := DI.lo ho29.ltO hq33
  have hd30_33 := DI.lo ho30.ltO hq33
  have hB := hB.trans hXw30
  have ho1 := ho1.up hXw30
  have hn2 := hn2.up hXw30
  have ho7 := ho7.up hXw30
  have ho9 := ho9.up hXw30
  have hn10 := hn10.up hXw30
  have ho11 := ho11.up hXw30
  have hn12 := hn12.up hXw30
  have ho14 := ho14.up hXw30
  have hn15 := hn15.up hXw30
  have ho18 := ho18.up hXw30
  have ho19 := ho19.up hXw30
  have ho20 := ho20.up hXw30
  have ho21 := ho21.up hXw30
  have hn22 := hn22.up hXw30
  have ho25 := ho25.up hXw30
  have hn26 := hn26.up hXw30
  have ho27 := ho27.up hXw30
  have hn28 := hn28.up hXw30
  have ho29 := ho29.up hXw30
  have ho30 := ho30.up hXw30
  obtain ⟨hqp4_0, hqp4_1, hqp4_2, hqp4_3⟩ := hqFp4 _ hn15
  obtain ⟨hqp5_0, hqp5_1, hqp5_2, hqp5_3⟩ := hqFp5 _ hn15
  obtain ⟨hqp6_0, hqp6_1, hqp6_2, hqp6_3⟩ := hqFp6 _ hn15
  obtain ⟨hqp7_0, hqp7_1, hqp7_2, hqp7_3⟩ := hqFp7 _ hn15
  obtain ⟨hqp8_0, hqp8_1, hqp8_2, hqp8_3⟩ := hqFp8 _ hn15
  obtain ⟨hqp9_0, hqp9_1, hqp9_2, hqp9_3⟩ := hqFp9 _ hn15
  refine WL.pure rfl rfl rfl (PV.move rfl) ?_
  refine WL.pure rfl rfl rfl (PV.extract rfl rfl) ?_
  refine WL.pure rfl rfl rfl (PV.extract rfl rfl) ?_
  refine WL.pure rfl rfl rfl (PV.assign rfl) ?_
  refine WL.pure rfl rfl rfl (PV.assign rfl) ?_
  refine WL.nilS ?_
  refine CW.seq ?_
  refine CW.reg ?_
  refine WL.pure rfl rfl rfl (PV.move rfl) ?_
  refine WL.op rfl (OpK.call rfl T.cf94 rfl (c_spec_LoosePairs (by first | assumption | exact Rd.up (by assumption) hB | exact rdCh (by assumption) (by assumption))) (fun rv17 w31 hR => ?_))
  obtain ⟨hXw31, v34, og34, vs35, os35, rfl, ho34, hq34, hn35, hq35, hd34_35⟩ := hR
  have hl34 := Lo.up hq34 hB
  have hd1_34 := Dj.lo ho1.ltO hq34
  have hd2_34 := DI.fresh hn2 hq34
  have hd7_34 := Dj.lo ho7.ltO hq34
  have hd9_34 := Dj.lo ho9.ltO hq34
  have hd10_34 := DI.fresh hn10 hq34
  have hd11_34 := Dj.lo ho11.ltO hq34
  have hd12_34 := DI.fresh hn12 hq34
  have hd14_34 := Dj.lo ho14.ltO hq34
  have hd15_34 := DI.fresh hn15 hq34
  have hd18_34 := Dj.lo ho18.ltO hq34
  have hd19_34 := Dj.lo ho19.ltO hq34
  have hd20_34 := Dj.lo ho20.ltO hq34
  have hd21_34 := Dj.lo ho21.ltO hq34
  have hd22_34 := DI.fresh hn22 hq34
  have hd25_34 := Dj.lo ho25.ltO hq34
  have hd26_34 := DI.fresh hn26 hq34
  have hd27_34 := Dj.lo ho27.ltO hq34
  have hd28_34 := DI.fresh hn28 hq34
  have hd29_34 := Dj.lo ho29.ltO hq34
  have hd30_34 := Dj.lo ho30.ltO hq34
  have hd32_34 := Dj.lo ho32.ltO hq34
  have hd33_34 := DI.fresh hn33 hq34
  have hl35 := LoI.up hq35 hB
  have hlv35 := hn35.lv
  have hd1_35 := DI.lo ho1.ltO hq35
  have hdd2_35 := DD.symm (DD.lo hn2 hq35)
  have hd7_35 := DI.lo ho7.ltO hq35
  have hd9_35 := DI.lo ho9.ltO hq35
  have hdd10_35 := DD.symm (DD.lo hn10 hq35)
  have hd11_35 := DI.lo ho11.ltO hq35
  have hdd12_35 := DD.symm (DD.lo hn12 hq35)
  have hd14_35 := DI.lo ho14.ltO hq35
  have hdd15_35 := DD.symm (DD.lo hn15 hq35)
  have hd18_35 := DI.lo ho18.ltO hq35
  have hd19_35 := DI.lo ho19.ltO hq35
  have hd20_35 := DI.lo ho20.ltO hq35
  have hd21_35 := DI.lo ho21.ltO hq35
  have hdd22_35 := DD.symm (DD.lo hn22 hq35)
  have hd25_35 := DI.lo ho25.ltO hq35
  have hdd26_35 := DD.symm (DD.lo hn26 hq35)
  have hd27_35 := DI.lo ho27.ltO hq35
  have hdd28_35 := DD.symm (DD.lo hn28 hq35)
  have hd29_35 := DI.lo ho29.ltO hq35
  have hd30_35 := DI.lo ho30.ltO hq35
  have hd32_35 := DI.lo ho32.ltO hq35
  have hdd33_35 := DD.symm (DD.lo hn33 hq35)
  have hB := hB.trans hXw31
  have ho1 := ho1.up hXw31
  have hn2 := hn2.up hXw31
  have ho7 := ho7.up hXw31
  have ho9 := ho9.up hXw31
  have hn10 := hn10.up hXw31
  have ho11 := ho11.up hXw31
  have hn12 := hn12.up hXw31
  have ho14 := ho14.up hXw31
  have hn15 := hn15.up hXw31
  have ho18 := ho18.up hXw31
  have ho19 := ho19.up hXw31
  have ho20 := ho20.up hXw31
  have ho21 := ho21.up hXw31
  have hn22 := hn22.up hXw31
  have ho25 := ho25.up hXw31
  have hn26 := hn26.up hXw31
  have ho27 := ho27.up hXw31
  have hn28 := hn28.up hXw31
  have ho29 := ho29.up hXw31
  have ho30 := ho30.up hXw31
  have ho32 := ho32.up hXw31
  have hn33 := hn33.up hXw31
  obtain ⟨hqp4_0, hqp4_1, hqp4_2, hqp4_3⟩ := hqFp4 _ hn15
  obtain ⟨hqp5_0, hqp5_1, hqp5_2, hqp5_3⟩ := hqFp5 _ hn15
  obtain ⟨hqp6_0, hqp6_1, hqp6_2, hqp6_3⟩ := hqFp6 _ hn15
  obtain ⟨hqp7_0, hqp7_1, hqp7_2, hqp7_3⟩ := hqFp7 _ hn15
  obtain ⟨hqp8_0, hqp8_1, hqp8_2, hqp8_3⟩ := hqFp8 _ hn15
  obtain ⟨hqp9_0, hqp9_1, hqp9_2, hqp9_3⟩ := hqFp9 _ hn15
  refine WL.pure rfl rfl rfl (PV.move rfl) ?_
  refine WL.pure rfl rfl rfl (PV.extract rfl rfl) ?_
  refine WL.pure rfl rfl rfl (PV.extract rfl rfl) ?_
  refine WL.pure rfl rfl rfl (PV.assign rfl) ?_
  refine WL.pure rfl rfl rfl (PV.assign rfl) ?_
  refine WL.nilS ?_
  refine CW.seq ?_
  refine CW.cut (σk := [(36, _), (37, _), (38, _)]) (fun ρ wz => ∃ (_ : Unit), ρ = [(287, .bool false)] ∧ Ext w31 wz ∧ True) ⟨rfl, rfl, rfl, trivial⟩ ?_ ?_
  · skip
    have hB0 := Ext.refl w31
    have hBc := Ext.refl w31
    refine CW.reg ?_
    refine WL.pure rfl rfl rfl (PV.move rfl) ?_
    refine WL.pure rfl rfl rfl (PV.move rfl) ?_
    refine WL.pure rfl rfl rfl (PV.neqB T.bl4 rfl rfl) ?_
    refine WL.pure rfl rfl rfl (PV.move rfl) ?_
    refine WL.split (t := 278) rfl (fun hc15 => ?_) (fun hc15 => ?_)
    · skip
      try simp only [decide_eq_true_eq, decide_eq_false_iff_not, Bool.not_eq_true', Bool.not_eq_false', Bool.not_eq_eq_eq_not, Bool.not_true, Bool.not_false, Int.not_lt, Int.not_le, Classical.not_not, beq_iff_eq, beq_eq_false_iff_ne] at hc15
      exfalso; revert hc15; simp
    try simp only [decide_eq_true_eq, decide_eq_false_iff_not, Bool.not_eq_true', Bool.not_eq_false', Bool.not_eq_eq_eq_not, Bool.not_true, Bool.not_false, Int.not_lt, Int.not_le, Classical.not_not, beq_iff_eq, beq_eq_false_iff_ne] at hc15
    refine WL.pureG rfl rfl rfl rfl rfl (PV.move rfl) ?_
    refine WL.pureG rfl rfl rfl rfl rfl (PV.move rfl) ?_
    refine WL.split (t := 280) rfl (fun hc16 => ?_) (fun hc16 => ?_)
    rotate_left
    · skip
      try simp only [decide_eq_true_eq, decide_eq_false_iff_not, Bool.not_eq_true', Bool.not_eq_false', Bool.not_eq_eq_eq_not, Bool.not_true, Bool.not_false, Int.not_lt, Int.not_le, Classical.not_not, beq_iff_eq, beq_eq_false_iff_ne] at hc16
      refine WL.skip rfl rfl rfl rfl rfl ?_
      refine WL.skip rfl rfl rfl rfl rfl ?_
      refine WL.skip rfl rfl rfl rfl rfl ?_
      refine WL.skip rfl rfl rfl rfl rfl ?_
      refine WL.skip rfl rfl rfl rfl rfl ?_
      refine WL.pureG rfl rfl rfl rfl rfl (PV.pickF rfl rfl) ?_
      refine WL.pure rfl rfl rfl (PV.pickF rfl rfl) ?_
      refine WL.nil ?_
      exact NQ.cut (ρ := [(287, _)]) ⟨rfl, rfl, rfl, rfl, trivial⟩ ⟨(), (by first | rfl | exact congrArg (fun b => [(287, Value.bool b)]) (by first | (simp; done) | (simp; omega))), hBc, trivial⟩
    try simp only [decide_eq_true_eq, decide_eq_false_iff_not, Bool.not_eq_true', Bool.not_eq_false', Bool.not_eq_eq_eq_not, Bool.not_true, Bool.not_false, Int.not_lt, Int.not_le, Classical.not_not, beq_iff_eq, beq_eq_false_iff_ne] at hc16
    refine WL.pureG rfl rfl rfl rfl rfl (PV.move rfl) ?_
    refine WL.pureG rfl rfl rfl rfl rfl ((PV.lenOs rfl ho32 T.sl25)) ?_
    refine WL.pureG rfl rfl rfl rfl rfl (PV.move rfl) ?_
    refine WL.pureG rfl rfl rfl rfl rfl ((PV.lenOs rfl ho34 T.sl25)) ?_
    refine WL.pureG rfl rfl rfl rfl rfl (PV.neq rfl rfl) ?_
    refine WL.pureG rfl rfl rfl rfl rfl (PV.pickT rfl rfl) ?_
    refine WL.pure rfl rfl rfl (PV.pickF rfl rfl) ?_
    refine WL.nil ?_
    exact NQ.cut (ρ := [(287, _)]) ⟨rfl, rfl, rfl, rfl, trivial⟩ ⟨(), (by first | rfl | exact congrArg (fun b => [(287, Value.bool b)]) (by first | (simp; done) | (simp; omega))), hBc, trivial⟩
  rintro _ wc3 ⟨_, rfl, hXc, _⟩
  have hB := hB.trans hXc
  have ho1 := ho1.up hXc
  have hn2 := hn2.up hXc
  have ho7 := ho7.up hXc
  have ho9 := ho9.up hXc
  have hn10 := hn10.up hXc
  have ho11 := ho11.up hXc
  have hn12 := hn12.up hXc
  have ho14 := ho14.up hXc
  have hn15 := hn15.up hXc
  have ho18 := ho18.up hXc
  have ho19 := ho19.up hXc
  have ho20 := ho20.up hXc
  have ho21 := ho21.up hXc
  have hn22 := hn22.up hXc
  have ho25 := ho25.up hXc
  have hn26 := hn26.up hXc
  have ho27 := ho27.up hXc
  have hn28 := hn28.up hXc
  have ho29 := ho29.up hXc
  have ho30 := ho30.up hXc
  have ho32 := ho32.up hXc
  have hn33 := hn33.up hXc
  have ho34 := ho34.up hXc
  have hn35 := hn35.up hXc
  refine CW.condF rfl ?_
  refine CW.skipS ?_
  refine CW.seq ?_
  refine CW.seq ?_
  refine CW.reg ?_
  obtain ⟨hqp4_0, hqp4_1, hqp4_2, hqp4_3⟩ := hqFp4 _ hn15
  obtain ⟨hqp5_0, hqp5_1, hqp5_2, hqp5_3⟩ := hqFp5 _ hn15
  obtain ⟨hqp6_0, hqp6_1, hqp6_2, hqp6_3⟩ := hqFp6 _ hn15
  obtain ⟨hqp7_0, hqp7_1, hqp7_2, hqp7_3⟩ := hqFp7 _ hn15
  obtain ⟨hqp8_0, hqp8_1, hqp8_2, hqp8_3⟩ := hqFp8 _ hn15
  obtain ⟨hqp9_0, hqp9_1, hqp9_2, hqp9_3⟩ := hqFp9 _ hn15
  have hb33 : vs33.length ≤ 300 := (by rw [hlv33]; exact (lsR_len (cs := cs23) (L := 2) (M := 40)).1)
  refine WL.pure rfl rfl rfl (PV.move rfl) ?_
  refine WL.pure rfl rfl rfl ((PV.lenOs rfl ho32 T.sl25)) ?_
  refine WL.pure rfl rfl rfl (PV.move rfl) ?_
  refine WL.nilS ?_
  refine CW.block ?_
  refine CW.loop (σk := [(36, _), (37, _), (38, _), (289, _)]) (fun ρ wz m => ∃ (k : Nat), ρ = [(290, .int .i64 (k : Nat))] ∧ m = vs33.length - k ∧ UpdL [] wc3 wz ∧ (k ≤ vs33.length)) (ρ₀ := [(290, _)]) (m₀ := _) ⟨rfl, rfl, rfl, rfl, rfl, trivial⟩ ⟨0, rfl, rfl, (UpdL.refl _ _), (by first | omega | rfl | (simp; done) | assumption | (simp_all; done))⟩ ?_
  rintro _ wl4 _ ⟨k, rfl, rfl, hU3, hk⟩
  have ho1 := ho1.loop hU3 trivial
  have hn2 := hn2.loop hU3 trivial
  have ho7 := ho7.loop hU3 trivial
  have ho9 := ho9.loop hU3 trivial
  have hn10 := hn10.loop hU3 trivial
  have ho11 := ho11.loop hU3 trivial
  have hn12 := hn12.loop hU3 trivial
  have ho14 := ho14.loop hU3 trivial
  have hn15 := hn15.loop hU3 trivial
  have ho18 := ho18.loop hU3 trivial
  have ho19 := ho19.loop hU3 trivial
  have ho20 := ho20.loop hU3 trivial
  have ho21 := ho21.loop hU3 trivial
  have hn22 := hn22.loop hU3 trivial
  have ho25 := ho25.loop hU3 trivial
  have hn26 := hn26.loop hU3 trivial
  have ho27 := ho27.loop hU3 trivial
  have hn28 := hn28.loop hU3 trivial
  have ho29 := ho29.loop hU3 trivial
  have ho30 := ho30.loop hU3 trivial
  have ho32 := ho32.loop hU3 trivial
  have hn33 := hn33.loop hU3 trivial
  have ho34 := ho34.loop hU3 trivial
  have hn35 := hn35.loop hU3 trivial
  have hB := hB.loop hU3 trivial
  refine CW.seq ?_
  refine CW.reg ?_
  obtain ⟨hqp4_0, hqp4_1, hqp4_2, hqp4_3⟩ := hqFp4 _ hn15
  obtain ⟨hqp5_0, hqp5_1, hqp5_2, hqp5_3⟩ := hqFp5 _ hn15
  obtain ⟨hqp6_0, hqp6_1, hqp6_2, hqp6_3⟩ := hqFp6 _ hn15
  obtain ⟨hqp7_0, hqp7_1, hqp7_2, hqp7_3⟩ := hqFp7 _ hn15
  obtain ⟨hqp8_0, hqp8_1, hqp8_2, hqp8_3⟩ := hqFp8 _ hn15
  obtain ⟨hqp9_0, hqp9_1, hqp9_2, hqp9_3⟩ := hqFp9 _ hn15
  refine WL.pure rfl rfl rfl (PV.lss rfl rfl) ?_
  refine WL.nilS ?_
  refine CW.seq ?_
  refine CW.cond rfl (fun hc17 => ?_) (fun hc17 => ?_)
  · skip
    try simp only [decide_eq_true_eq, decide_eq_false_iff_not, Bool.not_eq_true', Bool.not_eq_false', Bool.not_eq_eq_eq_not, Bool.not_true, Bool.not_false, Int.not_lt, Int.not_le, Classical.not_not, beq_iff_eq, beq_eq_false_iff_ne] at hc17
    refine CW.skipS ?_
    refine CW.seq ?_
    refine CW.block ?_
    refine CW.seq ?_
    refine CW.reg ?_
    refine WL.pure rfl rfl rfl (PV.move rfl) ?_
    refine WL.pure rfl rfl rfl (PV.assign rfl) ?_
    refine WL.nilS ?_
    refine CW.seq ?_
    refine CW.draw T.mixed (by kernel_rfl) (fun _ _ _ _ _ h => h) (fun w8 w9 => Upd none w8 w9) 13 (.take 0 (.take 1 (.split (.take 2 (.take 3 (.take 4 (.take 5 (.take 6 (.take 7 (.take 8 (.take 9 (.must 10 (.take 11 (.take 12 .done))))))))))) (.take 2 (.take 3 (.take 4 (.take 5 (.take 6 (.take 7 (.take 8 (.take 9 (.take 10 (.take 11 (.take 12 .done)))))))))))))) (by kernel_rfl) (fun w32 hXd => ?_)
    have hB := hB.trans hXd
    have ho1 := ho1.up hXd
    have hn2 := hn2.up hXd
    have ho7 := ho7.up hXd
    have ho9 := ho9.up hXd
    have hn10 := hn10.up hXd
    have ho11 := ho11.up hXd
    have hn12 := hn12.up hXd
    have ho14 := ho14.up hXd
    have hn15 := hn15.up hXd
    have ho18 := ho18.up hXd
    have ho19 := ho19.up hXd
    have ho20 := ho20.up hXd
    have ho21 := ho21.up hXd
    have hn22 := hn22.up hXd
    have ho25 := ho25.up hXd
    have hn26 := hn26.up hXd
    have ho27 := ho27.up hXd
    have hn28 := hn28.up hXd
    have ho29 := ho29.up hXd
    have ho30 := ho30.up hXd
    have ho32 := ho32.up hXd
    have hn33 := hn33.up hXd
    have ho34 := ho34.up hXd
    have hn35 := hn35.up hXd
    have hU3 := hU3.ext hXd
    have hBr := hB
    have hS : Upd none w32 w32 := Ext.toUpd (Ext.refl _)
    obtain ⟨hqp4_0, hqp4_1, hqp4_2, hqp4_3⟩ := hqFp4 _ hn15
    obtain ⟨hqp5_0, hqp5_1, hqp5_2, hqp5_3⟩ := hqFp5 _ hn15
    obtain ⟨hqp6_0, hqp6_1, hqp6_2, hqp6_3⟩ := hqFp6 _ hn15
    obtain ⟨hqp7_0, hqp7_1, hqp7_2, hqp7_3⟩ := hqFp7 _ hn15
    obtain ⟨hqp8_0, hqp8_1, hqp8_2, hqp8_3⟩ := hqFp8 _ hn15
    obtain ⟨hqp9_0, hqp9_1, hqp9_2, hqp9_3⟩ := hqFp9 _ hn15
    refine HP.take rfl rfl rfl rfl hS (fun wS hS1 => PV.move rfl) ?_
    refine HP.take rfl rfl rfl rfl hS (fun wS hS1 => PV.move rfl) ?_
    refine HP.split (t := 294) rfl (fun hc18 => ?_) (fun hc18 => ?_)
    rotate_left
    · skip
      try simp only [decide_eq_true_eq, decide_eq_false_iff_not, Bool.not_eq_true', Bool.not_eq_false', Bool.not_eq_eq_eq_not, Bool.not_true, Bool.not_false, Int.not_lt, Int.not_le, Classical.not_not, beq_iff_eq, beq_eq_false_iff_ne] at hc18
      refine HP.skip rfl rfl rfl rfl rfl rfl hS ?_
      refine HP.skip rfl rfl rfl rfl rfl rfl hS ?_
      refine HP.skip rfl rfl rfl rfl rfl rfl hS ?_
      refine HP.skip rfl rfl rfl rfl rfl rfl hS ?_
      refine HP.skip rfl rfl rfl rfl rfl rfl hS ?_
      refine HP.skip rfl rfl rfl rfl rfl rfl hS ?_
      refine HP.skip rfl rfl rfl rfl rfl rfl hS ?_
      refine HP.skip rfl rfl rfl rfl rfl rfl hS ?_
      refine HP.skip rfl rfl rfl rfl rfl rfl hS ?_
      refine HP.skip rfl rfl rfl rfl rfl rfl hS ?_
      refine HP.take rfl rfl rfl rfl hS (fun wS hS1 => PV.pickF rfl rfl) ?_
      refine HP.doneS ?_
      refine CW.condF rfl ?_
      refine CW.skip ?_
      refine NQ.block ?_
      refine NQ.then ?_
      refine CW.reg ?_
      refine WL.pure rfl rfl rfl (PV.add rfl rfl (by constructor <;> omega)) ?_
      refine WL.pure rfl rfl rfl (PV.move rfl) ?_
      refine WL.nil ?_
      refine NQ.next (ρ := [(290, _)]) ⟨rfl, rfl, rfl, rfl, rfl, trivial⟩ ?_
      exact ⟨_, ⟨k + 1, rfl, rfl, hU3, (by first | omega | assumption | (simp_all; done) | (simp_all; omega))⟩, by omega⟩
    try simp only [decide_eq_true_eq, decide_eq_false_iff_not, Bool.not_eq_true', Bool.not_eq_false', Bool.not_eq_eq_eq_not, Bool.not_true, Bool.not_false, Int.not_lt, Int.not_le, Classical.not_not, beq_iff_eq, beq_eq_false_iff_ne] at hc18
    refine HP.takeG rfl rfl rfl rfl rfl rfl hS (fun wS hS1 => PV.move rfl) ?_
    refine HP.takeG rfl rfl rfl rfl rfl rfl hS (fun wS hS1 => PV.move rfl) ?_
    first
      | refine HP.atO (wb := w32) (x := .tmp 295) (y := .tmp 296) (f := VV) (.slice none 0 0) rfl rfl (by assumption) (by first | omega | (simp only [List.length_set]; omega) | (simp only [List.length_append, List.length_take, List.length_replicate, List.length_drop]; omega)) (fun p13 hpp13 hcp13 => ?_)
      | refine HP.atOZ (wb := w32) (x := .tmp 295) (y := .tmp 296) (f := VV) (.slice none 0 0) rfl rfl (by assumption) (by first | omega | (simp only [List.length_set]; omega) | (simp only [List.length_append, List.length_take, List.length_replicate, List.length_drop]; omega)) (fun p13 hpp13 hzp13 hcp13 => ?_)
    refine HP.takeG rfl rfl rfl rfl rfl rfl hS (fun wS hS1 => (by first | exact PV.indexAddr hpp13 rfl rfl T.sl25 | exact PV.indexAddr hpp13 rfl (by rw [← hzp13]; rfl) T.sl25)) ?_
    refine HP.takeG rfl rfl rfl rfl rfl rfl hS (fun wS hS1 => (by first | exact PV.load0 T.na28 rfl (by first | exact Cells.up (by assumption) (hBr.trans hS1) | exact Bx.cells (Bx.updD (by assumption) hS1 (Dj.nlR _)) | exact Cells.upd (by assumption) hS1 (by simp)) (Ext.refl _) rfl | exact PV.load1 T.na28 rfl (by first | exact Cells.up (by assumption) (hBr.trans hS1) | exact Bx.cells (Bx.updD (by assumption) hS1 (Dj.nlR _)) | exact Cells.upd (by assumption) hS1 (by simp)) (Ext.refl _) rfl)) ?_
    refine HP.takeG rfl rfl rfl rfl rfl rfl hS (fun wS hS1 => PV.move rfl) ?_
    refine HP.takeG rfl rfl rfl rfl rfl rfl hS (fun wS hS1 => PV.move rfl) ?_
    first
      | refine HP.atO (wb := w32) (x := .tmp 299) (y := .tmp 300) (f := VV) (.slice none 0 0) rfl rfl (by assumption) (by first | omega | (simp only [List.length_set]; omega) | (simp only [List.length_append, List.length_take, List.length_replicate, List.length_drop]; omega)) (fun p14 hpp14 hcp14 => ?_)
      | refine HP.atOZ (wb := w32) (x := .tmp 299) (y := .tmp 300) (f := VV) (.slice none 0 0) rfl rfl (by assumption) (by first | omega | (simp only [List.length_set]; omega) | (simp only [List.length_append, List.length_take, List.length_replicate, List.length_drop]; omega)) (fun p14 hpp14 hzp14 hcp14 => ?_)
    refine HP.takeG rfl rfl rfl rfl rfl rfl hS (fun wS hS1 => (by first | exact PV.indexAddr hpp14 rfl rfl T.sl25 | exact PV.indexAddr hpp14 rfl (by rw [← hzp14]; rfl) T.sl25)) ?_
    refine HP.takeG rfl rfl rfl rfl rfl rfl hS (fun wS hS1 => (by first | exact PV.load0 T.na28 rfl (by first | exact Cells.up (by assumption) (hBr.trans hS1) | exact Bx.cells (Bx.updD (by assumption) hS1 (Dj.nlR _)) | exact Cells.upd (by assumption) hS1 (by simp)) (Ext.refl _) rfl | exact PV.load1 T.na28 rfl (by first | exact Cells.up (by assumption) (hBr.trans hS1) | exact Bx.cells (Bx.updD (by assumption) hS1 (Dj.nlR _)) | exact Cells.upd (by assumption) hS1 (by simp)) (Ext.refl _) rfl)) ?_
    refine HP.mustG rfl rfl rfl rfl (OpK.callR rfl T.cf75 rfl (c_laws_b10Ints_y (by first | assumption | exact Rd.up (by assumption) hB | exact Osl.rd (by assumption) | exact Osn.rdR (by assumption) | exact NL.rd (by assumption) | exact rdII (by assumption) (by assumption) | exact Inn.rd (by assumption) (by omega)) (by first | assumption | exact Rd.up (by assumption) hB | exact Osl.rd (by assumption) | exact Osn.rdR (by assumption) | exact NL.rd (by assumption) | exact rdII (by assumption) (by assumption) | exact Inn.rd (by assumption) (by omega)) (by first | rfl | assumption)) (fun w33 hXw33 => ?_))
    refine ⟨Upd.trans hS hXw33, ?_⟩
    have hS := Upd.trans hS hXw33
    have hB := hB.trans hXw33
    have ho1 := ho1.up hXw33
    have hn2 := hn2.up hXw33
    have ho7 := ho7.up hXw33
    have ho9 := ho9.up hXw33
    have hn10 := hn10.up hXw33
    have ho11 := ho11.up hXw33
    have hn12 := hn12.up hXw33
    have ho14 := ho14.up hXw33
    have hn15 := hn15.up hXw33
    have ho18 := ho18.up hXw33
    have ho19 := ho19.up hXw33
    have ho20 := ho20.up hXw33
    have ho21 := ho21.up hXw33
    have hn22 := hn22.up hXw33
    have ho25 := ho25.up hXw33
    have hn26 := hn26.up hXw33
    have ho27 := ho27.up hXw33
    have hn28 := hn28.up hXw33
    have ho29 := ho29.up hXw33
    have ho30 := ho30.up hXw33
    have ho32 := ho32.up hXw33
    have hn33 := hn33.up hXw33
    have ho34 := ho34.up hXw33
    have hn35 := hn35.up hXw33
    have hU3 := hU3.ext hXw33
    obtain ⟨hqp4_0, hqp4_1, hqp4_2, hqp4_3⟩ := hqFp4 _ hn15
    obtain ⟨hqp5_0, hqp5_1, hqp5_2, hqp5_3⟩ := hqFp5 _ hn15
    obtain ⟨hqp6_0, hqp6_1, hqp6_2, hqp6_3⟩ := hqFp6 _ hn15
    obtain ⟨hqp7_0, hqp7_1, hqp7_2, hqp7_3⟩ := hqFp7 _ hn15
    obtain ⟨hqp8_0, hqp8_1, hqp8_2, hqp8_3⟩ := hqFp8 _ hn15
    obtain ⟨hqp9_0, hqp9_1, hqp9_2, hqp9_3⟩ := hqFp9 _ hn15
    refine HP.takeG rfl rfl rfl rfl rfl rfl hS (fun wS hS1 => PV.not rfl) ?_
    refine HP.take rfl rfl rfl rfl hS (fun wS hS1 => PV.pickT rfl rfl) ?_
    refine HP.doneS ?_
    refine CW.condF rfl ?_
    refine CW.skip ?_
    refine NQ.block ?_
    refine NQ.then ?_
    refine CW.reg ?_
    refine WL.pure rfl rfl rfl (PV.add rfl rfl (by constructor <;> omega)) ?_
    refine WL.pure rfl rfl rfl (PV.move rfl) ?_
    refine WL.nil ?_
    refine NQ.next (ρ := [(290, _)]) ⟨rfl, rfl, rfl, rfl, rfl, trivial⟩ ?_
    exact ⟨_, ⟨k + 1, rfl, rfl, hU3, (by first | omega | assumption | (simp_all; done) | (simp_all; omega))⟩, by omega⟩
  try simp only [decide_eq_true_eq, decide_eq_false_iff_not, Bool.not_eq_true', Bool.not_eq_false', Bool.not_eq_eq_eq_not, Bool.not_true, Bool.not_false, Int.not_lt, Int.not_le, Classical.not_not, beq_iff_eq, beq_eq_false_iff_ne] at hc17
  refine CW.exit ?_
  refine XQ.then ?_
  refine XQ.then ?_
  refine XQ.here ?_
  refine NQ.then ?_
  refine CW.seq ?_
  refine CW.reg ?_
  refine WL.pure rfl rfl rfl (PV.assign rfl) ?_
  refine WL.nilS ?_
  refine CW.ret ?_
  refine RQ.r1 rfl ?_
  refine ⟨?_, hB⟩
  first | rfl | (exfalso; revert hc18; simp; done) | (exfalso; revert hc18; simp; omega) | (exfalso; omega) | first | rfl | exact bT (by omega) | exact bF (by omega) | exact bD (by omega) | exact iE (by omega) | (simp_all; done) | (simp_all; omega) | (simp_all; intros; omega)

end Go.Proofs.Ythemmoceomdccaa
