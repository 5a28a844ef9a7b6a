/- Walks of the functions that the law FnParses reaches: each says what its function computes. No condition. -/
import Derived.Test.YthemmoceomdccaaProg
import Derived.Test.YthemmoceomdccaaLibM
import Derived.Test.YthemmoceomdccaaPlA
import Derived.Test.YthemmoceomdccaaLibN
import Derived.Test.YthemmoceomdccaaLibO
import Derived.Test.YthemmoceomdccaaLibG2
import Derived.Test.YthemmoceomdccaaPlG
import Derived.Test.YthemmoceomdccaaPlX
import Derived.Test.YthemmoceomdccaaLibR
import Derived.Test.YthemmoceomdccaaPlD
import Derived.Test.YthemmoceomdccaaPlB
import Derived.Test.YthemmoceomdccaaPlH
import Derived.Test.YthemmoceomdccaaPlI
import Derived.Test.YthemmoceomdccaaPlJ
import Derived.Test.YthemmoceomdccaaPlE
import Derived.Test.YthemmoceomdccaaPlC
import Derived.Test.YthemmoceomdccaaPlW
import Derived.Test.YthemmoceomdccaaPlU
import Derived.Test.YthemmoceomdccaaPlY
import Derived.Test.YthemmoceomdccaaPlR
import Derived.Test.YthemmoceomdccaaPlDq
import Derived.Test.YthemmoceomdccaaPlRa
import Derived.Test.YthemmoceomdccaaPlPa
import Derived.Test.YthemmoceomdccaaPlPb
import Derived.Test.YthemmoceomdccaaPlPc
import Derived.Test.YthemmoceomdccaaPlPd
import Derived.Test.YthemmoceomdccaaPlPe
import Derived.Test.YthemmoceomdccaaPlPf
import Derived.Test.YthemmoceomdccaaPlPg
import Derived.Test.YthemmoceomdccaaWFnParsesb
namespace Go.Proofs.Ythemmoceomdccaa
open Go Go.WX Go.Proofs
set_option linter.unusedSimpArgs false
set_option linter.unusedVariables false

theorem c_impl_Grammar_rulesOf_n : ∀ (m : Nat) {w : World} {b : World} {a0 : Int} {a1 : Int} {va2 : Value} {xa2 : List R4} {va : Value} {og : Option Nat} {us : List Int} {pc : Addr} {xs ys : List Int} {i j : Nat} {nm : Int} (hB0 : Ext b w) (ht_va : Osl VI w og va (us)) (htl_va : Lo b og) (htb_pc : Bx w pc (List.map VI (ys))) (htbd_pc_va : Dj (some pc.block) og) (ha2 : Rd ER b va2 xa2) (hg : gramV a0 a1 xa2) (h12 : 1 ≤ xs.length ∧ xs.length ≤ 12) (hT : TCT 1099511627776 xa2 xs a0 ys (xs.length + 1) 0) (hij : i < j ∧ j ≤ xs.length) (hnm : 0 ≤ nm ∧ nm < a0) (hlt : co ys i j nm < 1099511627776) (hus : us.length + 2 * (j - i) ≤ 48), (j - i) < m → Calls Try.prog 112 #[.agg #[.int .i64 a0, .int .i64 a1, va2], va, .pointer (some pc), .int .i64 (i : Nat), .int .i64 (j : Nat), .int .i64 nm] w (Ret1 (fun v w' => UpdL [og] w w' ∧ ∃ u og_u, v = u ∧ Osl VI w' og_u u (us ++ treeL xa2 xs i j nm) ∧ OgR w og og_u)) := by
  intro m
  induction m with
  | zero => intro _ _ _ _ _ _ _ _ _ _ _ _ _ _ _ _ _ _ _ _ _ _ _ _ _ _ _ _ hm; exact absurd hm (Nat.not_lt_zero _)
  | succ m ih =>
  intro w b a0 a1 va2 xa2 va og us pc xs ys i j nm hB0 ht_va htl_va htb_pc htbd_pc_va ha2 hg h12 hT hij hnm hlt hus hm
  have hB := hB0
  have hla2 := ha2.leI; have hg1 := hg.1; have hn := hT.1; have oc := hT.at h12.2 hg1.2 hij.1 hij.2 hnm; obtain ⟨r, m, er, em, hF⟩ := oc.fst hlt; have hr := hF.hk; have e1 : ys.getD (i * 312 + j * 24 + nm.toNat * 3 + 1) 0 = (r : Int) := (congrArg (fun q => ys.getD q 0) (show _ = 3 * ((i * 13 + j) * 8 + nm.toNat) + 1 from (by omega))).trans er; have e2 : ys.getD (i * 312 + j * 24 + nm.toNat * 3 + 2) 0 = (m : Int) := (congrArg (fun q => ys.getD q 0) (show _ = 3 * ((i * 13 + j) * 8 + nm.toNat) + 2 from (by omega))).trans em
  refine callsOf (vs := [_, _, _, _, _, _]) Try.func112 rfl Try.ntmps112 rfl rfl ?_
  have hUB : UpdL [og] w w := UpdL.refl _ _
  have ho1 := ht_va
  have hl1 := htl_va
  have hkB_1 : OkB [og] w og := OkB.mem (by simp)
  have hgB_1 := OgR.refl w og
  have hb2 := htb_pc
  have hd1_2 : Dj og (some pc.block) := by first | assumption | exact Dj.symm (by assumption)
  refine CW.seq ?_
  refine CW.reg ?_
  refine WL.op rfl (OpK.box rfl rfl (by first | exact Rd.cells1 (by assumption) | exact Osl.cells1 (by assumption) | exact Osn.cells1 (by assumption) | exact Rd.cells1 (NL.rd (by assumption)) | exact Inn.cell1 (by assumption) (by omega) | assumption | rfl) (fun b3 w1 hXw1 hb3 hge3 => ?_))
  have hl3 := Lo.new hB hge3
  have hd1_3 := Dj.new ho1.ltO hge3
  have hd2_3 := Dj.new hb2.ltO hge3
  have hkB_3 := OkN.new hUB hge3
  have hgB_3 := OgR.new hUB.size hge3
  have hB := hB.trans hXw1
  have ho1 := ho1.up hXw1
  have hb2 := hb2.up hXw1
  have hUB := hUB.ext hXw1
  refine WL.asg rfl rfl ?_
  refine WL.nilS ?_
  refine CW.seq ?_
  refine CW.reg ?_
  refine WL.mv rfl rfl ?_
  refine WL.mv rfl rfl ?_
  refine WL.mv rfl rfl ?_
  refine WL.mv rfl rfl ?_
  refine WL.pure rfl rfl rfl (PV.nilCheck rfl) ?_
  refine WL.pure rfl rfl rfl ((by first | exact PV.ixN T.ar220 rfl hb2.spot rfl (by omega) | exact PV.ixZ T.ar220 rfl hb2.spot rfl (by omega))) ?_
  refine WL.pure rfl rfl rfl ((by first | exact PV.ixPN T.ar130 rfl rfl (by omega) | exact PV.ixPZ T.ar130 rfl rfl (by omega))) ?_
  refine WL.pure rfl rfl rfl ((by first | exact PV.ixPN T.ar129 rfl rfl (by omega) | exact PV.ixPZ T.ar129 rfl rfl (by omega))) ?_
  refine WL.pure rfl rfl rfl (PV.loadArr3 0 T.ag128 rfl (Bx.cells hb2) (Ext.refl _) (by first | omega | (simp only [List.length_set]; omega))) ?_
  rw [e1, e2]
  refine WL.op rfl (OpK.alloc rfl T.zv128 rfl (fun b4 w2 hXw2 hb4 hge4 => ?_))
  have hl4 := Lo.new hB hge4
  have hd1_4 := Dj.new ho1.ltO hge4
  have hd2_4 := Dj.new hb2.ltO hge4
  have hd3_4 := Dj.new hb3.ltO hge4
  have hkB_4 := OkN.new hUB hge4
  have hgB_4 := OgR.new hUB.size hge4
  have hB := hB.trans hXw2
  have ho1 := ho1.up hXw2
  have hb2 := hb2.up hXw2
  have hb3 := hb3.up hXw2
  have hUB := hUB.ext hXw2
  refine WL.op rfl (OpK.storeA T.sz128 rfl rfl rfl rfl (by simp [Value.oneCell'] <;> first | done | (repeat' apply And.intro) <;> first | rfl | exact Osl.oneCell (by assumption) | exact Osn.oneCell (by assumption) | exact Rd.oneCell (by assumption) | exact Rd.oneCell (NL.rd (by assumption)) | assumption) hb4 (fun w3 hXw3 hb4 => ?_))
  have hB := hB.updL hXw3 hl4
  have ho1 := ho1.updD hXw3 hd1_4
  have hb2 := hb2.updD hXw3 hd2_4
  have hb3 := hb3.updD hXw3 hd3_4
  have hUB := hUB.step hXw3 hkB_4
  refine WL.nilS ?_
  refine CW.seq ?_
  refine CW.reg ?_
  refine WL.mv rfl rfl ?_
  refine WL.pure rfl rfl rfl (PV.fieldAddr T.fl128_1 rfl hb4.cells) ?_
  refine WL.pure rfl rfl rfl (PV.load1 T.na3 rfl hb4.cells (Ext.refl _) rfl) ?_
  refine WL.op rfl (OpK.buildS VI (os := [.tmp 26]) [_] rfl T.sl28 rfl rfl T.zv2 rfl (by intro z hz; first | rfl | (simp only [List.mem_cons, List.not_mem_nil, or_false] at hz; subst hz; exact (by first | exact Rd.cells1 (by assumption) | exact Osl.cells1 (by assumption) | exact Osn.cells1 (by assumption) | exact Rd.cells1 (NL.rd (by assumption)) | exact Inn.cell1 (by assumption) (by omega) | assumption | rfl))) rfl (fun v5 g5 w4 hXw4 ho5 hge5 => ?_))
  have hl5 := Lo.new hB hge5
  have hd1_5 := Dj.new ho1.ltO hge5
  have hd2_5 := Dj.new hb2.ltO hge5
  have hd3_5 := Dj.new hb3.ltO hge5
  have hd4_5 := Dj.new hb4.ltO hge5
  have hkB_5 := OkN.new hUB hge5
  have hgB_5 := OgR.new hUB.size hge5
  have hB := hB.trans hXw4
  have ho1 := ho1.up hXw4
  have hb2 := hb2.up hXw4
  have hb3 := hb3.up hXw4
  have hb4 := hb4.up hXw4
  have hUB := hUB.ext hXw4
  refine WL.op rfl (OpK.appendS (f := VI) rfl T.sl28 T.zv2 rfl rfl ho1 rfl (Osl.src ho5 (fun _ => rfl)) (by first | (simp only [List.length_cons, List.length_nil]; omega) | (simp_all; omega)) (fun v6 og6 w5 hXw5 ho6 hap6 => ?_))
  have hl6 := Lo.app hl1 hB hap6
  have hd2_6 := Dj.app (Dj.symm hd1_2) hb2.ltO hap6
  have hd3_6 := Dj.app (Dj.symm hd1_3) hb3.ltO hap6
  have hd4_6 := Dj.app (Dj.symm hd1_4) hb4.ltO hap6
  have hd5_6 := Dj.app (Dj.symm hd1_5) ho5.ltO hap6
  have hkB_6 := OkN.app hUB hkB_1 hap6
  have hgB_6 := OgR.app hgB_1 hUB.size hap6
  have hB := hB.updL hXw5 hl1
  have hb2 := hb2.updD hXw5 (Dj.symm hd1_2)
  have hb3 := hb3.updD hXw5 (Dj.symm hd1_3)
  have hb4 := hb4.updD hXw5 (Dj.symm hd1_4)
  have ho5 := ho5.updD hXw5 (Dj.symm hd1_5)
  have hUB := hUB.step hXw5 hkB_1
  refine WL.asg rfl rfl ?_
  refine WL.nilS ?_
  refine CW.seq ?_
  refine CW.seq ?_
  refine CW.reg ?_
  refine WL.pure rfl rfl rfl (PV.fieldAddr T.fl33_2 rfl hb3.cells) ?_
  refine WL.pure rfl rfl rfl (PV.load1 T.na31 rfl hb3.cells (Ext.refl _) rfl) ?_
  refine WL.pure rfl rfl rfl (PV.fieldAddr T.fl128_1 rfl hb4.cells) ?_
  refine WL.pure rfl rfl rfl (PV.load1 T.na3 rfl hb4.cells (Ext.refl _) rfl) ?_
  first
    | refine WL.at (x := .tmp 30) (y := .tmp 32) (E := ER) ((0, 0, 0, 0)) rfl rfl (by first | assumption | exact Inn.rd (by assumption) (by omega)) (by first | omega | (simp only [List.length_set]; omega) | (simp only [List.length_append, List.length_take, List.length_replicate, List.length_drop]; omega)) (fun p1 csp1 hpp1 hcp1 hq => ?_)
    | refine WL.atZ (x := .tmp 30) (y := .tmp 32) (E := ER) ((0, 0, 0, 0)) rfl rfl (by first | assumption | exact Inn.rd (by assumption) (by omega)) (by first | omega | (simp only [List.length_set]; omega) | (simp only [List.length_append, List.length_take, List.length_replicate, List.length_drop]; omega)) (fun p1 csp1 hpp1 hzp1 hcp1 hq => ?_)
  cases hq
  refine WL.pure rfl rfl rfl ((by first | exact PV.indexAddr hpp1 rfl rfl T.sl31 | exact PV.indexAddr hpp1 rfl (by rw [← hzp1]; rfl) T.sl31)) ?_
  refine WL.pure rfl rfl rfl ((by first | exact PV.loadA T.ag56 rfl (by first | exact Cells.up (by assumption) hB | exact Bx.cells (by assumption) | assumption) (Ext.refl _) rfl | exact PV.loadP (ds := [_, _, _, _]) T.ag56 rfl (by first | exact Cells.up (by assumption) hB | exact Bx.cells (by assumption) | assumption) (Ext.refl _) rfl rfl)) ?_
  refine WL.op rfl (OpK.alloc rfl T.zv56 rfl (fun b7 w6 hXw6 hb7 hge7 => ?_))
  have hl7 := Lo.new hB hge7
  have hd2_7 := Dj.new hb2.ltO hge7
  have hd3_7 := Dj.new hb3.ltO hge7
  have hd4_7 := Dj.new hb4.ltO hge7
  have hd5_7 := Dj.new ho5.ltO hge7
  have hd6_7 := Dj.new ho6.ltO hge7
  have hkB_7 := OkN.new hUB hge7
  have hgB_7 := OgR.new hUB.size hge7
  have hB := hB.trans hXw6
  have hb2 := hb2.up hXw6
  have hb3 := hb3.up hXw6
  have hb4 := hb4.up hXw6
  have ho5 := ho5.up hXw6
  have ho6 := ho6.up hXw6
  have hUB := hUB.ext hXw6
  refine WL.op rfl (OpK.storeA T.sz56 rfl rfl rfl rfl (by simp [Value.oneCell'] <;> first | done | (repeat' apply And.intro) <;> first | rfl | exact Osl.oneCell (by assumption) | exact Osn.oneCell (by assumption) | exact Rd.oneCell (by assumption) | exact Rd.oneCell (NL.rd (by assumption)) | assumption) hb7 (fun w7 hXw7 hb7 => ?_))
  have hB := hB.updL hXw7 hl7
  have hb2 := hb2.updD hXw7 hd2_7
  have hb3 := hb3.updD hXw7 hd3_7
  have hb4 := hb4.updD hXw7 hd4_7
  have ho5 := ho5.updD hXw7 hd5_7
  have ho6 := ho6.updD hXw7 hd6_7
  have hUB := hUB.step hXw7 hkB_7
  refine WL.nilS ?_
  refine CW.seq ?_
  refine CW.reg ?_
  refine WL.pure rfl rfl rfl (PV.fieldAddr T.fl56_2 rfl hb7.cells) ?_
  refine WL.pure rfl rfl rfl (PV.load1 T.na2 rfl hb7.cells (Ext.refl _) rfl) ?_
  refine WL.pure rfl rfl rfl (PV.geq rfl rfl) ?_
  refine WL.nilS ?_
  refine CW.cond rfl (fun hc1 => ?_) (fun hc1 => ?_)
  · skip
    try simp only [nq] at hc1
    have hs := hF.sub hT hg (by omega) h12.2 hij.2 (by assumption); have hs1 := hs.1; have hs2 : 0 ≤ (xa2.getD r (0, 0, 0, 0)).2.1 ∧ (xa2.getD r (0, 0, 0, 0)).2.1 < a0 := hs.2.1; have hs3 : 0 ≤ (xa2.getD r (0, 0, 0, 0)).2.2.1 ∧ (xa2.getD r (0, 0, 0, 0)).2.2.1 < a0 := hs.2.2.1; have hs4 := hs.2.2.2.1; have hs5 := hs.2.2.2.2
    refine CW.seq ?_
    refine CW.reg ?_
    refine WL.pure rfl rfl rfl (PV.loadA T.ag33 rfl hb3.cells (Ext.refl _) rfl) ?_
    refine WL.mv rfl rfl ?_
    refine WL.mv rfl rfl ?_
    refine WL.mv rfl rfl ?_
    refine WL.pure rfl rfl rfl (PV.fieldAddr T.fl128_2 rfl hb4.cells) ?_
    refine WL.pure rfl rfl rfl (PV.load1 T.na3 rfl hb4.cells (Ext.refl _) rfl) ?_
    refine WL.pure rfl rfl rfl (PV.fieldAddr T.fl56_1 rfl hb7.cells) ?_
    refine WL.pure rfl rfl rfl (PV.load1 T.na2 rfl hb7.cells (Ext.refl _) rfl) ?_
    refine WL.op rfl (OpK.call rfl T.cf112 rfl (ih hB (by first | assumption | exact Dj.symm (by assumption)) (by first | assumption | exact Lo.nl _) (by first | assumption | exact Lo.nl _) (by first | assumption | exact Dj.symm (by assumption)) (by first | assumption | exact Rd.up (by assumption) hB | exact Osl.rd (by assumption) | exact Osn.rdR (by assumption)) (by first | assumption | omega | (simp only [marks_len]; omega)) (by first | assumption | omega | (simp only [marks_len]; omega)) (by first | assumption | omega | (simp only [marks_len]; omega)) (by first | assumption | omega | (simp only [marks_len]; omega)) (by first | assumption | omega | (simp only [marks_len]; omega)) (by first | assumption | omega | (simp only [marks_len]; omega)) (by first | omega | (have hq1 := treeL_len1 (rs := xa2) (wd := xs) (a := (xa2.getD r (0, 0, 0, 0)).2.1) hs1.1; simp only [List.length_append, List.length_cons, List.length_nil]; omega) | (simp only [List.length_append, List.length_cons, List.length_nil]; omega)) (by omega)) (fun rv1 w8 hR => ?_))
    have hlt2 := hb2.ltO
    have hlt3 := hb3.ltO
    have hlt4 := hb4.ltO
    have hlt5 := ho5.ltO
    have hlt6 := ho6.ltO
    have hlt7 := hb7.ltO
    obtain ⟨hUC8, v9, og9, rfl, ho9, hr9⟩ := hR
    have hl9 := Lo.ogr hl6 hB hr9
    have hd2_9 := Dj.ogr hd2_6 hlt2 hr9
    have hd3_9 := Dj.ogr hd3_6 hlt3 hr9
    have hd4_9 := Dj.ogr hd4_6 hlt4 hr9
    have hd5_9 := Dj.ogr hd5_6 hlt5 hr9
    have hd7_9 := Dj.ogr (Dj.symm hd6_7) hlt7 hr9
    have hkB_9 := OkB.ogr hkB_6 hUB.size hr9
    have hgB_9 := OgR.trans hgB_6 hUB.size hr9
    have hUB := hUB.trans hUC8 ⟨hkB_6, trivial⟩
    have hb2 := hb2.loop hUC8 ⟨hd2_6, trivial⟩
    have hb3 := hb3.loop hUC8 ⟨hd3_6, trivial⟩
    have hb4 := hb4.loop hUC8 ⟨hd4_6, trivial⟩
    have ho5 := ho5.loop hUC8 ⟨hd5_6, trivial⟩
    have hb7 := hb7.loop hUC8 ⟨(Dj.symm hd6_7), trivial⟩
    have hB := hB.loop hUC8 ⟨hl6, trivial⟩
    refine WL.asg rfl rfl ?_
    refine WL.nilS ?_
    refine CW.reg ?_
    refine WL.pure rfl rfl rfl (PV.loadA T.ag33 rfl hb3.cells (Ext.refl _) rfl) ?_
    refine WL.mv rfl rfl ?_
    refine WL.mv rfl rfl ?_
    refine WL.pure rfl rfl rfl (PV.fieldAddr T.fl128_2 rfl hb4.cells) ?_
    refine WL.pure rfl rfl rfl (PV.load1 T.na3 rfl hb4.cells (Ext.refl _) rfl) ?_
    refine WL.mv rfl rfl ?_
    refine WL.pure rfl rfl rfl (PV.fieldAddr T.fl56_2 rfl hb7.cells) ?_
    refine WL.pure rfl rfl rfl (PV.load1 T.na2 rfl hb7.cells (Ext.refl _) rfl) ?_
    refine WL.op rfl (OpK.call rfl T.cf112 rfl (ih hB (by first | assumption | exact Dj.symm (by assumption)) (by first | assumption | exact Lo.nl _) (by first | assumption | exact Lo.nl _) (by first | assumption | exact Dj.symm (by assumption)) (by first | assumption | exact Rd.up (by assumption) hB | exact Osl.rd (by assumption) | exact Osn.rdR (by assumption)) (by first | assumption | omega | (simp only [marks_len]; omega)) (by first | assumption | omega | (simp only [marks_len]; omega)) (by first | assumption | omega | (simp only [marks_len]; omega)) (by first | assumption | omega | (simp only [marks_len]; omega)) (by first | assumption | omega | (simp only [marks_len]; omega)) (by first | assumption | omega | (simp only [marks_len]; omega)) (by first | omega | (have hq1 := treeL_len1 (rs := xa2) (wd := xs) (a := (xa2.getD r (0, 0, 0, 0)).2.1) hs1.1; simp only [List.length_append, List.length_cons, List.length_nil]; omega) | (simp only [List.length_append, List.length_cons, List.length_nil]; omega)) (by omega)) (fun rv2 w9 hR => ?_))
    have hlt2 := hb2.ltO
    have hlt3 := hb3.ltO
    have hlt4 := hb4.ltO
    have hlt5 := ho5.ltO
    have hlt7 := hb7.ltO
    have hlt9 := ho9.ltO
    obtain ⟨hUC10, v11, og11, rfl, ho11, hr11⟩ := hR
    have hl11 := Lo.ogr hl9 hB hr11
    have hd2_11 := Dj.ogr hd2_9 hlt2 hr11
    have hd3_11 := Dj.ogr hd3_9 hlt3 hr11
    have hd4_11 := Dj.ogr hd4_9 hlt4 hr11
    have hd5_11 := Dj.ogr hd5_9 hlt5 hr11
    have hd7_11 := Dj.ogr hd7_9 hlt7 hr11
    have hkB_11 := OkB.ogr hkB_9 hUB.size hr11
    have hgB_11 := OgR.trans hgB_9 hUB.size hr11
    have hUB := hUB.trans hUC10 ⟨hkB_9, trivial⟩
    have hb2 := hb2.loop hUC10 ⟨hd2_9, trivial⟩
    have hb3 := hb3.loop hUC10 ⟨hd3_9, trivial⟩
    have hb4 := hb4.loop hUC10 ⟨hd4_9, trivial⟩
    have ho5 := ho5.loop hUC10 ⟨hd5_9, trivial⟩
    have hb7 := hb7.loop hUC10 ⟨hd7_9, trivial⟩
    have hB := hB.loop hUC10 ⟨hl9, trivial⟩
    refine WL.asg rfl rfl ?_
    refine WL.nilS ?_
    refine CW.seq ?_
    refine CW.reg ?_
    refine WL.mv rfl rfl ?_
    refine WL.asg rfl rfl ?_
    refine WL.nilS ?_
    refine CW.ret ?_
    refine RQ.r1 rfl ?_
    refine ⟨hUB, rv2, og11, ?_, osE ho11 ?_, hgB_11⟩
    · skip
      rfl
    · skip
      first | exact treeL_nodeU hg hF (by assumption) | exact congrArg (us ++ ·) (treeL_leaf hF (by assumption))
  try simp only [nq] at hc1
  refine CW.skipS ?_
  refine CW.seq ?_
  refine CW.reg ?_
  refine WL.mv rfl rfl ?_
  refine WL.asg rfl rfl ?_
  refine WL.nilS ?_
  refine CW.ret ?_
  refine RQ.r1 rfl ?_
  refine ⟨hUB, v6, og6, ?_, osE ho6 ?_, hgB_6⟩
  · skip
    rfl
  · skip
    first | exact treeL_nodeU hg hF (by assumption) | exact congrArg (us ++ ·) (treeL_leaf hF (by assumption))
theorem c_impl_Grammar_rulesOf {w : World} {b : World} {a0 : Int} {a1 : Int} {va2 : Value} {xa2 : List R4} {va : Value} {og : Option Nat} {us : List Int} {pc : Addr} {xs ys : List Int} {i j : Nat} {nm : Int} (hB0 : Ext b w) (ht_va : Osl VI w og va (us)) (htl_va : Lo b og) (htb_pc : Bx w pc (List.map VI (ys))) (htbd_pc_va : Dj (some pc.block) og) (ha2 : Rd ER b va2 xa2) (hg : gramV a0 a1 xa2) (h12 : 1 ≤ xs.length ∧ xs.length ≤ 12) (hT : TCT 1099511627776 xa2 xs a0 ys (xs.length + 1) 0) (hij : i < j ∧ j ≤ xs.length) (hnm : 0 ≤ nm ∧ nm < a0) (hlt : co ys i j nm < 1099511627776) (hus : us.length + 2 * (j - i) ≤ 48) : Calls Try.prog 112 #[.agg #[.int .i64 a0, .int .i64 a1, va2], va, .pointer (some pc), .int .i64 (i : Nat), .int .i64 (j : Nat), .int .i64 nm] w (Ret1 (fun v w' => UpdL [og] w w' ∧ ∃ u og_u, v = u ∧ Osl VI w' og_u u (us ++ treeL xa2 xs i j nm) ∧ OgR w og og_u)) := c_impl_Grammar_rulesOf_n _ hB0 ht_va htl_va htb_pc htbd_pc_va ha2 hg h12 hT hij hnm hlt hus (Nat.lt_succ_self _)
theorem c_impl_ParseTree {w : World} {a0 : Int} {a1 : Int} {va2 : Value} {xa2 : List R4} {vw : Value} {xs : List Int} (ha2 : Rd ER w va2 xa2) (hw : Rd EI w vw xs) : Calls Try.prog 27 #[.agg #[.int .i64 a0, .int .i64 a1, va2], vw] w (Ret1 (fun v w' => Ext w w' ∧ ∃ u og_u, v = .tuple #[u, .int .i64 (onI (canP a0 a1 xa2 xs) (leastC xa2 xs 0 xs.length 0)), .bool (canP a0 a1 xa2 xs)] ∧ Osl VI w' og_u u (onT (canP a0 a1 xa2 xs) (treeL xa2 xs 0 xs.length 0)) ∧ Lo w og_u)) := by
  have hB : Ext w w := Ext.refl w
  have hla2 := ha2.leI; have hlw := hw.leI
  refine callsOf (vs := [_, _]) Try.func27 rfl Try.ntmps27 rfl rfl ?_
  refine CW.seq ?_
  refine CW.reg ?_
  refine WL.op rfl (OpK.box rfl rfl (by first | exact Rd.cells1 (by assumption) | exact Osl.cells1 (by assumption) | exact Osn.cells1 (by assumption) | exact Rd.cells1 (NL.rd (by assumption)) | exact Inn.cell1 (by assumption) (by omega) | assumption | rfl) (fun b1 w1 hXw1 hb1 hge1 => ?_))
  have hl1 := Lo.new hB hge1
  have hB := hB.trans hXw1
  refine WL.asg rfl rfl ?_
  refine WL.asg rfl rfl ?_
  refine WL.asg rfl rfl ?_
  refine WL.nilS ?_
  refine CW.seq ?_
  refine CW.seq ?_
  refine CW.reg ?_
  refine WL.pure rfl rfl rfl (PV.loadA T.ag33 rfl hb1.cells (Ext.refl _) rfl) ?_
  refine WL.mv rfl rfl ?_
  refine WL.op rfl (OpK.callR rfl T.cf110 rfl (c_impl_Grammar_has (by first | assumption | exact Rd.up (by assumption) hB | exact Osl.rd (by assumption) | exact Osn.rdR (by assumption)) (by first | assumption | exact Rd.up (by assumption) hB | exact Osl.rd (by assumption) | exact Osn.rdR (by assumption))) (fun w2 hXw2 => ?_))
  have hB := hB.trans hXw2
  have hb1 := hb1.up hXw2
  refine WL.pure rfl rfl rfl (PV.not rfl) ?_
  refine WL.nilS ?_
  refine CW.cond rfl (fun hc1 => ?_) (fun hc1 => ?_)
  · skip
    try simp only [nq] at hc1
    refine CW.seq ?_
    refine CW.reg ?_
    refine WL.asg rfl rfl ?_
    refine WL.asg rfl rfl ?_
    refine WL.asg rfl rfl ?_
    refine WL.nilS ?_
    refine CW.ret ?_
    refine RQ.then ?_
    refine RQ.r3 rfl rfl rfl ?_
    refine ⟨hB, (.slice none 0 0), none, ?_, osE (Osl.nil _ _) ?_, Lo.nl _⟩
    · skip
      first | exact tE3 rfl (iE (by rw [onI_no (by rw [← canP_n1 (by assumption)]; decide)])) (bE (canP_n1 (by assumption))) | exact tE3 rfl (iE (by rw [onI_no (by rw [← canP_n2 hnd]; decide)])) (bE (canP_n2 hnd)) | exact tE3 rfl (iE (by rw [onI_yes (canP_y (by assumption) hyd).symm]; exact htd)) (bE (canP_y (by assumption) hyd))
    · skip
      first | (rw [onT_no (by rw [← canP_n1 (by assumption)]; decide)]; done) | (rw [onT_no (by rw [← canP_n2 hnd]; decide)]; done) | (rw [onT_yes (canP_y (by assumption) hyd).symm]; done) | (rw [onT_yes (canP_y (by assumption) hyd).symm]; exact List.nil_append _)
  try simp only [nq] at hc1
  refine CW.skipS ?_
  refine CW.seq ?_
  refine CW.reg ?_
  have hcan := canB_y (by assumption : canB a0 a1 xa2 xs = true); have hg := hcan.1; have h12 := hcan.2.1; have hg1 := hg.1
  refine WL.pure rfl rfl rfl (PV.loadA T.ag33 rfl hb1.cells (Ext.refl _) rfl) ?_
  refine WL.mv rfl rfl ?_
  refine WL.op rfl (OpK.call rfl T.cf111 rfl (c_impl_Grammar_choices (by first | assumption | exact Rd.up (by assumption) hB | exact Osl.rd (by assumption) | exact Osn.rdR (by assumption)) (by first | assumption | exact Rd.up (by assumption) hB | exact Osl.rd (by assumption) | exact Osn.rdR (by assumption)) (by first | assumption | omega | (simp only [marks_len]; omega)) (by first | assumption | omega | (simp only [marks_len]; omega))) (fun rv1 w3 hR => ?_))
  obtain ⟨hXw3, ys3, b2, rfl, hm4, hb2, hge2⟩ := hR
  have hl2 := Lo.new hB hge2
  have hd1_2 := Dj.new hb1.ltO hge2
  have hB := hB.trans hXw3
  have hb1 := hb1.up hXw3
  refine WL.asg rfl rfl ?_
  refine WL.nilS ?_
  refine CW.seq ?_
  refine CW.reg ?_
  refine WL.mv rfl rfl ?_
  refine WL.mv rfl rfl ?_
  refine WL.pure rfl rfl rfl ((by first | exact PV.len rfl (by assumption) T.sl28 | exact PV.lenOs rfl (by assumption) T.sl28 | exact PV.len rfl (NL.rd (by assumption)) T.sl28 | exact PV.len rfl (Inn.rd (by assumption) (by omega)) T.sl28)) ?_
  have hT := (by assumption : TCT 1099511627776 xa2 xs a0 _ (xs.length + 1) 0); have hTn := hT.1; have ot := hT.at (i := 0) (j := xs.length) (a := 0) (by omega) (by omega) (by omega) (by omega) (by omega); have oc := hT.topC (k := 0 * 312 + xs.length * 24 + 0 * 3) (by omega) (by omega) (by omega)
  refine WL.pure rfl rfl rfl (PV.nilCheck rfl) ?_
  refine WL.pure rfl rfl rfl (PV.ixN (i := 0) T.ar220 rfl hb2.spot rfl (by omega)) ?_
  refine WL.pure rfl rfl rfl ((by first | exact PV.ixPN T.ar130 rfl rfl (by omega) | exact PV.ixPZ T.ar130 rfl rfl (by omega))) ?_
  refine WL.pure rfl rfl rfl (PV.ixPN (i := 0) T.ar129 rfl rfl (by omega)) ?_
  refine WL.pure rfl rfl rfl (PV.fieldAddrP0 T.fl128_0 rfl) ?_
  refine WL.pure rfl rfl rfl (PV.loadArr 0 T.na2 rfl (Bx.cells hb2) (Ext.refl _) (by first | omega | (simp only [List.length_set]; omega))) ?_
  refine WL.asg rfl rfl ?_
  refine WL.nilS ?_
  refine CW.seq ?_
  refine CW.seq ?_
  refine CW.reg ?_
  refine WL.mv rfl rfl ?_
  refine WL.pure rfl rfl rfl (PV.geq rfl rfl) ?_
  refine WL.nilS ?_
  refine CW.cond rfl (fun hc2 => ?_) (fun hc2 => ?_)
  · skip
    try simp only [nq] at hc2
    have hnd := (oc.none hg (by omega) (by omega) (by omega)).2
    refine CW.seq ?_
    refine CW.reg ?_
    refine WL.asg rfl rfl ?_
    refine WL.asg rfl rfl ?_
    refine WL.asg rfl rfl ?_
    refine WL.nilS ?_
    refine CW.ret ?_
    refine RQ.then ?_
    refine RQ.r3 rfl rfl rfl ?_
    refine ⟨hB, (.slice none 0 0), none, ?_, osE (Osl.nil _ _) ?_, Lo.nl _⟩
    · skip
      first | exact tE3 rfl (iE (by rw [onI_no (by rw [← canP_n1 (by assumption)]; decide)])) (bE (canP_n1 (by assumption))) | exact tE3 rfl (iE (by rw [onI_no (by rw [← canP_n2 hnd]; decide)])) (bE (canP_n2 hnd)) | exact tE3 rfl (iE (by rw [onI_yes (canP_y (by assumption) hyd).symm]; exact htd)) (bE (canP_y (by assumption) hyd))
    · skip
      first | (rw [onT_no (by rw [← canP_n1 (by assumption)]; decide)]; done) | (rw [onT_no (by rw [← canP_n2 hnd]; decide)]; done) | (rw [onT_yes (canP_y (by assumption) hyd).symm]; done) | (rw [onT_yes (canP_y (by assumption) hyd).symm]; exact List.nil_append _)
  try simp only [nq] at hc2
  have htd := (oc.told hg (by omega) (by omega) (by omega)).1; have hyd := (oc.rng hg (by omega) (by omega)).2.2.1 (by omega); have hlt0 := (ot.cost.rng hg (by omega) (by omega)).2.2.2 hyd
  refine CW.skipS ?_
  refine CW.seq ?_
  refine CW.reg ?_
  refine WL.pure rfl rfl rfl (PV.loadA T.ag33 rfl hb1.cells (Ext.refl _) rfl) ?_
  refine WL.mv rfl rfl ?_
  refine WL.mv rfl rfl ?_
  refine WL.pure rfl rfl rfl ((by first | exact PV.len rfl (by assumption) T.sl28 | exact PV.lenOs rfl (by assumption) T.sl28 | exact PV.len rfl (NL.rd (by assumption)) T.sl28 | exact PV.len rfl (Inn.rd (by assumption) (by omega)) T.sl28)) ?_
  have ho6 : Osl VI w3 none (.slice none 0 0) [] := (Osl.nil _ _)
  have hl6 : Lo w none := Lo.nl _
  have hd1_6 : Dj (some b1.block) none := Dj.nlR _
  have hd2_6 : Dj (some b2.block) none := Dj.nlR _
  refine WL.op rfl (OpK.call rfl T.cf112 rfl (c_impl_Grammar_rulesOf hB (by first | assumption | exact Dj.symm (by assumption)) (by first | assumption | exact Lo.nl _) (by first | assumption | exact Lo.nl _) (by first | assumption | exact Dj.symm (by assumption)) (by first | assumption | exact Rd.up (by assumption) hB | exact Osl.rd (by assumption) | exact Osn.rdR (by assumption)) (by first | assumption | omega | (simp only [marks_len]; omega)) (by first | assumption | omega | (simp only [marks_len]; omega)) (by first | assumption | omega | (simp only [marks_len]; omega)) (by first | assumption | omega | (simp only [marks_len]; omega)) (by first | assumption | omega | (simp only [marks_len]; omega)) (by first | assumption | omega | (simp only [marks_len]; omega)) (by first | omega | (have hq1 := treeL_len1 (rs := xa2) (wd := xs) (a := (xa2.getD r (0, 0, 0, 0)).2.1) hs1.1; simp only [List.length_append, List.length_cons, List.length_nil]; omega) | (simp only [List.length_append, List.length_cons, List.length_nil]; omega))) (fun rv2 w4 hR => ?_))
  have hlt1 := hb1.ltO
  have hlt2 := hb2.ltO
  have hlt6 := ho6.ltO
  obtain ⟨hUC5, v7, og7, rfl, ho7, hr7⟩ := hR
  have hl7 := Lo.ogr hl6 hB hr7
  have hd1_7 := Dj.ogr hd1_6 hlt1 hr7
  have hd2_7 := Dj.ogr hd2_6 hlt2 hr7
  have hb1 := hb1.loop hUC5 ⟨hd1_6, trivial⟩
  have hb2 := hb2.loop hUC5 ⟨hd2_6, trivial⟩
  have hB := hB.loop hUC5 ⟨hl6, trivial⟩
  refine WL.mv rfl rfl ?_
  refine WL.asg rfl rfl ?_
  refine WL.asg rfl rfl ?_
  refine WL.asg rfl rfl ?_
  refine WL.nilS ?_
  refine CW.ret ?_
  refine RQ.r3 rfl rfl rfl ?_
  refine ⟨hB, rv2, og7, ?_, osE ho7 ?_, hl7⟩
  · skip
    first | exact tE3 rfl (iE (by rw [onI_no (by rw [← canP_n1 (by assumption)]; decide)])) (bE (canP_n1 (by assumption))) | exact tE3 rfl (iE (by rw [onI_no (by rw [← canP_n2 hnd]; decide)])) (bE (canP_n2 hnd)) | exact tE3 rfl (iE (by rw [onI_yes (canP_y (by assumption) hyd).symm]; exact htd)) (bE (canP_y (by assumption) hyd))
  · skip
    first | (rw [onT_no (by rw [← canP_n1 (by assumption)]; decide)]; done) | (rw [onT_no (by rw [← canP_n2 hnd]; decide)]; done) | (rw [onT_yes (canP_y (by assumption) hyd).symm]; done) | (rw [onT_yes (canP_y (by assumption) hyd).symm]; exact List.nil_append _)
theorem c_impl_CountTrees {w : World} {a0 : Int} {a1 : Int} {va2 : Value} {xa2 : List R4} {vw : Value} {xs : List Int} (ha2 : Rd ER w va2 xa2) (hw : Rd EI w vw xs) : Calls Try.prog 28 #[.agg #[.int .i64 a0, .int .i64 a1, va2], vw] w (Ret1 (RQt (.tuple #[.int .i64 (onI (canT a0 a1 xa2 xs) (cnt xa2 xs 0 xs.length 0)), .bool (canT a0 a1 xa2 xs)]) w)) := by
  have hB : Ext w w := Ext.refl w
  have hla2 := ha2.leI; have hlw := hw.leI
  refine callsOf (vs := [_, _]) Try.func28 rfl Try.ntmps28 rfl rfl ?_
  refine CW.seq ?_
  refine CW.reg ?_
  refine WL.op rfl (OpK.box rfl rfl (by first | exact Rd.cells1 (by assumption) | exact Osl.cells1 (by assumption) | exact Osn.cells1 (by assumption) | exact Rd.cells1 (NL.rd (by assumption)) | exact Inn.cell1 (by assumption) (by omega) | assumption | rfl) (fun b1 w1 hXw1 hb1 hge1 => ?_))
  have hl1 := Lo.new hB hge1
  have hB := hB.trans hXw1
  refine WL.op rfl (OpK.box rfl rfl (by first | exact Rd.cells1 (by assumption) | exact Osl.cells1 (by assumption) | exact Osn.cells1 (by assumption) | exact Rd.cells1 (NL.rd (by assumption)) | exact Inn.cell1 (by assumption) (by omega) | assumption | rfl) (fun b2 w2 hXw2 hb2 hge2 => ?_))
  have hl2 := Lo.new hB hge2
  have hd1_2 := Dj.new hb1.ltO hge2
  have hB := hB.trans hXw2
  have hb1 := hb1.up hXw2
  refine WL.asg rfl rfl ?_
  refine WL.asg rfl rfl ?_
  refine WL.nilS ?_
  refine CW.seq ?_
  refine CW.seq ?_
  refine CW.reg ?_
  refine WL.pure rfl rfl rfl (PV.loadA T.ag33 rfl hb1.cells (Ext.refl _) rfl) ?_
  refine WL.pure rfl rfl rfl (PV.load0 T.na28 rfl hb2.cells (Ext.refl _) rfl) ?_
  refine WL.op rfl (OpK.callR rfl T.cf110 rfl (c_impl_Grammar_has (by first | assumption | exact Rd.up (by assumption) hB | exact Osl.rd (by assumption) | exact Osn.rdR (by assumption)) (by first | assumption | exact Rd.up (by assumption) hB | exact Osl.rd (by assumption) | exact Osn.rdR (by assumption))) (fun w3 hXw3 => ?_))
  have hB := hB.trans hXw3
  have hb1 := hb1.up hXw3
  have hb2 := hb2.up hXw3
  refine WL.pure rfl rfl rfl (PV.not rfl) ?_
  refine WL.nilS ?_
  refine CW.cond rfl (fun hc1 => ?_) (fun hc1 => ?_)
  · skip
    try simp only [nq] at hc1
    refine CW.seq ?_
    refine CW.reg ?_
    refine WL.asg rfl rfl ?_
    refine WL.asg rfl rfl ?_
    refine WL.nilS ?_
    refine CW.ret ?_
    refine RQ.then ?_
    refine RQ.r2 rfl rfl ?_
    refine ⟨?_, hB⟩
    first | exact tE2 (iE (by rw [onI_no (by rw [← canT_n1 (by assumption)]; decide)])) (bE (canT_n1 (by assumption))) | exact tE2 (iE (by rw [onI_no (by rw [← canT_n2 hno]; decide)])) (bE (canT_n2 hno)) | exact tE2 (iE (by rw [onI_yes (canT_y (by assumption) hyo).symm]; exact (congrArg (fun q => List.getD _ q (0 : Int)) (by omega)).trans hval)) (bE (canT_y (by assumption) hyo))
  try simp only [nq] at hc1
  refine CW.skipS ?_
  refine CW.seq ?_
  refine CW.reg ?_
  have hcan := canB_y (by assumption : canB a0 a1 xa2 xs = true); have hg := hcan.1; have h12 := hcan.2.1; have hg1 := hg.1; have hT0 := TD.zero (sn := snC (true = true) xa2 xs) (d := 0) (v0 := 0) (wd := xs) (nm := a0) (W := 13) (Nm := 8) (N := 1248) (fun i j a h1 h2 h3 h4 => by omega)
  refine WL.pure rfl rfl rfl (PV.buildArr (f := VI) (x0 := 0) T.az138) ?_
  refine WL.op rfl (OpK.boxArr (f := VI) rfl rfl (fun b3 w4 hXw4 hb3 hge3 => ?_))
  have hl3 := Lo.new hB hge3
  have hd1_3 := Dj.new hb1.ltO hge3
  have hd2_3 := Dj.new hb2.ltO hge3
  have hB := hB.trans hXw4
  have hb1 := hb1.up hXw4
  have hb2 := hb2.up hXw4
  refine WL.op rfl (OpK.alloc rfl T.zv134 rfl (fun b4 w5 hXw5 hb4 hge4 => ?_))
  have hl4 := Lo.new hB hge4
  have hd1_4 := Dj.new hb1.ltO hge4
  have hd2_4 := Dj.new hb2.ltO hge4
  have hd3_4 := Dj.new hb3.ltO hge4
  have hB := hB.trans hXw5
  have hb1 := hb1.up hXw5
  have hb2 := hb2.up hXw5
  have hb3 := hb3.up hXw5
  refine WL.op rfl (OpK.storeB0 T.sz134 rfl rfl (by first | rfl | exact Osl.oneCell (by assumption) | exact Osn.oneCell (by assumption) | exact Rd.oneCell (by assumption) | exact Rd.oneCell (NL.rd (by assumption)) | assumption) hb4 (fun w6 hXw6 hb4 => ?_))
  have hB := hB.updL hXw6 hl4
  have hb1 := hb1.updD hXw6 hd1_4
  have hb2 := hb2.updD hXw6 hd2_4
  have hb3 := hb3.updD hXw6 hd3_4
  refine WL.nilS ?_
  refine CW.seq ?_
  refine CW.reg ?_
  refine WL.op rfl (OpK.alloc rfl T.zv4 rfl (fun b5 w7 hXw7 hb5 hge5 => ?_))
  have hl5 := Lo.new hB hge5
  have hd1_5 := Dj.new hb1.ltO hge5
  have hd2_5 := Dj.new hb2.ltO hge5
  have hd3_5 := Dj.new hb3.ltO hge5
  have hd4_5 := Dj.new hb4.ltO hge5
  have hB := hB.trans hXw7
  have hb1 := hb1.up hXw7
  have hb2 := hb2.up hXw7
  have hb3 := hb3.up hXw7
  have hb4 := hb4.up hXw7
  refine WL.op rfl (OpK.storeB0 T.sz4 rfl rfl (by first | rfl | exact Osl.oneCell (by assumption) | exact Osn.oneCell (by assumption) | exact Rd.oneCell (by assumption) | exact Rd.oneCell (NL.rd (by assumption)) | assumption) hb5 (fun w8 hXw8 hb5 => ?_))
  have hB := hB.updL hXw8 hl5
  have hb1 := hb1.updD hXw8 hd1_5
  have hb2 := hb2.updD hXw8 hd2_5
  have hb3 := hb3.updD hXw8 hd3_5
  have hb4 := hb4.updD hXw8 hd4_5
  refine WL.nilS ?_
  refine CW.seq ?_
  refine CW.reg ?_
  refine WL.pure rfl rfl rfl (PV.load0 T.na28 rfl hb2.cells (Ext.refl _) rfl) ?_
  refine WL.pure rfl rfl rfl ((by first | exact PV.len rfl (by assumption) T.sl28 | exact PV.lenOs rfl (by assumption) T.sl28 | exact PV.len rfl (NL.rd (by assumption)) T.sl28 | exact PV.len rfl (Inn.rd (by assumption) (by omega)) T.sl28)) ?_
  refine WL.pure rfl rfl rfl (PV.makeFunc (fs := []) (cs := [.tmp 2, .tmp 6, .tmp 3, .tmp 7]) rfl rfl) ?_
  refine WL.op rfl (OpK.call rfl T.cf113 rfl (c_impl_eachPart_impl_CountTrees_1 hB (by first | assumption | exact Lo.nl _) (by first | assumption | exact Lo.nl _) (by first | assumption | exact Lo.nl _) (by first | assumption | exact Lo.nl _) (by first | assumption | exact Lo.nl _) (by first | assumption | exact Lo.nl _) (by first | assumption | exact Lo.nl _) (by first | assumption | exact Dj.symm (by assumption)) (by first | assumption | exact Dj.symm (by assumption)) (by first | assumption | exact Dj.symm (by assumption)) (by first | assumption | exact Dj.symm (by assumption)) (by first | assumption | exact Dj.symm (by assumption)) (by first | assumption | exact Dj.symm (by assumption)) (by first | assumption | exact Dj.symm (by assumption)) (by first | assumption | exact Rd.up (by assumption) hB | exact Osl.rd (by assumption) | exact Osn.rdR (by assumption)) (by first | assumption | exact Rd.up (by assumption) hB | exact Osl.rd (by assumption) | exact Osn.rdR (by assumption)) (by first | assumption | omega | (simp only [marks_len]; omega)) (by first | assumption | omega | (simp only [marks_len]; omega)) (by first | assumption | omega | (simp only [marks_len]; omega)) (by first | assumption | exact fun h9 => by cases h9)) (fun rv1 w9 hR => ?_))
  obtain ⟨hUC6, zs7, f28, rfl, hm9, hm10, hbn3, hbn5⟩ := hR
  have hb1 := hb1.loop hUC6 ⟨hd1_3, hd1_5, trivial⟩
  have hb2 := hb2.loop hUC6 ⟨hd2_3, hd2_5, trivial⟩
  have hb4 := hb4.loop hUC6 ⟨(Dj.symm hd3_4), hd4_5, trivial⟩
  have hB := hB.loop hUC6 ⟨hl3, hl5, trivial⟩
  have hb3 := hbn3
  have hb5 := hbn5
  refine WL.nilS ?_
  refine CW.seq ?_
  refine CW.seq ?_
  refine CW.reg ?_
  refine WL.pure rfl rfl rfl (PV.load0 T.na4 rfl hb5.cells (Ext.refl _) rfl) ?_
  refine WL.pure rfl rfl rfl (PV.not rfl) ?_
  refine WL.nilS ?_
  refine CW.cond rfl (fun hc2 => ?_) (fun hc2 => ?_)
  · skip
    try simp only [nq] at hc2
    have hno := (by assumption : _ = false → ¬ okT xa2 xs a0) (by assumption)
    refine CW.seq ?_
    refine CW.reg ?_
    refine WL.asg rfl rfl ?_
    refine WL.asg rfl rfl ?_
    refine WL.nilS ?_
    refine CW.ret ?_
    refine RQ.then ?_
    refine RQ.r2 rfl rfl ?_
    refine ⟨?_, hB⟩
    first | exact tE2 (iE (by rw [onI_no (by rw [← canT_n1 (by assumption)]; decide)])) (bE (canT_n1 (by assumption))) | exact tE2 (iE (by rw [onI_no (by rw [← canT_n2 hno]; decide)])) (bE (canT_n2 hno)) | exact tE2 (iE (by rw [onI_yes (canT_y (by assumption) hyo).symm]; exact (congrArg (fun q => List.getD _ q (0 : Int)) (by omega)).trans hval)) (bE (canT_y (by assumption) hyo))
  try simp only [nq] at hc2
  have hTC := (by assumption : TD (snC (_ = true) xa2 xs) 0 0 xs a0 13 8 1248 _ (xs.length + 1) 0); have hTn := hTC.n; have hyo := TDC.okT hTC (by assumption); have hval := TDC.val (i := 0) (j := xs.length) (a := 0) hTC (by assumption) (by omega) (by omega) (by omega)
  refine CW.skipS ?_
  refine CW.seq ?_
  refine CW.draw T.mixed (by kernel_rfl) (fun _ _ _ _ _ h => h) (fun w8 w9 => Upd none w8 w9) 10 (.take 0 (.take 1 (.take 2 (.take 3 (.take 4 (.take 5 (.take 6 (.take 7 (.take 8 (.take 9 .done)))))))))) (by kernel_rfl) (fun w10 hXd => ?_)
  have hB := hB.trans hXd
  have hb1 := hb1.up hXd
  have hb2 := hb2.up hXd
  have hb3 := hb3.up hXd
  have hb4 := hb4.up hXd
  have hb5 := hb5.up hXd
  have hBr := hB
  have hS : Upd none w10 w10 := Ext.toUpd (Ext.refl _)
  refine HP.take rfl rfl rfl rfl hS (fun wS hS1 => PV.load0 T.na134 rfl (Bx.cells (Bx.updD (by assumption) hS1 (Dj.nlR _))) (Ext.refl _) rfl) ?_
  refine HP.take rfl rfl rfl rfl hS (fun wS hS1 => PV.load0 T.na28 rfl (Bx.cells (Bx.updD (by assumption) hS1 (Dj.nlR _))) (Ext.refl _) rfl) ?_
  refine HP.take rfl rfl rfl rfl hS (fun wS hS1 => (by first | exact PV.len rfl (by assumption) T.sl28 | exact PV.lenOs rfl (by assumption) T.sl28 | exact PV.len rfl (NL.rd (by assumption)) T.sl28 | exact PV.len rfl (Inn.rd (by assumption) (by omega)) T.sl28)) ?_
  refine HP.take rfl rfl rfl rfl hS (fun wS hS1 => PV.nilCheck rfl) ?_
  refine HP.take rfl rfl rfl rfl hS (fun wS hS1 => PV.ixN (i := 0) T.ar138 rfl hb3.spot rfl (by omega)) ?_
  refine HP.take rfl rfl rfl rfl hS (fun wS hS1 => (by first | exact PV.ixPN T.ar136 rfl rfl (by omega) | exact PV.ixPZ T.ar136 rfl rfl (by omega))) ?_
  refine HP.take rfl rfl rfl rfl hS (fun wS hS1 => PV.ixPN1 (i := 0) T.ar135 rfl rfl (by omega)) ?_
  refine HP.take rfl rfl rfl rfl hS (fun wS hS1 => PV.loadArr 0 T.na2 rfl (Bx.cells (Bx.updD hb3 hS1 (Dj.nlR _))) (Ext.refl _) (by first | omega | (simp only [List.length_set]; omega))) ?_
  refine HP.take rfl rfl rfl rfl hS (fun wS hS1 => PV.assign rfl) ?_
  refine HP.take rfl rfl rfl rfl hS (fun wS hS1 => PV.assign rfl) ?_
  refine HP.doneS ?_
  refine CW.ret ?_
  refine RQ.r2 rfl rfl ?_
  refine ⟨?_, hB⟩
  first | exact tE2 (iE (by rw [onI_no (by rw [← canT_n1 (by assumption)]; decide)])) (bE (canT_n1 (by assumption))) | exact tE2 (iE (by rw [onI_no (by rw [← canT_n2 hno]; decide)])) (bE (canT_n2 hno)) | exact tE2 (iE (by rw [onI_yes (canT_y (by assumption) hyo).symm]; exact (congrArg (fun q => List.getD _ q (0 : Int)) (by omega)).trans hval)) (bE (canT_y (by assumption) hyo))
theorem c_impl_Grammar_made {w : World} {a0 : Int} {a1 : Int} {va2 : Value} {xa2 : List R4} {vw : Value} {xs : List Int} (ha2 : Rd ER w va2 xa2) (hw : Rd EI w vw xs) (hg : gramV a0 a1 xa2) (h12 : 1 ≤ xs.length ∧ xs.length ≤ 12) : Calls Try.prog 115 #[.agg #[.int .i64 a0, .int .i64 a1, va2], vw] w (Ret1 (fun v w' => Ext w w' ∧ ∃ (ys : List Bool) (p : Addr), v = .pointer (some p) ∧ (TCB xa2 xs a0 13 8 1248 ys (xs.length + 1) 0) ∧ Bx w' p (List.map VB (ys)) ∧ w.heap.size ≤ p.block)) := by
  have hB : Ext w w := Ext.refl w
  have hla2 := ha2.leI; have hlw := hw.leI; have hg1 := hg.1
  refine callsOf (vs := [_, _]) Try.func115 rfl Try.ntmps115 rfl rfl ?_
  refine CW.seq ?_
  refine CW.reg ?_
  refine WL.op rfl (OpK.box rfl rfl (by first | exact Rd.cells1 (by assumption) | exact Osl.cells1 (by assumption) | exact Osn.cells1 (by assumption) | exact Rd.cells1 (NL.rd (by assumption)) | exact Inn.cell1 (by assumption) (by omega) | assumption | rfl) (fun b1 w1 hXw1 hb1 hge1 => ?_))
  have hl1 := Lo.new hB hge1
  have hB := hB.trans hXw1
  refine WL.op rfl (OpK.box rfl rfl (by first | exact Rd.cells1 (by assumption) | exact Osl.cells1 (by assumption) | exact Osn.cells1 (by assumption) | exact Rd.cells1 (NL.rd (by assumption)) | exact Inn.cell1 (by assumption) (by omega) | assumption | rfl) (fun b2 w2 hXw2 hb2 hge2 => ?_))
  have hl2 := Lo.new hB hge2
  have hd1_2 := Dj.new hb1.ltO hge2
  have hB := hB.trans hXw2
  have hb1 := hb1.up hXw2
  refine WL.asg rfl rfl ?_
  refine WL.nilS ?_
  refine CW.seq ?_
  refine CW.reg ?_
  refine WL.pure rfl rfl rfl (PV.buildArr (f := VB) (x0 := false) T.az223) ?_
  refine WL.op rfl (OpK.boxArr (f := VB) rfl rfl (fun b3 w3 hXw3 hb3 hge3 => ?_))
  have hl3 := Lo.new hB hge3
  have hd1_3 := Dj.new hb1.ltO hge3
  have hd2_3 := Dj.new hb2.ltO hge3
  have hB := hB.trans hXw3
  have hb1 := hb1.up hXw3
  have hb2 := hb2.up hXw3
  refine WL.op rfl (OpK.alloc rfl T.zv142 rfl (fun b4 w4 hXw4 hb4 hge4 => ?_))
  have hl4 := Lo.new hB hge4
  have hd1_4 := Dj.new hb1.ltO hge4
  have hd2_4 := Dj.new hb2.ltO hge4
  have hd3_4 := Dj.new hb3.ltO hge4
  have hB := hB.trans hXw4
  have hb1 := hb1.up hXw4
  have hb2 := hb2.up hXw4
  have hb3 := hb3.up hXw4
  refine WL.op rfl (OpK.storeB0 T.sz142 rfl rfl (by first | rfl | exact Osl.oneCell (by assumption) | exact Osn.oneCell (by assumption) | exact Rd.oneCell (by assumption) | exact Rd.oneCell (NL.rd (by assumption)) | assumption) hb4 (fun w5 hXw5 hb4 => ?_))
  have hB := hB.updL hXw5 hl4
  have hb1 := hb1.updD hXw5 hd1_4
  have hb2 := hb2.updD hXw5 hd2_4
  have hb3 := hb3.updD hXw5 hd3_4
  refine WL.nilS ?_
  refine CW.seq ?_
  refine CW.reg ?_
  have hT0 := TCB.zero (rs := xa2) (wd := xs) (nm := a0) (by omega) (by omega)
  refine WL.pure rfl rfl rfl (PV.load0 T.na28 rfl hb2.cells (Ext.refl _) rfl) ?_
  refine WL.pure rfl rfl rfl ((by first | exact PV.len rfl (by assumption) T.sl28 | exact PV.lenOs rfl (by assumption) T.sl28 | exact PV.len rfl (NL.rd (by assumption)) T.sl28 | exact PV.len rfl (Inn.rd (by assumption) (by omega)) T.sl28)) ?_
  refine WL.pure rfl rfl rfl (PV.makeFunc (fs := []) (cs := [.tmp 2, .tmp 5, .tmp 3]) rfl rfl) ?_
  refine WL.op rfl (OpK.call rfl T.cf113 rfl (c_impl_eachPart_impl_Grammar_made_1 hB (by first | assumption | exact Lo.nl _) (by first | assumption | exact Lo.nl _) (by first | assumption | exact Lo.nl _) (by first | assumption | exact Lo.nl _) (by first | assumption | exact Lo.nl _) (by first | assumption | exact Dj.symm (by assumption)) (by first | assumption | exact Dj.symm (by assumption)) (by first | assumption | exact Dj.symm (by assumption)) (by first | assumption | exact Rd.up (by assumption) hB | exact Osl.rd (by assumption) | exact Osn.rdR (by assumption)) (by first | assumption | exact Rd.up (by assumption) hB | exact Osl.rd (by assumption) | exact Osn.rdR (by assumption)) (by first | assumption | omega | (simp only [marks_len]; omega)) (by first | assumption | omega | (simp only [marks_len]; omega)) (by first | assumption | omega | (simp only [marks_len]; omega))) (fun rv1 w6 hR => ?_))
  obtain ⟨hUC5, zs6, rfl, hm7, hbn3⟩ := hR
  have hb1 := hb1.loop hUC5 ⟨hd1_3, trivial⟩
  have hb2 := hb2.loop hUC5 ⟨hd2_3, trivial⟩
  have hb4 := hb4.loop hUC5 ⟨(Dj.symm hd3_4), trivial⟩
  have hB := hB.loop hUC5 ⟨hl3, trivial⟩
  have hb3 := hbn3
  refine WL.nilS ?_
  refine CW.seq ?_
  refine CW.reg ?_
  refine WL.pure rfl rfl rfl (PV.load0 T.na142 rfl hb4.cells (Ext.refl _) rfl) ?_
  refine WL.asg rfl rfl ?_
  refine WL.nilS ?_
  refine CW.ret ?_
  refine RQ.r1 rfl ?_
  refine ⟨hB, _, b3, ?_, ?_, hb3, (hl3 _ rfl)⟩
  · skip
    rfl
  · skip
    assumption
theorem c_impl_ChartOf {w : World} {a0 : Int} {a1 : Int} {va2 : Value} {xa2 : List R4} {vw : Value} {xs : List Int} (ha2 : Rd ER w va2 xa2) (hw : Rd EI w vw xs) : Calls Try.prog 29 #[.agg #[.int .i64 a0, .int .i64 a1, va2], vw] w (Ret1 (fun v w' => Ext w w' ∧ ∃ u og_u, v = .tuple #[u, .bool (canB a0 a1 xa2 xs)] ∧ Osl VI w' og_u u (onT (canB a0 a1 xa2 xs) (alS xa2 xs a0 xs.length)) ∧ Lo w og_u)) := by
  have hB : Ext w w := Ext.refl w
  have hla2 := ha2.leI; have hlw := hw.leI
  refine callsOf (vs := [_, _]) Try.func29 rfl Try.ntmps29 rfl rfl ?_
  refine CW.seq ?_
  refine CW.reg ?_
  refine WL.op rfl (OpK.box rfl rfl (by first | exact Rd.cells1 (by assumption) | exact Osl.cells1 (by assumption) | exact Osn.cells1 (by assumption) | exact Rd.cells1 (NL.rd (by assumption)) | exact Inn.cell1 (by assumption) (by omega) | assumption | rfl) (fun b1 w1 hXw1 hb1 hge1 => ?_))
  have hl1 := Lo.new hB hge1
  have hB := hB.trans hXw1
  refine WL.asg rfl rfl ?_
  refine WL.asg rfl rfl ?_
  refine WL.nilS ?_
  refine CW.seq ?_
  refine CW.seq ?_
  refine CW.reg ?_
  refine WL.pure rfl rfl rfl (PV.loadA T.ag33 rfl hb1.cells (Ext.refl _) rfl) ?_
  refine WL.mv rfl rfl ?_
  refine WL.op rfl (OpK.callR rfl T.cf110 rfl (c_impl_Grammar_has (by first | assumption | exact Rd.up (by assumption) hB | exact Osl.rd (by assumption) | exact Osn.rdR (by assumption)) (by first | assumption | exact Rd.up (by assumption) hB | exact Osl.rd (by assumption) | exact Osn.rdR (by assumption))) (fun w2 hXw2 => ?_))
  have hB := hB.trans hXw2
  have hb1 := hb1.up hXw2
  refine WL.pure rfl rfl rfl (PV.not rfl) ?_
  refine WL.nilS ?_
  refine CW.cond rfl (fun hc1 => ?_) (fun hc1 => ?_)
  · skip
    try simp only [nq] at hc1
    refine CW.seq ?_
    refine CW.reg ?_
    refine WL.asg rfl rfl ?_
    refine WL.asg rfl rfl ?_
    refine WL.nilS ?_
    refine CW.ret ?_
    refine RQ.then ?_
    refine RQ.r2 rfl rfl ?_
    refine ⟨hB, (.slice none 0 0), none, ?_, osE (Osl.nil _ _) ?_, Lo.nl _⟩
    · skip
      first | exact tE2 rfl (bE (by assumption : canB a0 a1 xa2 xs = true).symm) | exact tE2 rfl (bE (by assumption : canB a0 a1 xa2 xs = false).symm)
    · skip
      first | (rw [onT_no (by rw [(by assumption : canB a0 a1 xa2 xs = false)]; decide)]; done) | (rw [onT_yes (by assumption), show i = xs.length from (by omega)])
  try simp only [nq] at hc1
  refine CW.skipS ?_
  refine CW.seq ?_
  refine CW.reg ?_
  have hcan := canB_y (by assumption : canB a0 a1 xa2 xs = true); have hg := hcan.1; have h12 := hcan.2.1; have hg1 := hg.1
  refine WL.pure rfl rfl rfl (PV.loadA T.ag33 rfl hb1.cells (Ext.refl _) rfl) ?_
  refine WL.mv rfl rfl ?_
  refine WL.op rfl (OpK.call rfl T.cf115 rfl (c_impl_Grammar_made (by first | assumption | exact Rd.up (by assumption) hB | exact Osl.rd (by assumption) | exact Osn.rdR (by assumption)) (by first | assumption | exact Rd.up (by assumption) hB | exact Osl.rd (by assumption) | exact Osn.rdR (by assumption)) (by first | assumption | omega | (simp only [marks_len]; omega)) (by first | assumption | omega | (simp only [marks_len]; omega))) (fun rv1 w3 hR => ?_))
  obtain ⟨hXw3, ys3, b2, rfl, hm4, hb2, hge2⟩ := hR
  have hl2 := Lo.new hB hge2
  have hd1_2 := Dj.new hb1.ltO hge2
  have hB := hB.trans hXw3
  have hb1 := hb1.up hXw3
  refine WL.asg rfl rfl ?_
  refine WL.nilS ?_
  refine CW.seq ?_
  refine CW.reg ?_
  refine WL.op rfl (OpK.buildS VI (os := []) [] rfl T.sl28 rfl rfl T.zv2 rfl (by intro z hz; cases hz) rfl (fun v5 g5 w4 hXw4 ho5 hge5 => ?_))
  have hl5 := Lo.new hB hge5
  have hd1_5 := Dj.new hb1.ltO hge5
  have hd2_5 := Dj.new hb2.ltO hge5
  have hB := hB.trans hXw4
  have hb1 := hb1.up hXw4
  have hb2 := hb2.up hXw4
  refine WL.asg rfl rfl ?_
  refine WL.nilS ?_
  refine CW.seq ?_
  refine CW.seq ?_
  refine CW.reg ?_
  refine WL.mv rfl rfl ?_
  refine WL.pure rfl rfl rfl ((by first | exact PV.len rfl (by assumption) T.sl28 | exact PV.lenOs rfl (by assumption) T.sl28 | exact PV.len rfl (NL.rd (by assumption)) T.sl28 | exact PV.len rfl (Inn.rd (by assumption) (by omega)) T.sl28)) ?_
  refine WL.mv rfl rfl ?_
  refine WL.nilS ?_
  refine CW.block ?_
  have hlt1 := hb1.ltO
  have hlt2 := hb2.ltO
  have hlt5 := ho5.ltO
  refine CW.loop (σk := [(1, _), (2, _), (6, _), (21, _)]) (fun ρ wz m => ∃ (v6 : Value) (og6 : Option Nat) (i : Nat), ρ = [(7, v6), (22, .int .i64 (i : Nat))] ∧ m = xs.length - i ∧ UpdL [(some g5)] w4 wz ∧ Osl VI wz og6 v6 (alS xa2 xs a0 i) ∧ OgR w4 (some g5) og6 ∧ (i ≤ xs.length)) (ρ₀ := [(7, _), (22, _)]) (m₀ := _) ⟨rfl, rfl, rfl, rfl, rfl, rfl, trivial⟩ ⟨v5, (some g5), 0, rfl, rfl, (UpdL.refl _ _), osE ho5 (by rfl), OgR.refl _ _, (by first | omega | rfl | (simp; done) | assumption | (simp_all; done))⟩ ?_
  rintro _ wl1 _ ⟨v6, og6, i, rfl, rfl, hU0, ho6, ha6, hi⟩
  have hb1 := hb1.loop hU0 ⟨hd1_5, trivial⟩
  have hb2 := hb2.loop hU0 ⟨hd2_5, trivial⟩
  have hl6 := Lo.ogr hl5 hB ha6
  have hg0_6 := ha6
  have hk0_6 : OkB [(some g5)] w4 og6 := OkB.ogr (OkB.mem (by simp)) (Nat.le_refl _) ha6
  have hd1_6 := Dj.ogr hd1_5 hlt1 ha6
  have hd2_6 := Dj.ogr hd2_5 hlt2 ha6
  have hB := hB.loop hU0 ⟨hl5, trivial⟩
  have hal1 := alS_len xa2 xs a0 (by omega) i
  refine CW.seq ?_
  refine CW.reg ?_
  refine WL.pure rfl rfl rfl (PV.lss rfl rfl) ?_
  refine WL.nilS ?_
  refine CW.seq ?_
  refine CW.cond rfl (fun hc2 => ?_) (fun hc2 => ?_)
  · skip
    try simp only [nq] at hc2
    refine CW.skipS ?_
    refine CW.seq ?_
    refine CW.block ?_
    refine CW.seq ?_
    refine CW.reg ?_
    refine WL.mv rfl rfl ?_
    refine WL.asg rfl rfl ?_
    refine WL.nilS ?_
    refine CW.seq ?_
    refine CW.reg ?_
    refine WL.mv rfl rfl ?_
    refine WL.pure rfl rfl rfl (PV.add rfl rfl (by constructor <;> omega)) ?_
    refine WL.asg rfl rfl ?_
    refine WL.nilS ?_
    refine CW.block ?_
    have hlt1 := hb1.ltO
    have hlt2 := hb2.ltO
    have hlt6 := ho6.ltO
    refine CW.loop (σk := [(1, _), (2, _), (6, _), (8, _), (21, _), (22, _)]) (fun ρ wz m => ∃ (v7 : Value) (og7 : Option Nat) (j : Nat), ρ = [(7, v7), (9, .int .i64 (j : Nat))] ∧ m = xs.length + 1 - j ∧ UpdL [og6] wl1 wz ∧ Osl VI wz og7 v7 (alS xa2 xs a0 i ++ rwS xa2 xs a0 i (j - (i + 1))) ∧ OgR wl1 og6 og7 ∧ (i + 1 ≤ j ∧ j ≤ xs.length + 1)) (ρ₀ := [(7, _), (9, _)]) (m₀ := _) ⟨rfl, rfl, rfl, rfl, rfl, rfl, rfl, rfl, trivial⟩ ⟨v6, og6, i + 1, rfl, rfl, (UpdL.refl _ _), osE ho6 (by rw [Nat.sub_self]; exact rwS_zero _ _ _ _ _), OgR.refl _ _, (by first | omega | rfl | (simp; done) | assumption | (simp_all; done))⟩ ?_
    rintro _ wl2 _ ⟨v7, og7, j, rfl, rfl, hU1, ho7, ha7, hj⟩
    have hU0 := hU0.trans hU1 ⟨hk0_6, trivial⟩
    have hb1 := hb1.loop hU1 ⟨hd1_6, trivial⟩
    have hb2 := hb2.loop hU1 ⟨hd2_6, trivial⟩
    have hl7 := Lo.ogr hl6 hB ha7
    have hg1_7 := ha7
    have hk1_7 : OkB [og6] wl1 og7 := OkB.ogr (OkB.mem (by simp)) (Nat.le_refl _) ha7
    have hk0_7 := OkB.ogr hk0_6 (by first | assumption | exact UpdL.size (by assumption)) ha7
    have hg0_7 := OgR.trans hg0_6 (by first | assumption | exact UpdL.size (by assumption)) ha7
    have hd1_7 := Dj.ogr hd1_6 hlt1 ha7
    have hd2_7 := Dj.ogr hd2_6 hlt2 ha7
    have hB := hB.loop hU1 ⟨hl6, trivial⟩
    have hrl1 := rwS_len xa2 xs a0 i (j - (i + 1)); have hal2 : (alS xa2 xs a0 i ++ rwS xa2 xs a0 i (j - (i + 1))).length ≤ 200 := by rw [List.length_append]; omega
    refine CW.seq ?_
    refine CW.seq ?_
    refine CW.reg ?_
    refine WL.mv rfl rfl ?_
    refine WL.mv rfl rfl ?_
    refine WL.pure rfl rfl rfl ((by first | exact PV.len rfl (by assumption) T.sl28 | exact PV.lenOs rfl (by assumption) T.sl28 | exact PV.len rfl (NL.rd (by assumption)) T.sl28 | exact PV.len rfl (Inn.rd (by assumption) (by omega)) T.sl28)) ?_
    refine WL.pure rfl rfl rfl (PV.leq rfl rfl) ?_
    refine WL.nilS ?_
    refine CW.cond rfl (fun hc3 => ?_) (fun hc3 => ?_)
    · skip
      try simp only [nq] at hc3
      refine CW.skipS ?_
      refine CW.seq ?_
      refine CW.block ?_
      refine CW.seq ?_
      refine CW.reg ?_
      refine WL.asg rfl rfl ?_
      refine WL.nilS ?_
      refine CW.seq ?_
      refine CW.seq ?_
      refine CW.reg ?_
      refine WL.pure rfl rfl rfl (PV.fieldAddr T.fl33_0 rfl hb1.cells) ?_
      refine WL.pure rfl rfl rfl (PV.load1 T.na2 rfl hb1.cells (Ext.refl _) rfl) ?_
      refine WL.mv rfl rfl ?_
      refine WL.nilS ?_
      refine CW.block ?_
      refine CW.loop (σk := [(1, _), (2, _), (6, _), (7, _), (8, _), (9, _), (21, _), (22, _), (34, _)]) (fun ρ wz m => ∃ (k : Nat) (v : Int), ρ = [(10, .int .i64 v), (35, .int .i64 (k : Nat))] ∧ m = a0.toNat - k ∧ UpdL [] wl2 wz ∧ ((k : Int) ≤ a0) ∧ (v = nS xa2 xs i j k)) (ρ₀ := [(10, _), (35, _)]) (m₀ := _) ⟨rfl, rfl, rfl, rfl, rfl, rfl, rfl, rfl, rfl, rfl, rfl, trivial⟩ ⟨0, 0, rfl, rfl, (UpdL.refl _ _), (by first | omega | rfl | (simp; done) | assumption | (simp_all; done)), (by rfl)⟩ ?_
      rintro _ wl3 _ ⟨k, v, rfl, rfl, hU2, hk, hv⟩
      have hU0 := hU0.trans hU2 trivial
      have hU1 := hU1.trans hU2 trivial
      have hb1 := hb1.loop hU2 trivial
      have hb2 := hb2.loop hU2 trivial
      have ho7 := ho7.loop hU2 trivial
      have hB := hB.loop hU2 trivial
      have hvr : 0 ≤ v ∧ v < 65536 := by (rw [hv]; exact nS_rng (by omega))
      refine CW.seq ?_
      refine CW.reg ?_
      refine WL.pure rfl rfl rfl (PV.lss rfl rfl) ?_
      refine WL.nilS ?_
      refine CW.seq ?_
      refine CW.cond rfl (fun hc4 => ?_) (fun hc4 => ?_)
      · skip
        try simp only [nq] at hc4
        refine CW.skipS ?_
        refine CW.seq ?_
        refine CW.block ?_
        refine CW.seq ?_
        refine CW.reg ?_
        refine WL.mv rfl rfl ?_
        refine WL.asg rfl rfl ?_
        refine WL.nilS ?_
        refine CW.seq ?_
        refine CW.reg ?_
        have hT := (by assumption : TCB xa2 xs a0 13 8 1248 _ (xs.length + 1) 0); have hTn := hT.n; have oc := hT.atB (i := i) (j := j) (k := k) (by omega) (by omega) (by omega)
        refine WL.mv rfl rfl ?_
        refine WL.mv rfl rfl ?_
        refine WL.mv rfl rfl ?_
        refine WL.mv rfl rfl ?_
        refine WL.pure rfl rfl rfl (PV.nilCheck rfl) ?_
        refine WL.pure rfl rfl rfl ((by first | exact PV.ixN T.ar223 rfl hb2.spot rfl (by omega) | exact PV.ixZ T.ar223 rfl hb2.spot rfl (by omega))) ?_
        refine WL.pure rfl rfl rfl ((by first | exact PV.ixPN T.ar145 rfl rfl (by omega) | exact PV.ixPZ T.ar145 rfl rfl (by omega))) ?_
        refine WL.pure rfl rfl rfl ((by first | exact PV.ixPN1 T.ar144 rfl rfl (by omega) | exact PV.ixPZ1 T.ar144 rfl rfl (by omega))) ?_
        refine WL.pure rfl rfl rfl (PV.loadArr false T.na4 rfl (Bx.cells hb2) (Ext.refl _) (by first | omega | (simp only [List.length_set]; omega))) ?_
        refine WL.nilS ?_
        refine CW.cond rfl (fun hc5 => ?_) (fun hc5 => ?_)
        · skip
          try simp only [nq] at hc5
          refine CW.reg ?_
          refine WL.mv rfl rfl ?_
          refine WL.mv rfl rfl ?_
          refine WL.pure rfl rfl rfl (PV.shl rfl rfl (by omega) (by first | (simp only [IntKind.bits]; omega) | (simp [IntKind.bits] <;> omega))) ?_
          refine WL.pure rfl rfl rfl (PV.or rfl rfl) ?_
          refine WL.asg rfl rfl ?_
          refine WL.nil ?_
          refine NQ.block ?_
          refine NQ.then ?_
          refine CW.reg ?_
          refine WL.pure rfl rfl rfl (PV.add rfl rfl (by constructor <;> omega)) ?_
          refine WL.mv rfl rfl ?_
          refine WL.nil ?_
          refine NQ.next (ρ := [(10, _), (35, _)]) ⟨rfl, rfl, rfl, rfl, rfl, rfl, rfl, rfl, rfl, rfl, rfl, trivial⟩ ?_
          exact ⟨_, ⟨k + 1, _, rfl, rfl, hU2, (by first | omega | assumption | (simp_all; done) | (simp_all; omega)), (by first | (rw [wrU (by omega), or64 (by omega) (by omega), hv]; exact nS_y (oc.1 (by assumption))) | (rw [or64 (by omega) (by omega), hv]; exact nS_y (oc.1 (by assumption))) | (rw [hv]; exact nS_n (fun h => by first | exact absurd (oc.2 h) (by omega) | exact absurd ((oc.2 h).symm.trans (show _ = false by assumption)) (by decide))))⟩, by omega⟩
        try simp only [nq] at hc5
        refine CW.skip ?_
        refine NQ.block ?_
        refine NQ.then ?_
        refine CW.reg ?_
        refine WL.pure rfl rfl rfl (PV.add rfl rfl (by constructor <;> omega)) ?_
        refine WL.mv rfl rfl ?_
        refine WL.nil ?_
        refine NQ.next (ρ := [(10, _), (35, _)]) ⟨rfl, rfl, rfl, rfl, rfl, rfl, rfl, rfl, rfl, rfl, rfl, trivial⟩ ?_
        exact ⟨_, ⟨k + 1, v, rfl, rfl, hU2, (by first | omega | assumption | (simp_all; done) | (simp_all; omega)), (by first | (rw [wrU (by omega), or64 (by omega) (by omega), hv]; exact nS_y (oc.1 (by assumption))) | (rw [or64 (by omega) (by omega), hv]; exact nS_y (oc.1 (by assumption))) | (rw [hv]; exact nS_n (fun h => by first | exact absurd (oc.2 h) (by omega) | exact absurd ((oc.2 h).symm.trans (show _ = false by assumption)) (by decide))))⟩, by omega⟩
      try simp only [nq] at hc4
      refine CW.exit ?_
      refine XQ.then ?_
      refine XQ.then ?_
      refine XQ.here ?_
      refine NQ.then ?_
      refine CW.reg ?_
      refine WL.mv rfl rfl ?_
      refine WL.mv rfl rfl ?_
      refine WL.op rfl (OpK.buildS VI (os := [.tmp 53]) [_] rfl T.sl28 rfl rfl T.zv2 rfl (by intro z hz; first | rfl | (simp only [List.mem_cons, List.not_mem_nil, or_false] at hz; subst hz; exact (by first | exact Rd.cells1 (by assumption) | exact Osl.cells1 (by assumption) | exact Osn.cells1 (by assumption) | exact Rd.cells1 (NL.rd (by assumption)) | exact Inn.cell1 (by assumption) (by omega) | assumption | rfl))) rfl (fun v8 g8 w5 hXw5 ho8 hge8 => ?_))
      have hl8 := Lo.new hB hge8
      have hd1_8 := Dj.new hb1.ltO hge8
      have hd2_8 := Dj.new hb2.ltO hge8
      have hd7_8 := Dj.new ho7.ltO hge8
      have hk0_8 := OkN.new hU0 hge8
      have hg0_8 := OgR.new hU0.size hge8
      have hk1_8 := OkN.new hU1 hge8
      have hg1_8 := OgR.new hU1.size hge8
      have hB := hB.trans hXw5
      have hb1 := hb1.up hXw5
      have hb2 := hb2.up hXw5
      have ho7 := ho7.up hXw5
      have hU0 := hU0.ext hXw5
      have hU1 := hU1.ext hXw5
      refine WL.op rfl (OpK.appendS (f := VI) rfl T.sl28 T.zv2 rfl rfl ho7 rfl (Osl.src ho8 (fun _ => rfl)) (by first | (simp only [List.length_cons, List.length_nil]; omega) | (simp_all; omega)) (fun v9 og9 w6 hXw6 ho9 hap9 => ?_))
      have hl9 := Lo.app hl7 hB hap9
      have hd1_9 := Dj.app hd1_7 hb1.ltO hap9
      have hd2_9 := Dj.app hd2_7 hb2.ltO hap9
      have hd8_9 := Dj.app (Dj.symm hd7_8) ho8.ltO hap9
      have hk0_9 := OkN.app hU0 hk0_7 hap9
      have hg0_9 := OgR.app hg0_7 hU0.size hap9
      have hk1_9 := OkN.app hU1 hk1_7 hap9
      have hg1_9 := OgR.app hg1_7 hU1.size hap9
      have hB := hB.updL hXw6 hl7
      have hb1 := hb1.updD hXw6 hd1_7
      have hb2 := hb2.updD hXw6 hd2_7
      have ho8 := ho8.updD hXw6 (Dj.symm hd7_8)
      have hU0 := hU0.step hXw6 hk0_7
      have hU1 := hU1.step hXw6 hk1_7
      refine WL.asg rfl rfl ?_
      refine WL.nil ?_
      refine NQ.block ?_
      refine NQ.then ?_
      refine CW.reg ?_
      refine WL.mv rfl rfl ?_
      refine WL.pure rfl rfl rfl (PV.add rfl rfl (by constructor <;> omega)) ?_
      refine WL.asg rfl rfl ?_
      refine WL.nil ?_
      refine NQ.next (ρ := [(7, _), (9, _)]) ⟨rfl, rfl, rfl, rfl, rfl, rfl, rfl, rfl, trivial⟩ ?_
      exact ⟨_, ⟨v9, og9, j + 1, rfl, rfl, hU1, osE ho9 (by rw [show j + 1 - (i + 1) = j - (i + 1) + 1 from (by omega)]; exact rwS_put (by rw [hv, show i + 1 + (j - (i + 1)) = j from (by omega), show k = a0.toNat from (by omega)])), (by first | exact hg1_9 | exact OgR.weak hg1_9), (by first | omega | assumption | (simp_all; done) | (simp_all; omega))⟩, by omega⟩
    try simp only [nq] at hc3
    refine CW.exit ?_
    refine XQ.then ?_
    refine XQ.then ?_
    refine XQ.here ?_
    refine NQ.block ?_
    refine NQ.then ?_
    refine CW.reg ?_
    refine WL.pure rfl rfl rfl (PV.add rfl rfl (by constructor <;> omega)) ?_
    refine WL.mv rfl rfl ?_
    refine WL.nil ?_
    refine NQ.next (ρ := [(7, _), (22, _)]) ⟨rfl, rfl, rfl, rfl, rfl, rfl, trivial⟩ ?_
    exact ⟨_, ⟨v7, og7, i + 1, rfl, rfl, hU0, osE ho7 (by rw [show j - (i + 1) = xs.length - i from (by omega)]; rfl), (by first | exact hg0_7 | exact OgR.weak hg0_7), (by first | omega | assumption | (simp_all; done) | (simp_all; omega))⟩, by omega⟩
  try simp only [nq] at hc2
  refine CW.exit ?_
  refine XQ.then ?_
  refine XQ.then ?_
  refine XQ.here ?_
  refine NQ.then ?_
  refine CW.seq ?_
  refine CW.reg ?_
  refine WL.mv rfl rfl ?_
  refine WL.asg rfl rfl ?_
  refine WL.asg rfl rfl ?_
  refine WL.nilS ?_
  refine CW.ret ?_
  refine RQ.r2 rfl rfl ?_
  refine ⟨hB, v6, og6, ?_, osE ho6 ?_, hl6⟩
  · skip
    first | exact tE2 rfl (bE (by assumption : canB a0 a1 xa2 xs = true).symm) | exact tE2 rfl (bE (by assumption : canB a0 a1 xa2 xs = false).symm)
  · skip
    first | (rw [onT_no (by rw [(by assumption : canB a0 a1 xa2 xs = false)]; decide)]; done) | (rw [onT_yes (by assumption), show i = xs.length from (by omega)])
theorem c_impl_BackGrammar {w : World} {a0 : Int} {a1 : Int} {va2 : Value} {xa2 : List R4}  (ha2 : Rd ER w va2 xa2) : Calls Try.prog 30 #[.agg #[.int .i64 a0, .int .i64 a1, va2]] w (Ret1 (fun v w' => Ext w w' ∧ ∃ u2 og_u2, v = .tuple #[.agg #[.int .i64 (onI (gramB a0 a1 xa2) a0), .int .i64 (onI (gramB a0 a1 xa2) a1), u2], .bool (gramB a0 a1 xa2)] ∧ Osn 4 gR w' og_u2 u2 (onT (gramB a0 a1 xa2) (xa2.map backR)) ∧ Lo w og_u2)) := by
  have hB : Ext w w := Ext.refl w
  have hla2 := ha2.leI
  refine callsOf (vs := [_]) Try.func30 rfl Try.ntmps30 rfl rfl ?_
  refine CW.seq ?_
  refine CW.reg ?_
  refine WL.op rfl (OpK.box rfl rfl (by first | exact Rd.cells1 (by assumption) | exact Osl.cells1 (by assumption) | exact Osn.cells1 (by assumption) | exact Rd.cells1 (NL.rd (by assumption)) | exact Inn.cell1 (by assumption) (by omega) | assumption | rfl) (fun b1 w1 hXw1 hb1 hge1 => ?_))
  have hl1 := Lo.new hB hge1
  have hB := hB.trans hXw1
  refine WL.op rfl (OpK.alloc rfl T.zv33 rfl (fun b2 w2 hXw2 hb2 hge2 => ?_))
  have hl2 := Lo.new hB hge2
  have hd1_2 := Dj.new hb1.ltO hge2
  have hB := hB.trans hXw2
  have hb1 := hb1.up hXw2
  refine WL.asg rfl rfl ?_
  refine WL.nilS ?_
  refine CW.seq ?_
  refine CW.seq ?_
  refine CW.reg ?_
  refine WL.pure rfl rfl rfl (PV.loadA T.ag33 rfl hb1.cells (Ext.refl _) rfl) ?_
  refine WL.op rfl (OpK.callR rfl T.cf103 rfl (c_impl_ValidGrammar (by first | assumption | exact Rd.up (by assumption) hB | exact Osl.rd (by assumption) | exact Osn.rdR (by assumption))) (fun w3 hXw3 => ?_))
  have hB := hB.trans hXw3
  have hb1 := hb1.up hXw3
  have hb2 := hb2.up hXw3
  refine WL.pure rfl rfl rfl (PV.not rfl) ?_
  refine WL.nilS ?_
  refine CW.cond rfl (fun hc1 => ?_) (fun hc1 => ?_)
  · skip
    try simp only [nq] at hc1
    refine CW.seq ?_
    refine CW.reg ?_
    refine WL.pure rfl rfl rfl (PV.build (ks := []) (os := []) (css := []) (ds := [_, _, _]) T.bu33 rfl rfl trivial rfl) ?_
    refine WL.op rfl (OpK.storeA T.sz33 rfl rfl rfl rfl (by simp [Value.oneCell'] <;> first | done | (repeat' apply And.intro) <;> first | rfl | exact Osl.oneCell (by assumption) | exact Osn.oneCell (by assumption) | exact Rd.oneCell (by assumption) | exact Rd.oneCell (NL.rd (by assumption)) | assumption) hb2 (fun w4 hXw4 hb2 => ?_))
    have hB := hB.updL hXw4 hl2
    have hb1 := hb1.updD hXw4 hd1_2
    refine WL.asg rfl rfl ?_
    refine WL.nilS ?_
    refine CW.ret ?_
    refine RQ.then ?_
    refine RQ.rc1 T.ag33 rfl (by first | exact Cells.up (by assumption) hB | exact Bx.cells (by assumption) | assumption) rfl rfl ?_
    refine ⟨hB, (.slice none 0 0), none, ?_, osnE (Osn.nil gR_ok _) ?_, Lo.nl _⟩
    · skip
      first | (exact tE2 (by rw [onI_yes (gramB_yes (by assumption)), onI_yes (gramB_yes (by assumption))]) (bE (gramB_yes (by assumption)).symm)) | (exact tE2 (by rw [onI_no (gramB_no (by assumption)), onI_no (gramB_no (by assumption))]) (bE (Bool.eq_false_iff.2 (gramB_no (by assumption))).symm))
    · skip
      first | (rw [onT_no (gramB_no (by assumption))]; done) | (rw [onT_yes (gramB_yes (by assumption))]; exact backR_all (by omega))
  try simp only [nq] at hc1
  refine CW.skipS ?_
  refine CW.seq ?_
  refine CW.reg ?_
  have hg3 := (by assumption : gramV a0 a1 xa2).2.2.1
  refine WL.pure rfl rfl rfl (PV.fieldAddr T.fl33_0 rfl hb1.cells) ?_
  refine WL.pure rfl rfl rfl (PV.load1 T.na2 rfl hb1.cells (Ext.refl _) rfl) ?_
  refine WL.pure rfl rfl rfl (PV.fieldAddr T.fl33_1 rfl hb1.cells) ?_
  refine WL.pure rfl rfl rfl (PV.load1 T.na2 rfl hb1.cells (Ext.refl _) rfl) ?_
  refine WL.pure rfl rfl rfl (PV.build (ks := [0, 1]) (os := [.tmp 12, .tmp 14]) (css := [[_], [_]]) (ds := [_, _, _]) T.bu33 rfl rfl ⟨rfl, rfl, trivial⟩ rfl) ?_
  refine WL.op rfl (OpK.alloc rfl T.zv33 rfl (fun b3 w5 hXw5 hb3 hge3 => ?_))
  have hl3 := Lo.new hB hge3
  have hd1_3 := Dj.new hb1.ltO hge3
  have hd2_3 := Dj.new hb2.ltO hge3
  have hB := hB.trans hXw5
  have hb1 := hb1.up hXw5
  have hb2 := hb2.up hXw5
  refine WL.op rfl (OpK.storeA T.sz33 rfl rfl rfl rfl (by simp [Value.oneCell'] <;> first | done | (repeat' apply And.intro) <;> first | rfl | exact Osl.oneCell (by assumption) | exact Osn.oneCell (by assumption) | exact Rd.oneCell (by assumption) | exact Rd.oneCell (NL.rd (by assumption)) | assumption) hb3 (fun w6 hXw6 hb3 => ?_))
  have hB := hB.updL hXw6 hl3
  have hb1 := hb1.updD hXw6 hd1_3
  have hb2 := hb2.updD hXw6 hd2_3
  refine WL.nilS ?_
  refine CW.seq ?_
  refine CW.seq ?_
  refine CW.reg ?_
  refine WL.pure rfl rfl rfl (PV.fieldAddr T.fl33_2 rfl hb1.cells) ?_
  refine WL.pure rfl rfl rfl (PV.load1 T.na31 rfl hb1.cells (Ext.refl _) rfl) ?_
  refine WL.pure rfl rfl rfl ((by first | exact PV.len rfl (by assumption) T.sl31 | exact PV.lenOs rfl (by assumption) T.sl31 | exact PV.len rfl (NL.rd (by assumption)) T.sl31 | exact PV.len rfl (Inn.rd (by assumption) (by omega)) T.sl31)) ?_
  refine WL.mv rfl rfl ?_
  refine WL.nilS ?_
  refine CW.block ?_
  have ho4 : Osn 4 gR w6 none (.slice none 0 0) [] := (Osn.nil gR_ok _)
  have hl4 : Lo w none := Lo.nl _
  have hd1_4 : Dj (some b1.block) none := Dj.nlR _
  have hd2_4 : Dj (some b2.block) none := Dj.nlR _
  have hd3_4 : Dj (some b3.block) none := Dj.nlR _
  have hlt1 := hb1.ltO
  have hlt2 := hb2.ltO
  have hlt3 := hb3.ltO
  have hlt4 := ho4.ltO
  refine CW.loop (σk := [(2, _), (4, _), (17, _), (18, _)]) (fun ρ wz m => ∃ (v5 : Value) (og5 : Option Nat) (k : Nat), ρ = [(19, .int .i64 (k : Nat))] ∧ m = xa2.length - k ∧ UpdL [none, (some b3.block)] w6 wz ∧ Osn 4 gR wz og5 v5 ((xa2.take k).map backR) ∧ OgR w6 none og5 ∧ Bx wz b3 [.int .i64 a0, .int .i64 a1, v5] ∧ (k ≤ xa2.length)) (ρ₀ := [(19, _)]) (m₀ := _) ⟨rfl, rfl, rfl, rfl, rfl, trivial⟩ ⟨(.slice none 0 0), none, 0, rfl, rfl, (UpdL.refl _ _), osnE ho4 (by simp), OgR.refl _ _, bxE hb3 (by first | rfl | (simp_all; done) | (simp_all; omega)), (by first | omega | rfl | (simp; done) | assumption | (simp_all; done))⟩ ?_
  rintro _ wl1 _ ⟨v5, og5, k, rfl, rfl, hU0, ho5, ha5, hb3, hk⟩
  have hb1 := hb1.loop hU0 ⟨hd1_4, hd1_3, trivial⟩
  have hb2 := hb2.loop hU0 ⟨hd2_4, hd2_3, trivial⟩
  have hl5 := Lo.ogr hl4 hB ha5
  have hg0_5 := ha5
  have hk0_5 : OkB [none, (some b3.block)] w6 og5 := OkB.ogr (OkB.mem (by simp)) (Nat.le_refl _) ha5
  have hd1_5 := Dj.ogr hd1_4 hlt1 ha5
  have hd2_5 := Dj.ogr hd2_4 hlt2 ha5
  have hd3_5 := Dj.ogr hd3_4 hlt3 ha5
  have hk0_3 : OkB [none, (some b3.block)] w6 (some b3.block) := OkB.mem (by simp)
  have hB := hB.loop hU0 ⟨hl4, hl3, trivial⟩
  have hbl : ((xa2.take k).map backR).length ≤ k := (by simp; omega)
  refine CW.seq ?_
  refine CW.reg ?_
  refine WL.pure rfl rfl rfl (PV.lss rfl rfl) ?_
  refine WL.nilS ?_
  refine CW.seq ?_
  refine CW.cond rfl (fun hc2 => ?_) (fun hc2 => ?_)
  · skip
    try simp only [nq] at hc2
    refine CW.skipS ?_
    refine CW.seq ?_
    refine CW.block ?_
    refine CW.seq ?_
    refine CW.reg ?_
    first
      | refine WL.at (x := .tmp 17) (y := .tmp 19) (E := ER) ((0, 0, 0, 0)) rfl rfl (by first | assumption | exact Inn.rd (by assumption) (by omega)) (by first | omega | (simp only [List.length_set]; omega) | (simp only [List.length_append, List.length_take, List.length_replicate, List.length_drop]; omega)) (fun p1 csp1 hpp1 hcp1 hq => ?_)
      | refine WL.atZ (x := .tmp 17) (y := .tmp 19) (E := ER) ((0, 0, 0, 0)) rfl rfl (by first | assumption | exact Inn.rd (by assumption) (by omega)) (by first | omega | (simp only [List.length_set]; omega) | (simp only [List.length_append, List.length_take, List.length_replicate, List.length_drop]; omega)) (fun p1 csp1 hpp1 hzp1 hcp1 hq => ?_)
    cases hq
    refine WL.pure rfl rfl rfl ((by first | exact PV.indexAddr hpp1 rfl rfl T.sl31 | exact PV.indexAddr hpp1 rfl (by rw [← hzp1]; rfl) T.sl31)) ?_
    refine WL.pure rfl rfl rfl ((by first | exact PV.loadA T.ag56 rfl (by first | exact Cells.up (by assumption) hB | exact Bx.cells (by assumption) | assumption) (Ext.refl _) rfl | exact PV.loadP (ds := [_, _, _, _]) T.ag56 rfl (by first | exact Cells.up (by assumption) hB | exact Bx.cells (by assumption) | assumption) (Ext.refl _) rfl rfl)) ?_
    refine WL.op rfl (OpK.alloc rfl T.zv56 rfl (fun b7 w7 hXw7 hb7 hge7 => ?_))
    have hl7 := Lo.new hB hge7
    have hd1_7 := Dj.new hb1.ltO hge7
    have hd2_7 := Dj.new hb2.ltO hge7
    have hd3_7 := Dj.new hb3.ltO hge7
    have hd5_7 := Dj.new ho5.ltO hge7
    have hk0_7 := OkN.new hU0 hge7
    have hg0_7 := OgR.new hU0.size hge7
    have hB := hB.trans hXw7
    have hb1 := hb1.up hXw7
    have hb2 := hb2.up hXw7
    have hb3 := hb3.up hXw7
    have ho5 := ho5.up hXw7
    have hU0 := hU0.ext hXw7
    refine WL.op rfl (OpK.storeA T.sz56 rfl rfl rfl rfl (by simp [Value.oneCell'] <;> first | done | (repeat' apply And.intro) <;> first | rfl | exact Osl.oneCell (by assumption) | exact Osn.oneCell (by assumption) | exact Rd.oneCell (by assumption) | exact Rd.oneCell (NL.rd (by assumption)) | assumption) hb7 (fun w8 hXw8 hb7 => ?_))
    have hB := hB.updL hXw8 hl7
    have hb1 := hb1.updD hXw8 hd1_7
    have hb2 := hb2.updD hXw8 hd2_7
    have hb3 := hb3.updD hXw8 hd3_7
    have ho5 := ho5.updD hXw8 hd5_7
    have hU0 := hU0.step hXw8 hk0_7
    refine WL.nilS ?_
    refine CW.seq ?_
    refine CW.seq ?_
    refine CW.reg ?_
    refine WL.pure rfl rfl rfl (PV.fieldAddr T.fl56_2 rfl hb7.cells) ?_
    refine WL.pure rfl rfl rfl (PV.load1 T.na2 rfl hb7.cells (Ext.refl _) rfl) ?_
    refine WL.pure rfl rfl rfl (PV.geq rfl rfl) ?_
    refine WL.nilS ?_
    refine CW.cond rfl (fun hc3 => ?_) (fun hc3 => ?_)
    · skip
      try simp only [nq] at hc3
      refine CW.reg ?_
      refine WL.pure rfl rfl rfl (PV.fieldAddr T.fl56_2 rfl hb7.cells) ?_
      refine WL.pure rfl rfl rfl (PV.load1 T.na2 rfl hb7.cells (Ext.refl _) rfl) ?_
      refine WL.pure rfl rfl rfl (PV.fieldAddr T.fl56_1 rfl hb7.cells) ?_
      refine WL.pure rfl rfl rfl (PV.load1 T.na2 rfl hb7.cells (Ext.refl _) rfl) ?_
      refine WL.pure rfl rfl rfl (PV.fieldAddr T.fl56_1 rfl hb7.cells) ?_
      refine WL.op rfl (OpK.storeB T.sz2 rfl rfl (by first | rfl | exact Osl.oneCell (by assumption) | exact Osn.oneCell (by assumption) | exact Rd.oneCell (by assumption) | exact Rd.oneCell (NL.rd (by assumption)) | assumption) hb7 rfl (fun w9 hXw9 hb7 => ?_))
      have hB := hB.updL hXw9 hl7
      have hb1 := hb1.updD hXw9 hd1_7
      have hb2 := hb2.updD hXw9 hd2_7
      have hb3 := hb3.updD hXw9 hd3_7
      have ho5 := ho5.updD hXw9 hd5_7
      have hU0 := hU0.step hXw9 hk0_7
      refine WL.pure rfl rfl rfl (PV.fieldAddr T.fl56_2 rfl hb7.cells) ?_
      refine WL.op rfl (OpK.storeB T.sz2 rfl rfl (by first | rfl | exact Osl.oneCell (by assumption) | exact Osn.oneCell (by assumption) | exact Rd.oneCell (by assumption) | exact Rd.oneCell (NL.rd (by assumption)) | assumption) hb7 rfl (fun w10 hXw10 hb7 => ?_))
      have hB := hB.updL hXw10 hl7
      have hb1 := hb1.updD hXw10 hd1_7
      have hb2 := hb2.updD hXw10 hd2_7
      have hb3 := hb3.updD hXw10 hd3_7
      have ho5 := ho5.updD hXw10 hd5_7
      have hU0 := hU0.step hXw10 hk0_7
      refine WL.nilS ?_
      refine CW.reg ?_
      refine WL.pure rfl rfl rfl (PV.fieldAddr T.fl33_2 rfl hb3.cells) ?_
      refine WL.pure rfl rfl rfl (PV.load1 T.na31 rfl hb3.cells (Ext.refl _) rfl) ?_
      refine WL.pure rfl rfl rfl (PV.loadA T.ag56 rfl hb7.cells (Ext.refl _) rfl) ?_
      refine WL.op rfl (OpK.build4 (os := [.tmp 34]) rfl T.sl31 rfl rfl T.zv56 rfl rfl (fun v8 g8 w11 hXw11 ho8 hge8 => ?_))
      have hl8 := Lo.new hB hge8
      have hd1_8 := Dj.new hb1.ltO hge8
      have hd2_8 := Dj.new hb2.ltO hge8
      have hd3_8 := Dj.new hb3.ltO hge8
      have hd5_8 := Dj.new ho5.ltO hge8
      have hd7_8 := Dj.new hb7.ltO hge8
      have hk0_8 := OkN.new hU0 hge8
      have hg0_8 := OgR.new hU0.size hge8
      have hB := hB.trans hXw11
      have hb1 := hb1.up hXw11
      have hb2 := hb2.up hXw11
      have hb3 := hb3.up hXw11
      have ho5 := ho5.up hXw11
      have hb7 := hb7.up hXw11
      have hU0 := hU0.ext hXw11
      refine WL.op rfl (OpK.appendN (g := gR) rfl T.sl31 T.zv56 rfl rfl ho5 rfl (Osn.src ho8) (by first | (simp only [List.length_cons, List.length_nil]; omega) | (simp_all; omega)) (fun v9 og9 w12 hXw12 ho9 hap9 => ?_))
      have hl9 := Lo.app hl5 hB hap9
      have hd1_9 := Dj.app hd1_5 hb1.ltO hap9
      have hd2_9 := Dj.app hd2_5 hb2.ltO hap9
      have hd3_9 := Dj.app hd3_5 hb3.ltO hap9
      have hd7_9 := Dj.app (Dj.symm hd5_7) hb7.ltO hap9
      have hd8_9 := Dj.app (Dj.symm hd5_8) ho8.ltO hap9
      have hk0_9 := OkN.app hU0 hk0_5 hap9
      have hg0_9 := OgR.app hg0_5 hU0.size hap9
      have hB := hB.updL hXw12 hl5
      have hb1 := hb1.updD hXw12 hd1_5
      have hb2 := hb2.updD hXw12 hd2_5
      have hb3 := hb3.updD hXw12 hd3_5
      have hb7 := hb7.updD hXw12 (Dj.symm hd5_7)
      have ho8 := ho8.updD hXw12 (Dj.symm hd5_8)
      have hU0 := hU0.step hXw12 hk0_5
      refine WL.pure rfl rfl rfl (PV.fieldAddr T.fl33_2 rfl hb3.cells) ?_
      refine WL.op rfl (OpK.storeB T.sz31 rfl rfl (by first | rfl | exact Osl.oneCell (by assumption) | exact Osn.oneCell (by assumption) | exact Rd.oneCell (by assumption) | exact Rd.oneCell (NL.rd (by assumption)) | assumption) hb3 rfl (fun w13 hXw13 hb3 => ?_))
      have hB := hB.updL hXw13 hl3
      have hb1 := hb1.updD hXw13 hd1_3
      have hb2 := hb2.updD hXw13 hd2_3
      have hb7 := hb7.updD hXw13 (Dj.symm hd3_7)
      have ho8 := ho8.updD hXw13 (Dj.symm hd3_8)
      have ho9 := ho9.updD hXw13 (Dj.symm hd3_9)
      have hU0 := hU0.step hXw13 hk0_3
      refine WL.nil ?_
      refine NQ.block ?_
      refine NQ.then ?_
      refine CW.reg ?_
      refine WL.pure rfl rfl rfl (PV.add rfl rfl (by constructor <;> omega)) ?_
      refine WL.mv rfl rfl ?_
      refine WL.nil ?_
      refine NQ.next (ρ := [(19, _)]) ⟨rfl, rfl, rfl, rfl, rfl, trivial⟩ ?_
      exact ⟨_, ⟨v9, og9, k + 1, rfl, rfl, hU0, osnE ho9 (by first | exact backR_put (by omega) (backR_yes (r := xa2.getD k (0, 0, 0, 0)) (by assumption)) | exact backR_put (by omega) (backR_no (r := xa2.getD k (0, 0, 0, 0)) (by omega))), (by first | exact hg0_9 | exact OgR.weak hg0_9), bxE hb3 (by first | rfl | (simp_all; done) | (simp_all; omega)), (by first | omega | assumption | (simp_all; done) | (simp_all; omega))⟩, by omega⟩
    try simp only [nq] at hc3
    refine CW.skipS ?_
    refine CW.reg ?_
    refine WL.pure rfl rfl rfl (PV.fieldAddr T.fl33_2 rfl hb3.cells) ?_
    refine WL.pure rfl rfl rfl (PV.load1 T.na31 rfl hb3.cells (Ext.refl _) rfl) ?_
    refine WL.pure rfl rfl rfl (PV.loadA T.ag56 rfl hb7.cells (Ext.refl _) rfl) ?_
    refine WL.op rfl (OpK.build4 (os := [.tmp 34]) rfl T.sl31 rfl rfl T.zv56 rfl rfl (fun v10 g10 w14 hXw14 ho10 hge10 => ?_))
    have hl10 := Lo.new hB hge10
    have hd1_10 := Dj.new hb1.ltO hge10
    have hd2_10 := Dj.new hb2.ltO hge10
    have hd3_10 := Dj.new hb3.ltO hge10
    have hd5_10 := Dj.new ho5.ltO hge10
    have hd7_10 := Dj.new hb7.ltO hge10
    have hk0_10 := OkN.new hU0 hge10
    have hg0_10 := OgR.new hU0.size hge10
    have hB := hB.trans hXw14
    have hb1 := hb1.up hXw14
    have hb2 := hb2.up hXw14
    have hb3 := hb3.up hXw14
    have ho5 := ho5.up hXw14
    have hb7 := hb7.up hXw14
    have hU0 := hU0.ext hXw14
    refine WL.op rfl (OpK.appendN (g := gR) rfl T.sl31 T.zv56 rfl rfl ho5 rfl (Osn.src ho10) (by first | (simp only [List.length_cons, List.length_nil]; omega) | (simp_all; omega)) (fun v11 og11 w15 hXw15 ho11 hap11 => ?_))
    have hl11 := Lo.app hl5 hB hap11
    have hd1_11 := Dj.app hd1_5 hb1.ltO hap11
    have hd2_11 := Dj.app hd2_5 hb2.ltO hap11
    have hd3_11 := Dj.app hd3_5 hb3.ltO hap11
    have hd7_11 := Dj.app (Dj.symm hd5_7) hb7.ltO hap11
    have hd10_11 := Dj.app (Dj.symm hd5_10) ho10.ltO hap11
    have hk0_11 := OkN.app hU0 hk0_5 hap11
    have hg0_11 := OgR.app hg0_5 hU0.size hap11
    have hB := hB.updL hXw15 hl5
    have hb1 := hb1.updD hXw15 hd1_5
    have hb2 := hb2.updD hXw15 hd2_5
    have hb3 := hb3.updD hXw15 hd3_5
    have hb7 := hb7.updD hXw15 (Dj.symm hd5_7)
    have ho10 := ho10.updD hXw15 (Dj.symm hd5_10)
    have hU0 := hU0.step hXw15 hk0_5
    refine WL.pure rfl rfl rfl (PV.fieldAddr T.fl33_2 rfl hb3.cells) ?_
    refine WL.op rfl (OpK.storeB T.sz31 rfl rfl (by first | rfl | exact Osl.oneCell (by assumption) | exact Osn.oneCell (by assumption) | exact Rd.oneCell (by assumption) | exact Rd.oneCell (NL.rd (by assumption)) | assumption) hb3 rfl (fun w16 hXw16 hb3 => ?_))
    have hB := hB.updL hXw16 hl3
    have hb1 := hb1.updD hXw16 hd1_3
    have hb2 := hb2.updD hXw16 hd2_3
    have hb7 := hb7.updD hXw16 (Dj.symm hd3_7)
    have ho10 := ho10.updD hXw16 (Dj.symm hd3_10)
    have ho11 := ho11.updD hXw16 (Dj.symm hd3_11)
    have hU0 := hU0.step hXw16 hk0_3
    refine WL.nil ?_
    refine NQ.block ?_
    refine NQ.then ?_
    refine CW.reg ?_
    refine WL.pure rfl rfl rfl (PV.add rfl rfl (by constructor <;> omega)) ?_
    refine WL.mv rfl rfl ?_
    refine WL.nil ?_
    refine NQ.next (ρ := [(19, _)]) ⟨rfl, rfl, rfl, rfl, rfl, trivial⟩ ?_
    exact ⟨_, ⟨v11, og11, k + 1, rfl, rfl, hU0, osnE ho11 (by first | exact backR_put (by omega) (backR_yes (r := xa2.getD k (0, 0, 0, 0)) (by assumption)) | exact backR_put (by omega) (backR_no (r := xa2.getD k (0, 0, 0, 0)) (by omega))), (by first | exact hg0_11 | exact OgR.weak hg0_11), bxE hb3 (by first | rfl | (simp_all; done) | (simp_all; omega)), (by first | omega | assumption | (simp_all; done) | (simp_all; omega))⟩, by omega⟩
  try simp only [nq] at hc2
  refine CW.exit ?_
  refine XQ.then ?_
  refine XQ.then ?_
  refine XQ.here ?_
  refine NQ.then ?_
  refine CW.seq ?_
  refine CW.reg ?_
  refine WL.pure rfl rfl rfl (PV.loadA T.ag33 rfl hb3.cells (Ext.refl _) rfl) ?_
  refine WL.op rfl (OpK.storeA T.sz33 rfl rfl rfl rfl (by simp [Value.oneCell'] <;> first | done | (repeat' apply And.intro) <;> first | rfl | exact Osl.oneCell (by assumption) | exact Osn.oneCell (by assumption) | exact Rd.oneCell (by assumption) | exact Rd.oneCell (NL.rd (by assumption)) | assumption) hb2 (fun w17 hXw17 hb2 => ?_))
  have hB := hB.updL hXw17 hl2
  have hb1 := hb1.updD hXw17 hd1_2
  have hb3 := hb3.updD hXw17 (Dj.symm hd2_3)
  have ho5 := ho5.updD hXw17 (Dj.symm hd2_5)
  refine WL.asg rfl rfl ?_
  refine WL.nilS ?_
  refine CW.ret ?_
  refine RQ.rc1 T.ag33 rfl (by first | exact Cells.up (by assumption) hB | exact Bx.cells (by assumption) | assumption) rfl rfl ?_
  refine ⟨hB, v5, og5, ?_, osnE ho5 ?_, hl5⟩
  · skip
    first | (exact tE2 (by rw [onI_yes (gramB_yes (by assumption)), onI_yes (gramB_yes (by assumption))]) (bE (gramB_yes (by assumption)).symm)) | (exact tE2 (by rw [onI_no (gramB_no (by assumption)), onI_no (gramB_no (by assumption))]) (bE (Bool.eq_false_iff.2 (gramB_no (by assumption))).symm))
  · skip
    first | (rw [onT_no (gramB_no (by assumption))]; done) | (rw [onT_yes (gramB_yes (by assumption))]; exact backR_all (by omega))
theorem c_laws_r8Back {w : World} {va : Value} {xs : List Int} (ha : Rd EI w va xs) (hN : xs.length ≤ 1000) : Calls Try.prog 31 #[va] w (Ret1 (fun v w' => Ext w w' ∧ ∃ u og_u, v = u ∧ Osl VI w' og_u u (xs.reverse) ∧ Lo w og_u)) := by
  have hB : Ext w w := Ext.refl w
  have hla := ha.leI
  refine callsOf (vs := [_]) Try.func31 rfl Try.ntmps31 rfl rfl ?_
  refine CW.seq ?_
  refine CW.reg ?_
  refine WL.asg rfl rfl ?_
  refine WL.nilS ?_
  refine CW.seq ?_
  refine CW.reg ?_
  refine WL.op rfl (OpK.buildS VI (os := []) [] rfl T.sl28 rfl rfl T.zv2 rfl (by intro z hz; cases hz) rfl (fun v1 g1 w1 hXw1 ho1 hge1 => ?_))
  have hl1 := Lo.new hB hge1
  have hB := hB.trans hXw1
  refine WL.asg rfl rfl ?_
  refine WL.nilS ?_
  refine CW.seq ?_
  refine CW.seq ?_
  refine CW.reg ?_
  refine WL.mv rfl rfl ?_
  refine WL.pure rfl rfl rfl ((by first | exact PV.len rfl (by assumption) T.sl28 | exact PV.lenOs rfl (by assumption) T.sl28 | exact PV.len rfl (NL.rd (by assumption)) T.sl28 | exact PV.len rfl (Inn.rd (by assumption) (by omega)) T.sl28)) ?_
  refine WL.pure rfl rfl rfl (PV.sub rfl rfl (by constructor <;> omega)) ?_
  refine WL.asg rfl rfl ?_
  refine WL.nilS ?_
  refine CW.block ?_
  have hlt1 := ho1.ltO
  refine CW.loop (σk := [(0, _)]) (fun ρ wz m => ∃ (v2 : Value) (og2 : Option Nat) (k : Nat), ρ = [(3, v2), (4, .int .i64 ((xs.length : Int) - 1 - (k : Nat)))] ∧ m = xs.length - k ∧ UpdL [(some g1)] w1 wz ∧ Osl VI wz og2 v2 (xs.reverse.take k) ∧ OgR w1 (some g1) og2 ∧ (k ≤ xs.length)) (ρ₀ := [(3, _), (4, _)]) (m₀ := _) ⟨rfl, rfl, rfl, trivial⟩ ⟨v1, (some g1), 0, (by simp), rfl, (UpdL.refl _ _), osE ho1 (by rfl), OgR.refl _ _, (by first | omega | rfl | (simp; done) | assumption | (simp_all; done))⟩ ?_
  rintro _ wl1 _ ⟨v2, og2, k, rfl, rfl, hU0, ho2, ha2, hk⟩
  have hl2 := Lo.ogr hl1 hB ha2
  have hg0_2 := ha2
  have hk0_2 : OkB [(some g1)] w1 og2 := OkB.ogr (OkB.mem (by simp)) (Nat.le_refl _) ha2
  have hB := hB.loop hU0 ⟨hl1, trivial⟩
  refine CW.seq ?_
  refine CW.seq ?_
  refine CW.reg ?_
  refine WL.mv rfl rfl ?_
  refine WL.pure rfl rfl rfl (PV.geq rfl rfl) ?_
  refine WL.nilS ?_
  refine CW.cond rfl (fun hc1 => ?_) (fun hc1 => ?_)
  · skip
    try simp only [nq] at hc1
    refine CW.skipS ?_
    refine CW.seq ?_
    refine CW.block ?_
    refine CW.reg ?_
    have e9 : ((xs.length : Int) - 1 - (k : Nat)).toNat = xs.length - 1 - k := (by omega); have hlr := List.length_take (i := k) (l := xs.reverse); have hlr2 : xs.reverse.length = xs.length := List.length_reverse
    refine WL.mv rfl rfl ?_
    refine WL.mv rfl rfl ?_
    refine WL.mv rfl rfl ?_
    first
      | refine WL.at (x := .tmp 14) (y := .tmp 15) (E := EI) (0) rfl rfl (by first | assumption | exact Inn.rd (by assumption) (by omega)) (by omega) (fun p1 csp1 hpp1 hcp1 hq => ?_)
      | refine WL.atZ (x := .tmp 14) (y := .tmp 15) (E := EI) (0) rfl rfl (by first | assumption | exact Inn.rd (by assumption) (by omega)) (by omega) (fun p1 csp1 hpp1 hzp1 hcp1 hq => ?_)
    cases hq
    refine WL.pure rfl rfl rfl ((by first | exact PV.indexAddr hpp1 rfl rfl T.sl28 | exact PV.indexAddr hpp1 rfl (by rw [← hzp1]; rfl) T.sl28)) ?_
    refine WL.pure rfl rfl rfl ((by first | exact PV.load0 T.na2 rfl (by first | exact Cells.up (by assumption) hB | exact Bx.cells (by assumption) | assumption) (Ext.refl _) rfl | exact PV.load1 T.na2 rfl (by first | exact Cells.up (by assumption) hB | exact Bx.cells (by assumption) | assumption) (Ext.refl _) rfl)) ?_
    refine WL.op rfl (OpK.buildS VI (os := [.tmp 17]) [_] rfl T.sl28 rfl rfl T.zv2 rfl (by intro z hz; first | rfl | (simp only [List.mem_cons, List.not_mem_nil, or_false] at hz; subst hz; exact (by first | exact Rd.cells1 (by assumption) | exact Osl.cells1 (by assumption) | exact Osn.cells1 (by assumption) | exact Rd.cells1 (NL.rd (by assumption)) | exact Inn.cell1 (by assumption) (by omega) | assumption | rfl))) rfl (fun v3 g3 w2 hXw2 ho3 hge3 => ?_))
    have hl3 := Lo.new hB hge3
    have hd2_3 := Dj.new ho2.ltO hge3
    have hk0_3 := OkN.new hU0 hge3
    have hg0_3 := OgR.new hU0.size hge3
    have hB := hB.trans hXw2
    have ho2 := ho2.up hXw2
    have hU0 := hU0.ext hXw2
    refine WL.op rfl (OpK.appendS (f := VI) rfl T.sl28 T.zv2 rfl rfl ho2 rfl (Osl.src ho3 (fun _ => rfl)) (by first | (simp only [List.length_cons, List.length_nil]; omega) | (omega)) (fun v4 og4 w3 hXw3 ho4 hap4 => ?_))
    have hl4 := Lo.app hl2 hB hap4
    have hd3_4 := Dj.app (Dj.symm hd2_3) ho3.ltO hap4
    have hk0_4 := OkN.app hU0 hk0_2 hap4
    have hg0_4 := OgR.app hg0_2 hU0.size hap4
    have hB := hB.updL hXw3 hl2
    have ho3 := ho3.updD hXw3 (Dj.symm hd2_3)
    have hU0 := hU0.step hXw3 hk0_2
    refine WL.asg rfl rfl ?_
    refine WL.nil ?_
    refine NQ.block ?_
    refine NQ.then ?_
    refine CW.reg ?_
    refine WL.mv rfl rfl ?_
    refine WL.pure rfl rfl rfl (PV.sub rfl rfl (by constructor <;> omega)) ?_
    refine WL.asg rfl rfl ?_
    refine WL.nil ?_
    refine NQ.next (ρ := [(3, _), (4, _)]) ⟨rfl, rfl, rfl, trivial⟩ ?_
    exact ⟨_, ⟨v4, og4, k + 1, (by simp; omega), rfl, hU0, osE ho4 (by rw [e9, rev_put (by omega)]), (by first | exact hg0_4 | exact OgR.weak hg0_4), (by first | omega | assumption | (simp_all; done) | (simp_all; omega))⟩, by omega⟩
  try simp only [nq] at hc1
  refine CW.exit ?_
  refine XQ.then ?_
  refine XQ.then ?_
  refine XQ.here ?_
  refine NQ.then ?_
  refine CW.seq ?_
  refine CW.reg ?_
  refine WL.mv rfl rfl ?_
  refine WL.asg rfl rfl ?_
  refine WL.nilS ?_
  refine CW.ret ?_
  refine RQ.r1 rfl ?_
  refine ⟨hB, v2, og2, ?_, osE ho2 ?_, hl2⟩
  · skip
    rfl
  · skip
    rw [show k = xs.reverse.length from (by rw [List.length_reverse]; omega), List.take_length]
theorem c_impl_Rule_later {w : World} {a0 a1 a2 a3 q : Int} (h0 : 0 ≤ a0 ∧ a0 ≤ 7) (h1 : 0 ≤ a1 ∧ a1 ≤ 7) (h2 : -1 ≤ a2 ∧ a2 ≤ 7) (hq : 0 ≤ q ∧ q ≤ 9) : Calls Try.prog 116 #[.agg #[.int .i64 a0, .int .i64 a1, .int .i64 a2, .int .i64 a3], .int .i64 q] w (Ret1 (RQt (.agg #[.int .i64 (laterR q (a0, a1, a2, a3)).1, .int .i64 (laterR q (a0, a1, a2, a3)).2.1, .int .i64 (laterR q (a0, a1, a2, a3)).2.2.1, .int .i64 (laterR q (a0, a1, a2, a3)).2.2.2]) w)) := by
  have hB : Ext w w := Ext.refl w
  refine callsOf (vs := [_, _]) Try.func116 rfl Try.ntmps116 rfl rfl ?_
  refine CW.seq ?_
  refine CW.reg ?_
  refine WL.op rfl (OpK.box rfl rfl (by first | exact Rd.cells1 (by assumption) | exact Osl.cells1 (by assumption) | exact Osn.cells1 (by assumption) | exact Rd.cells1 (NL.rd (by assumption)) | exact Inn.cell1 (by assumption) (by omega) | assumption | rfl) (fun b1 w1 hXw1 hb1 hge1 => ?_))
  have hl1 := Lo.new hB hge1
  have hB := hB.trans hXw1
  refine WL.op rfl (OpK.alloc rfl T.zv56 rfl (fun b2 w2 hXw2 hb2 hge2 => ?_))
  have hl2 := Lo.new hB hge2
  have hd1_2 := Dj.new hb1.ltO hge2
  have hB := hB.trans hXw2
  have hb1 := hb1.up hXw2
  refine WL.nilS ?_
  refine CW.seq ?_
  refine CW.reg ?_
  refine WL.pure rfl rfl rfl (PV.fieldAddr T.fl56_0 rfl hb1.cells) ?_
  refine WL.pure rfl rfl rfl (PV.load1 T.na2 rfl hb1.cells (Ext.refl _) rfl) ?_
  refine WL.mv rfl rfl ?_
  refine WL.pure rfl rfl rfl (PV.add rfl rfl (by constructor <;> omega)) ?_
  refine WL.pure rfl rfl rfl (PV.fieldAddr T.fl56_0 rfl hb1.cells) ?_
  refine WL.op rfl (OpK.storeB T.sz2 rfl rfl (by first | rfl | exact Osl.oneCell (by assumption) | exact Osn.oneCell (by assumption) | exact Rd.oneCell (by assumption) | exact Rd.oneCell (NL.rd (by assumption)) | assumption) hb1 rfl (fun w3 hXw3 hb1 => ?_))
  have hB := hB.updL hXw3 hl1
  have hb2 := hb2.updD hXw3 (Dj.symm hd1_2)
  refine WL.nilS ?_
  refine CW.seq ?_
  refine CW.seq ?_
  refine CW.reg ?_
  refine WL.pure rfl rfl rfl (PV.fieldAddr T.fl56_2 rfl hb1.cells) ?_
  refine WL.pure rfl rfl rfl (PV.load1 T.na2 rfl hb1.cells (Ext.refl _) rfl) ?_
  refine WL.pure rfl rfl rfl (PV.geq rfl rfl) ?_
  refine WL.nilS ?_
  refine CW.cond rfl (fun hc1 => ?_) (fun hc1 => ?_)
  · skip
    try simp only [nq] at hc1
    refine CW.seq ?_
    refine CW.reg ?_
    refine WL.pure rfl rfl rfl (PV.fieldAddr T.fl56_1 rfl hb1.cells) ?_
    refine WL.pure rfl rfl rfl (PV.load1 T.na2 rfl hb1.cells (Ext.refl _) rfl) ?_
    refine WL.mv rfl rfl ?_
    refine WL.pure rfl rfl rfl (PV.add rfl rfl (by constructor <;> omega)) ?_
    refine WL.pure rfl rfl rfl (PV.fieldAddr T.fl56_1 rfl hb1.cells) ?_
    refine WL.op rfl (OpK.storeB T.sz2 rfl rfl (by first | rfl | exact Osl.oneCell (by assumption) | exact Osn.oneCell (by assumption) | exact Rd.oneCell (by assumption) | exact Rd.oneCell (NL.rd (by assumption)) | assumption) hb1 rfl (fun w4 hXw4 hb1 => ?_))
    have hB := hB.updL hXw4 hl1
    have hb2 := hb2.updD hXw4 (Dj.symm hd1_2)
    refine WL.nilS ?_
    refine CW.reg ?_
    refine WL.pure rfl rfl rfl (PV.fieldAddr T.fl56_2 rfl hb1.cells) ?_
    refine WL.pure rfl rfl rfl (PV.load1 T.na2 rfl hb1.cells (Ext.refl _) rfl) ?_
    refine WL.mv rfl rfl ?_
    refine WL.pure rfl rfl rfl (PV.add rfl rfl (by constructor <;> omega)) ?_
    refine WL.pure rfl rfl rfl (PV.fieldAddr T.fl56_2 rfl hb1.cells) ?_
    refine WL.op rfl (OpK.storeB T.sz2 rfl rfl (by first | rfl | exact Osl.oneCell (by assumption) | exact Osn.oneCell (by assumption) | exact Rd.oneCell (by assumption) | exact Rd.oneCell (NL.rd (by assumption)) | assumption) hb1 rfl (fun w5 hXw5 hb1 => ?_))
    have hB := hB.updL hXw5 hl1
    have hb2 := hb2.updD hXw5 (Dj.symm hd1_2)
    refine WL.nilS ?_
    refine CW.seq ?_
    refine CW.reg ?_
    refine WL.pure rfl rfl rfl (PV.loadA T.ag56 rfl hb1.cells (Ext.refl _) rfl) ?_
    refine WL.op rfl (OpK.storeA T.sz56 rfl rfl rfl rfl (by simp [Value.oneCell'] <;> first | done | (repeat' apply And.intro) <;> first | rfl | exact Osl.oneCell (by assumption) | exact Osn.oneCell (by assumption) | exact Rd.oneCell (by assumption) | exact Rd.oneCell (NL.rd (by assumption)) | assumption) hb2 (fun w6 hXw6 hb2 => ?_))
    have hB := hB.updL hXw6 hl2
    have hb1 := hb1.updD hXw6 hd1_2
    refine WL.nilS ?_
    refine CW.ret ?_
    refine RQ.rc0 T.ag56 rfl (by first | exact Cells.up (by assumption) hB | exact Bx.cells (by assumption) | assumption) rfl ?_
    refine ⟨?_, hB⟩
    first | exact laterV_yes (by omega) | exact laterV_no1 (by omega) | exact laterV_no2 (by omega)
  try simp only [nq] at hc1
  refine CW.skipS ?_
  refine CW.seq ?_
  refine CW.reg ?_
  refine WL.pure rfl rfl rfl (PV.loadA T.ag56 rfl hb1.cells (Ext.refl _) rfl) ?_
  refine WL.op rfl (OpK.storeA T.sz56 rfl rfl rfl rfl (by simp [Value.oneCell'] <;> first | done | (repeat' apply And.intro) <;> first | rfl | exact Osl.oneCell (by assumption) | exact Osn.oneCell (by assumption) | exact Rd.oneCell (by assumption) | exact Rd.oneCell (NL.rd (by assumption)) | assumption) hb2 (fun w7 hXw7 hb2 => ?_))
  have hB := hB.updL hXw7 hl2
  have hb1 := hb1.updD hXw7 hd1_2
  refine WL.nilS ?_
  refine CW.ret ?_
  refine RQ.rc0 T.ag56 rfl (by first | exact Cells.up (by assumption) hB | exact Bx.cells (by assumption) | assumption) rfl ?_
  refine ⟨?_, hB⟩
  first | exact laterV_yes (by omega) | exact laterV_no1 (by omega) | exact laterV_no2 (by omega)
theorem c_impl_validGrammar {w : World} {a0 : Int} {a1 : Int} {va2 : Value} {xa2 : List R4}  (ha2 : Rd ER w va2 xa2) : Calls Try.prog 117 #[.agg #[.int .i64 a0, .int .i64 a1, va2]] w (Ret1 (fun v w' => Ext w w' ∧ (((gramV a0 a1 xa2) ∧ v = .tuple #[.agg #[.int .i64 a0, .int .i64 a1, va2], .bool true]) ∨ ((¬ gramV a0 a1 xa2) ∧ v = .tuple #[.agg #[.int .i64 0, .int .i64 0, .slice none 0 0], .bool false])))) := by
  have hB : Ext w w := Ext.refl w
  have hla2 := ha2.leI
  refine callsOf (vs := [_]) Try.func117 rfl Try.ntmps117 rfl rfl ?_
  refine CW.seq ?_
  refine CW.reg ?_
  refine WL.op rfl (OpK.box rfl rfl (by first | exact Rd.cells1 (by assumption) | exact Osl.cells1 (by assumption) | exact Osn.cells1 (by assumption) | exact Rd.cells1 (NL.rd (by assumption)) | exact Inn.cell1 (by assumption) (by omega) | assumption | rfl) (fun b1 w1 hXw1 hb1 hge1 => ?_))
  have hl1 := Lo.new hB hge1
  have hB := hB.trans hXw1
  refine WL.op rfl (OpK.alloc rfl T.zv33 rfl (fun b2 w2 hXw2 hb2 hge2 => ?_))
  have hl2 := Lo.new hB hge2
  have hd1_2 := Dj.new hb1.ltO hge2
  have hB := hB.trans hXw2
  have hb1 := hb1.up hXw2
  refine WL.asg rfl rfl ?_
  refine WL.nilS ?_
  refine CW.seq ?_
  refine CW.seq ?_
  refine CW.reg ?_
  refine WL.pure rfl rfl rfl (PV.loadA T.ag33 rfl hb1.cells (Ext.refl _) rfl) ?_
  refine WL.op rfl (OpK.callR rfl T.cf103 rfl (c_impl_ValidGrammar (by first | assumption | exact Rd.up (by assumption) hB | exact Osl.rd (by assumption) | exact Osn.rdR (by assumption))) (fun w3 hXw3 => ?_))
  have hB := hB.trans hXw3
  have hb1 := hb1.up hXw3
  have hb2 := hb2.up hXw3
  refine WL.pure rfl rfl rfl (PV.not rfl) ?_
  refine WL.nilS ?_
  refine CW.cond rfl (fun hc1 => ?_) (fun hc1 => ?_)
  · skip
    try simp only [nq] at hc1
    refine CW.seq ?_
    refine CW.reg ?_
    refine WL.pure rfl rfl rfl (PV.build (ks := []) (os := []) (css := []) (ds := [_, _, _]) T.bu33 rfl rfl trivial rfl) ?_
    refine WL.op rfl (OpK.storeA T.sz33 rfl rfl rfl rfl (by simp [Value.oneCell'] <;> first | done | (repeat' apply And.intro) <;> first | rfl | exact Osl.oneCell (by assumption) | exact Osn.oneCell (by assumption) | exact Rd.oneCell (by assumption) | exact Rd.oneCell (NL.rd (by assumption)) | assumption) hb2 (fun w4 hXw4 hb2 => ?_))
    have hB := hB.updL hXw4 hl2
    have hb1 := hb1.updD hXw4 hd1_2
    refine WL.asg rfl rfl ?_
    refine WL.nilS ?_
    refine CW.ret ?_
    refine RQ.then ?_
    refine RQ.rc1 T.ag33 rfl (by first | exact Cells.up (by assumption) hB | exact Bx.cells (by assumption) | assumption) rfl rfl ?_
    first | exact ⟨hB, .inl ⟨by assumption, rfl⟩⟩ | exact ⟨hB, .inr ⟨by assumption, rfl⟩⟩
  try simp only [nq] at hc1
  refine CW.skipS ?_
  refine CW.seq ?_
  refine CW.reg ?_
  refine WL.pure rfl rfl rfl (PV.loadA T.ag33 rfl hb1.cells (Ext.refl _) rfl) ?_
  refine WL.op rfl (OpK.storeA T.sz33 rfl rfl rfl rfl (by simp [Value.oneCell'] <;> first | done | (repeat' apply And.intro) <;> first | rfl | exact Osl.oneCell (by assumption) | exact Osn.oneCell (by assumption) | exact Rd.oneCell (by assumption) | exact Rd.oneCell (NL.rd (by assumption)) | assumption) hb2 (fun w5 hXw5 hb2 => ?_))
  have hB := hB.updL hXw5 hl2
  have hb1 := hb1.updD hXw5 hd1_2
  refine WL.asg rfl rfl ?_
  refine WL.nilS ?_
  refine CW.ret ?_
  refine RQ.rc1 T.ag33 rfl (by first | exact Cells.up (by assumption) hB | exact Bx.cells (by assumption) | assumption) rfl rfl ?_
  first | exact ⟨hB, .inl ⟨by assumption, rfl⟩⟩ | exact ⟨hB, .inr ⟨by assumption, rfl⟩⟩
theorem c_impl_EitherGrammar {w : World} {a0 : Int} {a1 : Int} {va2 : Value} {xa2 : List R4} {y0 : Int} {y1 : Int} {vy2 : Value} {xy2 : List R4}  (ha2 : Rd ER w va2 xa2) (hy2 : Rd ER w vy2 xy2) : Calls Try.prog 32 #[.agg #[.int .i64 a0, .int .i64 a1, va2], .agg #[.int .i64 y0, .int .i64 y1, vy2]] w (Ret1 (fun v w' => Ext w w' ∧ ∃ u2 og_u2, v = .tuple #[.agg #[.int .i64 (onI (eithB a0 a1 xa2 y0 y1 xy2) (1 + a0 + y0)), .int .i64 (onI (eithB a0 a1 xa2 y0 y1 xy2) a1), u2], .bool (eithB a0 a1 xa2 y0 y1 xy2)] ∧ Osn 4 gR w' og_u2 u2 (onT (eithB a0 a1 xa2 y0 y1 xy2) (eithL a0 xa2 xy2)) ∧ Lo w og_u2)) := by
  have hB : Ext w w := Ext.refl w
  have hla2 := ha2.leI; have hly2 := hy2.leI
  refine callsOf (vs := [_, _]) Try.func32 rfl Try.ntmps32 rfl rfl ?_
  refine CW.seq ?_
  refine CW.reg ?_
  refine WL.op rfl (OpK.box rfl rfl (by first | exact Rd.cells1 (by assumption) | exact Osl.cells1 (by assumption) | exact Osn.cells1 (by assumption) | exact Rd.cells1 (NL.rd (by assumption)) | exact Inn.cell1 (by assumption) (by omega) | assumption | rfl) (fun b1 w1 hXw1 hb1 hge1 => ?_))
  have hl1 := Lo.new hB hge1
  have hB := hB.trans hXw1
  refine WL.op rfl (OpK.box rfl rfl (by first | exact Rd.cells1 (by assumption) | exact Osl.cells1 (by assumption) | exact Osn.cells1 (by assumption) | exact Rd.cells1 (NL.rd (by assumption)) | exact Inn.cell1 (by assumption) (by omega) | assumption | rfl) (fun b2 w2 hXw2 hb2 hge2 => ?_))
  have hl2 := Lo.new hB hge2
  have hd1_2 := Dj.new hb1.ltO hge2
  have hB := hB.trans hXw2
  have hb1 := hb1.up hXw2
  refine WL.op rfl (OpK.alloc rfl T.zv33 rfl (fun b3 w3 hXw3 hb3 hge3 => ?_))
  have hl3 := Lo.new hB hge3
  have hd1_3 := Dj.new hb1.ltO hge3
  have hd2_3 := Dj.new hb2.ltO hge3
  have hB := hB.trans hXw3
  have hb1 := hb1.up hXw3
  have hb2 := hb2.up hXw3
  refine WL.asg rfl rfl ?_
  refine WL.nilS ?_
  refine CW.seq ?_
  refine CW.seq ?_
  refine CW.reg ?_
  refine WL.pure rfl rfl rfl (PV.loadA T.ag33 rfl hb1.cells (Ext.refl _) rfl) ?_
  refine WL.op rfl (OpK.callR rfl T.cf103 rfl (c_impl_ValidGrammar (by first | assumption | exact Rd.up (by assumption) hB | exact Osl.rd (by assumption) | exact Osn.rdR (by assumption))) (fun w4 hXw4 => ?_))
  have hB := hB.trans hXw4
  have hb1 := hb1.up hXw4
  have hb2 := hb2.up hXw4
  have hb3 := hb3.up hXw4
  refine WL.pure rfl rfl rfl (PV.not rfl) ?_
  refine WL.mv rfl rfl ?_
  refine WL.split (t := 17) rfl (fun hc1 => ?_) (fun hc1 => ?_)
  · skip
    try simp only [nq] at hc1
    refine WL.skip rfl rfl rfl rfl rfl ?_
    refine WL.skip rfl rfl rfl rfl rfl ?_
    refine WL.skip rfl rfl rfl rfl rfl ?_
    refine WL.pure rfl rfl rfl (PV.pickT rfl rfl) ?_
    refine WL.mv rfl rfl ?_
    refine WL.skip rfl rfl rfl rfl rfl ?_
    refine WL.skip rfl rfl rfl rfl rfl ?_
    refine WL.skip rfl rfl rfl rfl rfl ?_
    refine WL.skip rfl rfl rfl rfl rfl ?_
    refine WL.skip rfl rfl rfl rfl rfl ?_
    refine WL.pure rfl rfl rfl (PV.pickT rfl rfl) ?_
    refine WL.nilS ?_
    refine CW.condT rfl ?_
    refine CW.seq ?_
    refine CW.reg ?_
    refine WL.pure rfl rfl rfl (PV.build (ks := []) (os := []) (css := []) (ds := [_, _, _]) T.bu33 rfl rfl trivial rfl) ?_
    refine WL.op rfl (OpK.storeA T.sz33 rfl rfl rfl rfl (by simp [Value.oneCell'] <;> first | done | (repeat' apply And.intro) <;> first | rfl | exact Osl.oneCell (by assumption) | exact Osn.oneCell (by assumption) | exact Rd.oneCell (by assumption) | exact Rd.oneCell (NL.rd (by assumption)) | assumption) hb3 (fun w5 hXw5 hb3 => ?_))
    have hB := hB.updL hXw5 hl3
    have hb1 := hb1.updD hXw5 hd1_3
    have hb2 := hb2.updD hXw5 hd2_3
    refine WL.asg rfl rfl ?_
    refine WL.nilS ?_
    refine CW.ret ?_
    refine RQ.then ?_
    refine RQ.rc1 T.ag33 rfl (by first | exact Cells.up (by assumption) hB | exact Bx.cells (by assumption) | assumption) rfl rfl ?_
    refine ⟨hB, (.slice none 0 0), none, ?_, osnE (Osn.nil gR_ok _) ?_, Lo.nl _⟩
    · skip
      first | (exact tE2 (by rw [onI_no (by first | exact eithB_n1 (by assumption) | exact eithB_n2 (by assumption) | exact eithB_n3 (by omega) | exact eithB_n4 (by first | assumption | (unfold eithL; first | assumption | (simp only [List.nil_append] at *; assumption)))), onI_no (by first | exact eithB_n1 (by assumption) | exact eithB_n2 (by assumption) | exact eithB_n3 (by omega) | exact eithB_n4 (by first | assumption | (unfold eithL; first | assumption | (simp only [List.nil_append] at *; assumption))))]) (bE (Bool.eq_false_iff.2 (by first | exact eithB_n1 (by assumption) | exact eithB_n2 (by assumption) | exact eithB_n3 (by omega) | exact eithB_n4 (by first | assumption | (unfold eithL; first | assumption | (simp only [List.nil_append] at *; assumption))))).symm)) | (exact tE2 (by rw [onI_yes (eithB_yes (by assumption) (by assumption) (by omega) (by first | assumption | (unfold eithL; first | assumption | (simp only [List.nil_append] at *; assumption)))), onI_yes (eithB_yes (by assumption) (by assumption) (by omega) (by first | assumption | (unfold eithL; first | assumption | (simp only [List.nil_append] at *; assumption))))]; rfl) (bE (eithB_yes (by assumption) (by assumption) (by omega) (by first | assumption | (unfold eithL; first | assumption | (simp only [List.nil_append] at *; assumption)))).symm)) | (exact tE2 (by rw [onI_yes (eithB_yes (by assumption) (by assumption) (by omega) (by first | assumption | (unfold eithL; first | assumption | (simp only [List.nil_append] at *; assumption)))), onI_yes (eithB_yes (by assumption) (by assumption) (by omega) (by first | assumption | (unfold eithL; first | assumption | (simp only [List.nil_append] at *; assumption))))]) (bE (eithB_yes (by assumption) (by assumption) (by omega) (by first | assumption | (unfold eithL; first | assumption | (simp only [List.nil_append] at *; assumption)))).symm))
    · skip
      first | (rw [onT_no (by first | exact eithB_n1 (by assumption) | exact eithB_n2 (by assumption) | exact eithB_n3 (by omega) | exact eithB_n4 (by first | assumption | (unfold eithL; first | assumption | (simp only [List.nil_append] at *; assumption))))]; done) | (rw [onT_yes (eithB_yes (by assumption) (by assumption) (by omega) (by first | assumption | (unfold eithL; first | assumption | (simp only [List.nil_append] at *; assumption))))]; first | done | rfl)
  try simp only [nq] at hc1
  refine WL.pureG rfl rfl rfl rfl rfl (PV.loadA T.ag33 rfl hb2.cells (Ext.refl _) rfl) ?_
  refine WL.opG rfl rfl rfl (OpK.callR rfl T.cf103 rfl (c_impl_ValidGrammar (by first | assumption | exact Rd.up (by assumption) hB | exact Osl.rd (by assumption) | exact Osn.rdR (by assumption))) (fun w6 hXw6 => ?_))
  have hB := hB.trans hXw6
  have hb1 := hb1.up hXw6
  have hb2 := hb2.up hXw6
  have hb3 := hb3.up hXw6
  refine WL.pureG rfl rfl rfl rfl rfl (PV.not rfl) ?_
  refine WL.pure rfl rfl rfl (PV.pickF rfl rfl) ?_
  refine WL.mv rfl rfl ?_
  refine WL.split (t := 22) rfl (fun hc2 => ?_) (fun hc2 => ?_)
  · skip
    try simp only [nq] at hc2
    refine WL.skip rfl rfl rfl rfl rfl ?_
    refine WL.skip rfl rfl rfl rfl rfl ?_
    refine WL.skip rfl rfl rfl rfl rfl ?_
    refine WL.skip rfl rfl rfl rfl rfl ?_
    refine WL.skip rfl rfl rfl rfl rfl ?_
    refine WL.pure rfl rfl rfl (PV.pickT rfl rfl) ?_
    refine WL.nilS ?_
    refine CW.condT rfl ?_
    refine CW.seq ?_
    refine CW.reg ?_
    refine WL.pure rfl rfl rfl (PV.build (ks := []) (os := []) (css := []) (ds := [_, _, _]) T.bu33 rfl rfl trivial rfl) ?_
    refine WL.op rfl (OpK.storeA T.sz33 rfl rfl rfl rfl (by simp [Value.oneCell'] <;> first | done | (repeat' apply And.intro) <;> first | rfl | exact Osl.oneCell (by assumption) | exact Osn.oneCell (by assumption) | exact Rd.oneCell (by assumption) | exact Rd.oneCell (NL.rd (by assumption)) | assumption) hb3 (fun w7 hXw7 hb3 => ?_))
    have hB := hB.updL hXw7 hl3
    have hb1 := hb1.updD hXw7 hd1_3
    have hb2 := hb2.updD hXw7 hd2_3
    refine WL.asg rfl rfl ?_
    refine WL.nilS ?_
    refine CW.ret ?_
    refine RQ.then ?_
    refine RQ.rc1 T.ag33 rfl (by first | exact Cells.up (by assumption) hB | exact Bx.cells (by assumption) | assumption) rfl rfl ?_
    refine ⟨hB, (.slice none 0 0), none, ?_, osnE (Osn.nil gR_ok _) ?_, Lo.nl _⟩
    · skip
      first | (exact tE2 (by rw [onI_no (by first | exact eithB_n1 (by assumption) | exact eithB_n2 (by assumption) | exact eithB_n3 (by omega) | exact eithB_n4 (by first | assumption | (unfold eithL; first | assumption | (simp only [List.nil_append] at *; assumption)))), onI_no (by first | exact eithB_n1 (by assumption) | exact eithB_n2 (by assumption) | exact eithB_n3 (by omega) | exact eithB_n4 (by first | assumption | (unfold eithL; first | assumption | (simp only [List.nil_append] at *; assumption))))]) (bE (Bool.eq_false_iff.2 (by first | exact eithB_n1 (by assumption) | exact eithB_n2 (by assumption) | exact eithB_n3 (by omega) | exact eithB_n4 (by first | assumption | (unfold eithL; first | assumption | (simp only [List.nil_append] at *; assumption))))).symm)) | (exact tE2 (by rw [onI_yes (eithB_yes (by assumption) (by assumption) (by omega) (by first | assumption | (unfold eithL; first | assumption | (simp only [List.nil_append] at *; assumption)))), onI_yes (eithB_yes (by assumption) (by assumption) (by omega) (by first | assumption | (unfold eithL; first | assumption | (simp only [List.nil_append] at *; assumption))))]; rfl) (bE (eithB_yes (by assumption) (by assumption) (by omega) (by first | assumption | (unfold eithL; first | assumption | (simp only [List.nil_append] at *; assumption)))).symm)) | (exact tE2 (by rw [onI_yes (eithB_yes (by assumption) (by assumption) (by omega) (by first | assumption | (unfold eithL; first | assumption | (simp only [List.nil_append] at *; assumption)))), onI_yes (eithB_yes (by assumption) (by assumption) (by omega) (by first | assumption | (unfold eithL; first | assumption | (simp only [List.nil_append] at *; assumption))))]) (bE (eithB_yes (by assumption) (by assumption) (by omega) (by first | assumption | (unfold eithL; first | assumption | (simp only [List.nil_append] at *; assumption)))).symm))
    · skip
      first | (rw [onT_no (by first | exact eithB_n1 (by assumption) | exact eithB_n2 (by assumption) | exact eithB_n3 (by omega) | exact eithB_n4 (by first | assumption | (unfold eithL; first | assumption | (simp only [List.nil_append] at *; assumption))))]; done) | (rw [onT_yes (eithB_yes (by assumption) (by assumption) (by omega) (by first | assumption | (unfold eithL; first | assumption | (simp only [List.nil_append] at *; assumption))))]; first | done | rfl)
  try simp only [nq] at hc2
  refine WL.pureG rfl rfl rfl rfl rfl (PV.fieldAddr T.fl33_1 rfl hb1.cells) ?_
  refine WL.pureG rfl rfl rfl rfl rfl (PV.load1 T.na2 rfl hb1.cells (Ext.refl _) rfl) ?_
  refine WL.pureG rfl rfl rfl rfl rfl (PV.fieldAddr T.fl33_1 rfl hb2.cells) ?_
  refine WL.pureG rfl rfl rfl rfl rfl (PV.load1 T.na2 rfl hb2.cells (Ext.refl _) rfl) ?_
  refine WL.pureG rfl rfl rfl rfl rfl (PV.neq rfl rfl) ?_
  refine WL.pure rfl rfl rfl (PV.pickF rfl rfl) ?_
  refine WL.nilS ?_
  refine CW.cond rfl (fun hc3 => ?_) (fun hc3 => ?_)
  · skip
    try simp only [nq] at hc3
    refine CW.seq ?_
    refine CW.reg ?_
    refine WL.pure rfl rfl rfl (PV.build (ks := []) (os := []) (css := []) (ds := [_, _, _]) T.bu33 rfl rfl trivial rfl) ?_
    refine WL.op rfl (OpK.storeA T.sz33 rfl rfl rfl rfl (by simp [Value.oneCell'] <;> first | done | (repeat' apply And.intro) <;> first | rfl | exact Osl.oneCell (by assumption) | exact Osn.oneCell (by assumption) | exact Rd.oneCell (by assumption) | exact Rd.oneCell (NL.rd (by assumption)) | assumption) hb3 (fun w8 hXw8 hb3 => ?_))
    have hB := hB.updL hXw8 hl3
    have hb1 := hb1.updD hXw8 hd1_3
    have hb2 := hb2.updD hXw8 hd2_3
    refine WL.asg rfl rfl ?_
    refine WL.nilS ?_
    refine CW.ret ?_
    refine RQ.then ?_
    refine RQ.rc1 T.ag33 rfl (by first | exact Cells.up (by assumption) hB | exact Bx.cells (by assumption) | assumption) rfl rfl ?_
    refine ⟨hB, (.slice none 0 0), none, ?_, osnE (Osn.nil gR_ok _) ?_, Lo.nl _⟩
    · skip
      first | (exact tE2 (by rw [onI_no (by first | exact eithB_n1 (by assumption) | exact eithB_n2 (by assumption) | exact eithB_n3 (by omega) | exact eithB_n4 (by first | assumption | (unfold eithL; first | assumption | (simp only [List.nil_append] at *; assumption)))), onI_no (by first | exact eithB_n1 (by assumption) | exact eithB_n2 (by assumption) | exact eithB_n3 (by omega) | exact eithB_n4 (by first | assumption | (unfold eithL; first | assumption | (simp only [List.nil_append] at *; assumption))))]) (bE (Bool.eq_false_iff.2 (by first | exact eithB_n1 (by assumption) | exact eithB_n2 (by assumption) | exact eithB_n3 (by omega) | exact eithB_n4 (by first | assumption | (unfold eithL; first | assumption | (simp only [List.nil_append] at *; assumption))))).symm)) | (exact tE2 (by rw [onI_yes (eithB_yes (by assumption) (by assumption) (by omega) (by first | assumption | (unfold eithL; first | assumption | (simp only [List.nil_append] at *; assumption)))), onI_yes (eithB_yes (by assumption) (by assumption) (by omega) (by first | assumption | (unfold eithL; first | assumption | (simp only [List.nil_append] at *; assumption))))]; rfl) (bE (eithB_yes (by assumption) (by assumption) (by omega) (by first | assumption | (unfold eithL; first | assumption | (simp only [List.nil_append] at *; assumption)))).symm)) | (exact tE2 (by rw [onI_yes (eithB_yes (by assumption) (by assumption) (by omega) (by first | assumption | (unfold eithL; first | assumption | (simp only [List.nil_append] at *; assumption)))), onI_yes (eithB_yes (by assumption) (by assumption) (by omega) (by first | assumption | (unfold eithL; first | assumption | (simp only [List.nil_append] at *; assumption))))]) (bE (eithB_yes (by assumption) (by assumption) (by omega) (by first | assumption | (unfold eithL; first | assumption | (simp only [List.nil_append] at *; assumption)))).symm))
    · skip
      first | (rw [onT_no (by first | exact eithB_n1 (by assumption) | exact eithB_n2 (by assumption) | exact eithB_n3 (by omega) | exact eithB_n4 (by first | assumption | (unfold eithL; first | assumption | (simp only [List.nil_append] at *; assumption))))]; done) | (rw [onT_yes (eithB_yes (by assumption) (by assumption) (by omega) (by first | assumption | (unfold eithL; first | assumption | (simp only [List.nil_append] at *; assumption))))]; first | done | rfl)
  try simp only [nq] at hc3
  refine CW.skipS ?_
  refine CW.seq ?_
  refine CW.reg ?_
  have gA := (by assumption : gramV a0 a1 xa2); have gY := (by assumption : gramV y0 y1 xy2); have gA1 := gA.1; have gY1 := gY.1; have gA3 := gA.2.2.1; have gY3 := gY.2.2.1; have mlA := mapL_len 1 xa2; have mlB := mapL_len (1 + a0) xy2
  refine WL.op rfl (OpK.buildN (g := gR) (os := []) [] gR_ok rfl T.sl31 rfl rfl T.zv56 rfl rfl (fun v4 g4 w9 hXw9 ho4 hge4 => ?_))
  have hl4 := Lo.new hB hge4
  have hd1_4 := Dj.new hb1.ltO hge4
  have hd2_4 := Dj.new hb2.ltO hge4
  have hd3_4 := Dj.new hb3.ltO hge4
  have hB := hB.trans hXw9
  have hb1 := hb1.up hXw9
  have hb2 := hb2.up hXw9
  have hb3 := hb3.up hXw9
  refine WL.asg rfl rfl ?_
  refine WL.nilS ?_
  refine CW.seq ?_
  refine CW.seq ?_
  refine CW.reg ?_
  refine WL.pure rfl rfl rfl (PV.fieldAddr T.fl33_2 rfl hb1.cells) ?_
  refine WL.pure rfl rfl rfl (PV.load1 T.na31 rfl hb1.cells (Ext.refl _) rfl) ?_
  refine WL.pure rfl rfl rfl ((by first | exact PV.len rfl (by assumption) T.sl31 | exact PV.lenOs rfl (by assumption) T.sl31 | exact PV.len rfl (NL.rd (by assumption)) T.sl31 | exact PV.len rfl (Inn.rd (by assumption) (by omega)) T.sl31)) ?_
  refine WL.mv rfl rfl ?_
  refine WL.nilS ?_
  refine CW.block ?_
  have hlt1 := hb1.ltO
  have hlt2 := hb2.ltO
  have hlt3 := hb3.ltO
  have hlt4 := ho4.ltO
  refine CW.loop (σk := [(2, _), (3, _), (4, _), (32, _), (33, _)]) (fun ρ wz m => ∃ (v5 : Value) (og5 : Option Nat) (k : Nat), ρ = [(6, v5), (34, .int .i64 (k : Nat))] ∧ m = xa2.length - k ∧ UpdL [(some g4)] w9 wz ∧ Osn 4 gR wz og5 v5 ([] ++ mapL 1 (xa2.take k)) ∧ OgR w9 (some g4) og5 ∧ (k ≤ xa2.length)) (ρ₀ := [(6, _), (34, _)]) (m₀ := _) ⟨rfl, rfl, rfl, rfl, rfl, rfl, rfl, trivial⟩ ⟨v4, (some g4), 0, rfl, rfl, (UpdL.refl _ _), osnE ho4 (by exact mapL_zero _ _ _), OgR.refl _ _, (by first | omega | rfl | (simp; done) | assumption | (simp_all; done))⟩ ?_
  rintro _ wl1 _ ⟨v5, og5, k, rfl, rfl, hU0, ho5, ha5, hk⟩
  have hb1 := hb1.loop hU0 ⟨hd1_4, trivial⟩
  have hb2 := hb2.loop hU0 ⟨hd2_4, trivial⟩
  have hb3 := hb3.loop hU0 ⟨hd3_4, trivial⟩
  have hl5 := Lo.ogr hl4 hB ha5
  have hg0_5 := ha5
  have hk0_5 : OkB [(some g4)] w9 og5 := OkB.ogr (OkB.mem (by simp)) (Nat.le_refl _) ha5
  have hd1_5 := Dj.ogr hd1_4 hlt1 ha5
  have hd2_5 := Dj.ogr hd2_4 hlt2 ha5
  have hd3_5 := Dj.ogr hd3_4 hlt3 ha5
  have hB := hB.loop hU0 ⟨hl4, trivial⟩
  have hal := mapL_lenK 1 xa2 k
  refine CW.seq ?_
  refine CW.reg ?_
  refine WL.pure rfl rfl rfl (PV.lss rfl rfl) ?_
  refine WL.nilS ?_
  refine CW.seq ?_
  refine CW.cond rfl (fun hc4 => ?_) (fun hc4 => ?_)
  · skip
    try simp only [nq] at hc4
    refine CW.skipS ?_
    refine CW.seq ?_
    refine CW.block ?_
    refine CW.seq ?_
    refine CW.reg ?_
    first
      | refine WL.at (x := .tmp 32) (y := .tmp 34) (E := ER) ((0, 0, 0, 0)) rfl rfl (by first | assumption | exact Inn.rd (by assumption) (by omega)) (by first | omega | (simp only [List.length_set]; omega) | (simp only [List.length_append, List.length_take, List.length_replicate, List.length_drop]; omega)) (fun p1 csp1 hpp1 hcp1 hq => ?_)
      | refine WL.atZ (x := .tmp 32) (y := .tmp 34) (E := ER) ((0, 0, 0, 0)) rfl rfl (by first | assumption | exact Inn.rd (by assumption) (by omega)) (by first | omega | (simp only [List.length_set]; omega) | (simp only [List.length_append, List.length_take, List.length_replicate, List.length_drop]; omega)) (fun p1 csp1 hpp1 hzp1 hcp1 hq => ?_)
    cases hq
    refine WL.pure rfl rfl rfl ((by first | exact PV.indexAddr hpp1 rfl rfl T.sl31 | exact PV.indexAddr hpp1 rfl (by rw [← hzp1]; rfl) T.sl31)) ?_
    refine WL.pure rfl rfl rfl ((by first | exact PV.loadA T.ag56 rfl (by first | exact Cells.up (by assumption) hB | exact Bx.cells (by assumption) | assumption) (Ext.refl _) rfl | exact PV.loadP (ds := [_, _, _, _]) T.ag56 rfl (by first | exact Cells.up (by assumption) hB | exact Bx.cells (by assumption) | assumption) (Ext.refl _) rfl rfl)) ?_
    refine WL.op rfl (OpK.alloc rfl T.zv56 rfl (fun b6 w10 hXw10 hb6 hge6 => ?_))
    have hl6 := Lo.new hB hge6
    have hd1_6 := Dj.new hb1.ltO hge6
    have hd2_6 := Dj.new hb2.ltO hge6
    have hd3_6 := Dj.new hb3.ltO hge6
    have hd5_6 := Dj.new ho5.ltO hge6
    have hk0_6 := OkN.new hU0 hge6
    have hg0_6 := OgR.new hU0.size hge6
    have hB := hB.trans hXw10
    have hb1 := hb1.up hXw10
    have hb2 := hb2.up hXw10
    have hb3 := hb3.up hXw10
    have ho5 := ho5.up hXw10
    have hU0 := hU0.ext hXw10
    refine WL.op rfl (OpK.storeA T.sz56 rfl rfl rfl rfl (by simp [Value.oneCell'] <;> first | done | (repeat' apply And.intro) <;> first | rfl | exact Osl.oneCell (by assumption) | exact Osn.oneCell (by assumption) | exact Rd.oneCell (by assumption) | exact Rd.oneCell (NL.rd (by assumption)) | assumption) hb6 (fun w11 hXw11 hb6 => ?_))
    have hB := hB.updL hXw11 hl6
    have hb1 := hb1.updD hXw11 hd1_6
    have hb2 := hb2.updD hXw11 hd2_6
    have hb3 := hb3.updD hXw11 hd3_6
    have ho5 := ho5.updD hXw11 hd5_6
    have hU0 := hU0.step hXw11 hk0_6
    refine WL.nilS ?_
    refine CW.reg ?_
    refine WL.mv rfl rfl ?_
    refine WL.pure rfl rfl rfl (PV.loadA T.ag56 rfl hb6.cells (Ext.refl _) rfl) ?_
    have hok := gA.2.2.2 k (by omega); have ok1 := hok.1; have ok2 := hok.2.1; have ok4 := hok.2.2.2.1; have ok5 := hok.2.2.2.2; have hgr2 := gA.2.1
    refine WL.op rfl (OpK.callR rfl T.cf116 rfl (c_impl_Rule_later (by first | assumption | omega | (simp only [marks_len]; omega)) (by first | assumption | omega | (simp only [marks_len]; omega)) (by first | assumption | omega | (simp only [marks_len]; omega)) (by first | assumption | omega | (simp only [marks_len]; omega))) (fun w12 hXw12 => ?_))
    have hB := hB.trans hXw12
    have hb1 := hb1.up hXw12
    have hb2 := hb2.up hXw12
    have hb3 := hb3.up hXw12
    have ho5 := ho5.up hXw12
    have hb6 := hb6.up hXw12
    have hU0 := hU0.ext hXw12
    refine WL.op rfl (OpK.build4 (os := [.tmp 40]) rfl T.sl31 rfl rfl T.zv56 rfl rfl (fun v7 g7 w13 hXw13 ho7 hge7 => ?_))
    have hl7 := Lo.new hB hge7
    have hd1_7 := Dj.new hb1.ltO hge7
    have hd2_7 := Dj.new hb2.ltO hge7
    have hd3_7 := Dj.new hb3.ltO hge7
    have hd5_7 := Dj.new ho5.ltO hge7
    have hd6_7 := Dj.new hb6.ltO hge7
    have hk0_7 := OkN.new hU0 hge7
    have hg0_7 := OgR.new hU0.size hge7
    have hB := hB.trans hXw13
    have hb1 := hb1.up hXw13
    have hb2 := hb2.up hXw13
    have hb3 := hb3.up hXw13
    have ho5 := ho5.up hXw13
    have hb6 := hb6.up hXw13
    have hU0 := hU0.ext hXw13
    refine WL.op rfl (OpK.appendN (g := gR) rfl T.sl31 T.zv56 rfl rfl ho5 rfl (Osn.src ho7) (by first | (simp only [List.length_cons, List.length_nil]; omega) | (simp_all; omega)) (fun v8 og8 w14 hXw14 ho8 hap8 => ?_))
    have hl8 := Lo.app hl5 hB hap8
    have hd1_8 := Dj.app hd1_5 hb1.ltO hap8
    have hd2_8 := Dj.app hd2_5 hb2.ltO hap8
    have hd3_8 := Dj.app hd3_5 hb3.ltO hap8
    have hd6_8 := Dj.app (Dj.symm hd5_6) hb6.ltO hap8
    have hd7_8 := Dj.app (Dj.symm hd5_7) ho7.ltO hap8
    have hk0_8 := OkN.app hU0 hk0_5 hap8
    have hg0_8 := OgR.app hg0_5 hU0.size hap8
    have hB := hB.updL hXw14 hl5
    have hb1 := hb1.updD hXw14 hd1_5
    have hb2 := hb2.updD hXw14 hd2_5
    have hb3 := hb3.updD hXw14 hd3_5
    have hb6 := hb6.updD hXw14 (Dj.symm hd5_6)
    have ho7 := ho7.updD hXw14 (Dj.symm hd5_7)
    have hU0 := hU0.step hXw14 hk0_5
    refine WL.asg rfl rfl ?_
    refine WL.nil ?_
    refine NQ.block ?_
    refine NQ.then ?_
    refine CW.reg ?_
    refine WL.pure rfl rfl rfl (PV.add rfl rfl (by constructor <;> omega)) ?_
    refine WL.mv rfl rfl ?_
    refine WL.nil ?_
    refine NQ.next (ρ := [(6, _), (34, _)]) ⟨rfl, rfl, rfl, rfl, rfl, rfl, rfl, trivial⟩ ?_
    exact ⟨_, ⟨v8, og8, k + 1, rfl, rfl, hU0, osnE ho8 (by exact mapL_put (by omega) rfl), (by first | exact hg0_8 | exact OgR.weak hg0_8), (by first | omega | assumption | (simp_all; done) | (simp_all; omega))⟩, by omega⟩
  try simp only [nq] at hc4
  refine CW.exit ?_
  refine XQ.then ?_
  refine XQ.then ?_
  refine XQ.here ?_
  refine NQ.then ?_
  refine CW.seq ?_
  refine CW.seq ?_
  refine CW.reg ?_
  refine WL.pure rfl rfl rfl (PV.fieldAddr T.fl33_2 rfl hb2.cells) ?_
  refine WL.pure rfl rfl rfl (PV.load1 T.na31 rfl hb2.cells (Ext.refl _) rfl) ?_
  refine WL.pure rfl rfl rfl ((by first | exact PV.len rfl (by assumption) T.sl31 | exact PV.lenOs rfl (by assumption) T.sl31 | exact PV.len rfl (NL.rd (by assumption)) T.sl31 | exact PV.len rfl (Inn.rd (by assumption) (by omega)) T.sl31)) ?_
  refine WL.mv rfl rfl ?_
  refine WL.nilS ?_
  refine CW.block ?_
  have hlt1 := hb1.ltO
  have hlt2 := hb2.ltO
  have hlt3 := hb3.ltO
  have hlt5 := ho5.ltO
  refine CW.loop (σk := [(2, _), (3, _), (4, _), (45, _), (46, _)]) (fun ρ wz m => ∃ (v9 : Value) (og9 : Option Nat) (k : Nat), ρ = [(6, v9), (47, .int .i64 (k : Nat))] ∧ m = xy2.length - k ∧ UpdL [og5] wl1 wz ∧ Osn 4 gR wz og9 v9 (mapL 1 xa2 ++ mapL (1 + a0) (xy2.take k)) ∧ OgR wl1 og5 og9 ∧ (k ≤ xy2.length)) (ρ₀ := [(6, _), (47, _)]) (m₀ := _) ⟨rfl, rfl, rfl, rfl, rfl, rfl, rfl, trivial⟩ ⟨v5, og5, 0, rfl, rfl, (UpdL.refl _ _), osnE ho5 (by rw [mapL_done (by omega)]; exact mapL_zero _ _ _), OgR.refl _ _, (by first | omega | rfl | (simp; done) | assumption | (simp_all; done))⟩ ?_
  rintro _ wl2 _ ⟨v9, og9, k, rfl, rfl, hU1, ho9, ha9, hk⟩
  have hb1 := hb1.loop hU1 ⟨hd1_5, trivial⟩
  have hb2 := hb2.loop hU1 ⟨hd2_5, trivial⟩
  have hb3 := hb3.loop hU1 ⟨hd3_5, trivial⟩
  have hl9 := Lo.ogr hl5 hB ha9
  have hg1_9 := ha9
  have hk1_9 : OkB [og5] wl1 og9 := OkB.ogr (OkB.mem (by simp)) (Nat.le_refl _) ha9
  have hd1_9 := Dj.ogr hd1_5 hlt1 ha9
  have hd2_9 := Dj.ogr hd2_5 hlt2 ha9
  have hd3_9 := Dj.ogr hd3_5 hlt3 ha9
  have hB := hB.loop hU1 ⟨hl5, trivial⟩
  have hal := mapL_lenK (1 + a0) xy2 k; have hall : (mapL 1 xa2 ++ mapL (1 + a0) (xy2.take k)).length = (mapL 1 xa2).length + (mapL (1 + a0) (xy2.take k)).length := List.length_append
  refine CW.seq ?_
  refine CW.reg ?_
  refine WL.pure rfl rfl rfl (PV.lss rfl rfl) ?_
  refine WL.nilS ?_
  refine CW.seq ?_
  refine CW.cond rfl (fun hc5 => ?_) (fun hc5 => ?_)
  · skip
    try simp only [nq] at hc5
    refine CW.skipS ?_
    refine CW.seq ?_
    refine CW.block ?_
    refine CW.seq ?_
    refine CW.reg ?_
    first
      | refine WL.at (x := .tmp 45) (y := .tmp 47) (E := ER) ((0, 0, 0, 0)) rfl rfl (by first | assumption | exact Inn.rd (by assumption) (by omega)) (by first | omega | (simp only [List.length_set]; omega) | (simp only [List.length_append, List.length_take, List.length_replicate, List.length_drop]; omega)) (fun p2 csp2 hpp2 hcp2 hq => ?_)
      | refine WL.atZ (x := .tmp 45) (y := .tmp 47) (E := ER) ((0, 0, 0, 0)) rfl rfl (by first | assumption | exact Inn.rd (by assumption) (by omega)) (by first | omega | (simp only [List.length_set]; omega) | (simp only [List.length_append, List.length_take, List.length_replicate, List.length_drop]; omega)) (fun p2 csp2 hpp2 hzp2 hcp2 hq => ?_)
    cases hq
    refine WL.pure rfl rfl rfl ((by first | exact PV.indexAddr hpp2 rfl rfl T.sl31 | exact PV.indexAddr hpp2 rfl (by rw [← hzp2]; rfl) T.sl31)) ?_
    refine WL.pure rfl rfl rfl ((by first | exact PV.loadA T.ag56 rfl (by first | exact Cells.up (by assumption) hB | exact Bx.cells (by assumption) | assumption) (Ext.refl _) rfl | exact PV.loadP (ds := [_, _, _, _]) T.ag56 rfl (by first | exact Cells.up (by assumption) hB | exact Bx.cells (by assumption) | assumption) (Ext.refl _) rfl rfl)) ?_
    refine WL.op rfl (OpK.alloc rfl T.zv56 rfl (fun b10 w15 hXw15 hb10 hge10 => ?_))
    have hl10 := Lo.new hB hge10
    have hd1_10 := Dj.new hb1.ltO hge10
    have hd2_10 := Dj.new hb2.ltO hge10
    have hd3_10 := Dj.new hb3.ltO hge10
    have hd9_10 := Dj.new ho9.ltO hge10
    have hk1_10 := OkN.new hU1 hge10
    have hg1_10 := OgR.new hU1.size hge10
    have hB := hB.trans hXw15
    have hb1 := hb1.up hXw15
    have hb2 := hb2.up hXw15
    have hb3 := hb3.up hXw15
    have ho9 := ho9.up hXw15
    have hU1 := hU1.ext hXw15
    refine WL.op rfl (OpK.storeA T.sz56 rfl rfl rfl rfl (by simp [Value.oneCell'] <;> first | done | (repeat' apply And.intro) <;> first | rfl | exact Osl.oneCell (by assumption) | exact Osn.oneCell (by assumption) | exact Rd.oneCell (by assumption) | exact Rd.oneCell (NL.rd (by assumption)) | assumption) hb10 (fun w16 hXw16 hb10 => ?_))
    have hB := hB.updL hXw16 hl10
    have hb1 := hb1.updD hXw16 hd1_10
    have hb2 := hb2.updD hXw16 hd2_10
    have hb3 := hb3.updD hXw16 hd3_10
    have ho9 := ho9.updD hXw16 hd9_10
    have hU1 := hU1.step hXw16 hk1_10
    refine WL.nilS ?_
    refine CW.reg ?_
    refine WL.mv rfl rfl ?_
    refine WL.pure rfl rfl rfl (PV.loadA T.ag56 rfl hb10.cells (Ext.refl _) rfl) ?_
    refine WL.pure rfl rfl rfl (PV.fieldAddr T.fl33_0 rfl hb1.cells) ?_
    refine WL.pure rfl rfl rfl (PV.load1 T.na2 rfl hb1.cells (Ext.refl _) rfl) ?_
    refine WL.pure rfl rfl rfl (PV.add rfl rfl (by constructor <;> omega)) ?_
    have hok := gY.2.2.2 k (by omega); have ok1 := hok.1; have ok2 := hok.2.1; have ok4 := hok.2.2.2.1; have ok5 := hok.2.2.2.2; have hgr2 := gY.2.1
    refine WL.op rfl (OpK.callR rfl T.cf116 rfl (c_impl_Rule_later (by first | assumption | omega | (simp only [marks_len]; omega)) (by first | assumption | omega | (simp only [marks_len]; omega)) (by first | assumption | omega | (simp only [marks_len]; omega)) (by first | assumption | omega | (simp only [marks_len]; omega))) (fun w17 hXw17 => ?_))
    have hB := hB.trans hXw17
    have hb1 := hb1.up hXw17
    have hb2 := hb2.up hXw17
    have hb3 := hb3.up hXw17
    have ho9 := ho9.up hXw17
    have hb10 := hb10.up hXw17
    have hU1 := hU1.ext hXw17
    refine WL.op rfl (OpK.build4 (os := [.tmp 56]) rfl T.sl31 rfl rfl T.zv56 rfl rfl (fun v11 g11 w18 hXw18 ho11 hge11 => ?_))
    have hl11 := Lo.new hB hge11
    have hd1_11 := Dj.new hb1.ltO hge11
    have hd2_11 := Dj.new hb2.ltO hge11
    have hd3_11 := Dj.new hb3.ltO hge11
    have hd9_11 := Dj.new ho9.ltO hge11
    have hd10_11 := Dj.new hb10.ltO hge11
    have hk1_11 := OkN.new hU1 hge11
    have hg1_11 := OgR.new hU1.size hge11
    have hB := hB.trans hXw18
    have hb1 := hb1.up hXw18
    have hb2 := hb2.up hXw18
    have hb3 := hb3.up hXw18
    have ho9 := ho9.up hXw18
    have hb10 := hb10.up hXw18
    have hU1 := hU1.ext hXw18
    refine WL.op rfl (OpK.appendN (g := gR) rfl T.sl31 T.zv56 rfl rfl ho9 rfl (Osn.src ho11) (by first | (simp only [List.length_cons, List.length_nil]; omega) | (simp_all; omega)) (fun v12 og12 w19 hXw19 ho12 hap12 => ?_))
    have hl12 := Lo.app hl9 hB hap12
    have hd1_12 := Dj.app hd1_9 hb1.ltO hap12
    have hd2_12 := Dj.app hd2_9 hb2.ltO hap12
    have hd3_12 := Dj.app hd3_9 hb3.ltO hap12
    have hd10_12 := Dj.app (Dj.symm hd9_10) hb10.ltO hap12
    have hd11_12 := Dj.app (Dj.symm hd9_11) ho11.ltO hap12
    have hk1_12 := OkN.app hU1 hk1_9 hap12
    have hg1_12 := OgR.app hg1_9 hU1.size hap12
    have hB := hB.updL hXw19 hl9
    have hb1 := hb1.updD hXw19 hd1_9
    have hb2 := hb2.updD hXw19 hd2_9
    have hb3 := hb3.updD hXw19 hd3_9
    have hb10 := hb10.updD hXw19 (Dj.symm hd9_10)
    have ho11 := ho11.updD hXw19 (Dj.symm hd9_11)
    have hU1 := hU1.step hXw19 hk1_9
    refine WL.asg rfl rfl ?_
    refine WL.nil ?_
    refine NQ.block ?_
    refine NQ.then ?_
    refine CW.reg ?_
    refine WL.pure rfl rfl rfl (PV.add rfl rfl (by constructor <;> omega)) ?_
    refine WL.mv rfl rfl ?_
    refine WL.nil ?_
    refine NQ.next (ρ := [(6, _), (47, _)]) ⟨rfl, rfl, rfl, rfl, rfl, rfl, rfl, trivial⟩ ?_
    exact ⟨_, ⟨v12, og12, k + 1, rfl, rfl, hU1, osnE ho12 (by exact mapL_put (by omega) rfl), (by first | exact hg1_12 | exact OgR.weak hg1_12), (by first | omega | assumption | (simp_all; done) | (simp_all; omega))⟩, by omega⟩
  try simp only [nq] at hc5
  refine CW.exit ?_
  refine XQ.then ?_
  refine XQ.then ?_
  refine XQ.here ?_
  refine NQ.then ?_
  refine CW.seq ?_
  refine CW.reg ?_
  refine WL.pure rfl rfl rfl (PV.fieldAddr T.fl33_0 rfl hb1.cells) ?_
  refine WL.pure rfl rfl rfl (PV.load1 T.na2 rfl hb1.cells (Ext.refl _) rfl) ?_
  refine WL.pure rfl rfl rfl (PV.add rfl rfl (by constructor <;> omega)) ?_
  refine WL.pure rfl rfl rfl (PV.fieldAddr T.fl33_0 rfl hb2.cells) ?_
  refine WL.pure rfl rfl rfl (PV.load1 T.na2 rfl hb2.cells (Ext.refl _) rfl) ?_
  refine WL.pure rfl rfl rfl (PV.add rfl rfl (by constructor <;> omega)) ?_
  refine WL.pure rfl rfl rfl (PV.fieldAddr T.fl33_1 rfl hb1.cells) ?_
  refine WL.pure rfl rfl rfl (PV.load1 T.na2 rfl hb1.cells (Ext.refl _) rfl) ?_
  refine WL.pure rfl rfl rfl (PV.build (ks := [0, 1]) (os := [.tmp 65, .tmp 67]) (css := [[_], [_]]) (ds := [_, _, _]) T.bu33 rfl rfl ⟨rfl, rfl, trivial⟩ rfl) ?_
  refine WL.op rfl (OpK.alloc rfl T.zv33 rfl (fun b13 w20 hXw20 hb13 hge13 => ?_))
  have hl13 := Lo.new hB hge13
  have hd1_13 := Dj.new hb1.ltO hge13
  have hd2_13 := Dj.new hb2.ltO hge13
  have hd3_13 := Dj.new hb3.ltO hge13
  have hd9_13 := Dj.new ho9.ltO hge13
  have hB := hB.trans hXw20
  have hb1 := hb1.up hXw20
  have hb2 := hb2.up hXw20
  have hb3 := hb3.up hXw20
  have ho9 := ho9.up hXw20
  refine WL.op rfl (OpK.storeA T.sz33 rfl rfl rfl rfl (by simp [Value.oneCell'] <;> first | done | (repeat' apply And.intro) <;> first | rfl | exact Osl.oneCell (by assumption) | exact Osn.oneCell (by assumption) | exact Rd.oneCell (by assumption) | exact Rd.oneCell (NL.rd (by assumption)) | assumption) hb13 (fun w21 hXw21 hb13 => ?_))
  have hB := hB.updL hXw21 hl13
  have hb1 := hb1.updD hXw21 hd1_13
  have hb2 := hb2.updD hXw21 hd2_13
  have hb3 := hb3.updD hXw21 hd3_13
  have ho9 := ho9.updD hXw21 hd9_13
  refine WL.nilS ?_
  refine CW.seq ?_
  refine CW.seq ?_
  refine CW.reg ?_
  have hmd := mapL_done (A := mapL 1 xa2) (q := 1 + a0) (rs := xy2) (k := k) (by omega); rw [hmd] at ho9; have hall2 : (mapL 1 xa2 ++ mapL (1 + a0) xy2).length = (mapL 1 xa2).length + (mapL (1 + a0) xy2).length := List.length_append
  refine WL.mv rfl rfl ?_
  refine WL.pure rfl rfl rfl ((PV.lenOsn rfl ho9 T.sl31)) ?_
  refine WL.mv rfl rfl ?_
  refine WL.nilS ?_
  refine CW.block ?_
  have ho14 : Osn 4 gR w21 none (.slice none 0 0) [] := (Osn.nil gR_ok _)
  have hl14 : Lo w none := Lo.nl _
  have hd1_14 : Dj (some b1.block) none := Dj.nlR _
  have hd2_14 : Dj (some b2.block) none := Dj.nlR _
  have hd3_14 : Dj (some b3.block) none := Dj.nlR _
  have hd9_14 : Dj og9 none := Dj.nlR _
  have hd13_14 : Dj (some b13.block) none := Dj.nlR _
  have hlt1 := hb1.ltO
  have hlt2 := hb2.ltO
  have hlt3 := hb3.ltO
  have hlt9 := ho9.ltO
  have hlt13 := hb13.ltO
  have hlt14 := ho14.ltO
  refine CW.loop (σk := [(2, _), (4, _), (6, _), (11, _), (69, _), (70, _)]) (fun ρ wz m => ∃ (v15 : Value) (og15 : Option Nat) (k : Nat), ρ = [(71, .int .i64 (k : Nat))] ∧ m = (mapL 1 xa2 ++ mapL (1 + a0) xy2).length - k ∧ UpdL [none, (some b13.block)] w21 wz ∧ Osn 4 gR wz og15 v15 (firstL a0 ((mapL 1 xa2 ++ mapL (1 + a0) xy2).take k)) ∧ OgR w21 none og15 ∧ Bx wz b13 [.int .i64 (1 + a0 + y0), .int .i64 a1, v15] ∧ (k ≤ (mapL 1 xa2 ++ mapL (1 + a0) xy2).length)) (ρ₀ := [(71, _)]) (m₀ := _) ⟨rfl, rfl, rfl, rfl, rfl, rfl, rfl, trivial⟩ ⟨(.slice none 0 0), none, 0, rfl, rfl, (UpdL.refl _ _), osnE ho14 (by rfl), OgR.refl _ _, bxE hb13 (by first | rfl | (simp_all; done) | (simp_all; omega)), (by first | omega | rfl | (simp; done) | assumption | (simp_all; done))⟩ ?_
  rintro _ wl3 _ ⟨v15, og15, k, rfl, rfl, hU2, ho15, ha15, hb13, hk⟩
  have hb1 := hb1.loop hU2 ⟨hd1_14, hd1_13, trivial⟩
  have hb2 := hb2.loop hU2 ⟨hd2_14, hd2_13, trivial⟩
  have hb3 := hb3.loop hU2 ⟨hd3_14, hd3_13, trivial⟩
  have ho9 := ho9.loop hU2 ⟨hd9_14, hd9_13, trivial⟩
  have hl15 := Lo.ogr hl14 hB ha15
  have hg2_15 := ha15
  have hk2_15 : OkB [none, (some b13.block)] w21 og15 := OkB.ogr (OkB.mem (by simp)) (Nat.le_refl _) ha15
  have hd1_15 := Dj.ogr hd1_14 hlt1 ha15
  have hd2_15 := Dj.ogr hd2_14 hlt2 ha15
  have hd3_15 := Dj.ogr hd3_14 hlt3 ha15
  have hd9_15 := Dj.ogr hd9_14 hlt9 ha15
  have hd13_15 := Dj.ogr hd13_14 hlt13 ha15
  have hk2_13 : OkB [none, (some b13.block)] w21 (some b13.block) := OkB.mem (by simp)
  have hB := hB.loop hU2 ⟨hl14, hl13, trivial⟩
  have hfl := firstL_lenK a0 (mapL 1 xa2 ++ mapL (1 + a0) xy2) k
  refine CW.seq ?_
  refine CW.reg ?_
  refine WL.pure rfl rfl rfl (PV.lss rfl rfl) ?_
  refine WL.nilS ?_
  refine CW.seq ?_
  refine CW.cond rfl (fun hc6 => ?_) (fun hc6 => ?_)
  · skip
    try simp only [nq] at hc6
    refine CW.skipS ?_
    refine CW.seq ?_
    refine CW.block ?_
    refine CW.seq ?_
    refine CW.reg ?_
    have hrdp3 := ho9.rdR
    first
      | refine WL.at (x := .tmp 69) (y := .tmp 71) (E := ER) ((0, 0, 0, 0)) rfl rfl hrdp3 (by first | omega | (simp only [List.length_set]; omega) | (simp only [List.length_append, List.length_take, List.length_replicate, List.length_drop]; omega)) (fun p3 csp3 hpp3 hcp3 hq => ?_)
      | refine WL.atZ (x := .tmp 69) (y := .tmp 71) (E := ER) ((0, 0, 0, 0)) rfl rfl hrdp3 (by first | omega | (simp only [List.length_set]; omega) | (simp only [List.length_append, List.length_take, List.length_replicate, List.length_drop]; omega)) (fun p3 csp3 hpp3 hzp3 hcp3 hq => ?_)
    cases hq
    refine WL.pure rfl rfl rfl ((by first | exact PV.indexAddr hpp3 rfl rfl T.sl31 | exact PV.indexAddr hpp3 rfl (by rw [← hzp3]; rfl) T.sl31)) ?_
    refine WL.pure rfl rfl rfl ((by first | exact PV.loadA T.ag56 rfl (by first | exact Cells.up (by assumption) hB | exact Bx.cells (by assumption) | assumption) (Ext.refl _) rfl | exact PV.loadP (ds := [_, _, _, _]) T.ag56 rfl (by first | exact Cells.up (by assumption) hB | exact Bx.cells (by assumption) | assumption) (Ext.refl _) rfl rfl)) ?_
    refine WL.op rfl (OpK.alloc rfl T.zv56 rfl (fun b17 w22 hXw22 hb17 hge17 => ?_))
    have hl17 := Lo.new hB hge17
    have hd1_17 := Dj.new hb1.ltO hge17
    have hd2_17 := Dj.new hb2.ltO hge17
    have hd3_17 := Dj.new hb3.ltO hge17
    have hd9_17 := Dj.new ho9.ltO hge17
    have hd13_17 := Dj.new hb13.ltO hge17
    have hd15_17 := Dj.new ho15.ltO hge17
    have hk2_17 := OkN.new hU2 hge17
    have hg2_17 := OgR.new hU2.size hge17
    have hB := hB.trans hXw22
    have hb1 := hb1.up hXw22
    have hb2 := hb2.up hXw22
    have hb3 := hb3.up hXw22
    have ho9 := ho9.up hXw22
    have hb13 := hb13.up hXw22
    have ho15 := ho15.up hXw22
    have hU2 := hU2.ext hXw22
    refine WL.op rfl (OpK.storeA T.sz56 rfl rfl rfl rfl (by simp [Value.oneCell'] <;> first | done | (repeat' apply And.intro) <;> first | rfl | exact Osl.oneCell (by assumption) | exact Osn.oneCell (by assumption) | exact Rd.oneCell (by assumption) | exact Rd.oneCell (NL.rd (by assumption)) | assumption) hb17 (fun w23 hXw23 hb17 => ?_))
    have hB := hB.updL hXw23 hl17
    have hb1 := hb1.updD hXw23 hd1_17
    have hb2 := hb2.updD hXw23 hd2_17
    have hb3 := hb3.updD hXw23 hd3_17
    have ho9 := ho9.updD hXw23 hd9_17
    have hb13 := hb13.updD hXw23 hd13_17
    have ho15 := ho15.updD hXw23 hd15_17
    have hU2 := hU2.step hXw23 hk2_17
    refine WL.nilS ?_
    refine CW.seq ?_
    refine CW.reg ?_
    refine WL.pure rfl rfl rfl (PV.fieldAddr T.fl56_0 rfl hb17.cells) ?_
    refine WL.pure rfl rfl rfl (PV.load1 T.na2 rfl hb17.cells (Ext.refl _) rfl) ?_
    refine WL.pure rfl rfl rfl (PV.eql rfl rfl) ?_
    refine WL.mv rfl rfl ?_
    refine WL.split (t := 78) rfl (fun hc7 => ?_) (fun hc7 => ?_)
    · skip
      try simp only [nq] at hc7
      refine WL.skip rfl rfl rfl rfl rfl ?_
      refine WL.skip rfl rfl rfl rfl rfl ?_
      refine WL.skip rfl rfl rfl rfl rfl ?_
      refine WL.skip rfl rfl rfl rfl rfl ?_
      refine WL.skip rfl rfl rfl rfl rfl ?_
      refine WL.skip rfl rfl rfl rfl rfl ?_
      refine WL.pure rfl rfl rfl (PV.pickT rfl rfl) ?_
      refine WL.nilS ?_
      refine CW.condT rfl ?_
      refine CW.seq ?_
      refine CW.reg ?_
      refine WL.pure rfl rfl rfl (PV.fieldAddr T.fl56_0 rfl hb17.cells) ?_
      refine WL.op rfl (OpK.storeB T.sz2 rfl rfl (by first | rfl | exact Osl.oneCell (by assumption) | exact Osn.oneCell (by assumption) | exact Rd.oneCell (by assumption) | exact Rd.oneCell (NL.rd (by assumption)) | assumption) hb17 rfl (fun w24 hXw24 hb17 => ?_))
      have hB := hB.updL hXw24 hl17
      have hb1 := hb1.updD hXw24 hd1_17
      have hb2 := hb2.updD hXw24 hd2_17
      have hb3 := hb3.updD hXw24 hd3_17
      have ho9 := ho9.updD hXw24 hd9_17
      have hb13 := hb13.updD hXw24 hd13_17
      have ho15 := ho15.updD hXw24 hd15_17
      have hU2 := hU2.step hXw24 hk2_17
      refine WL.nilS ?_
      refine CW.reg ?_
      refine WL.pure rfl rfl rfl (PV.fieldAddr T.fl33_2 rfl hb13.cells) ?_
      refine WL.pure rfl rfl rfl (PV.load1 T.na31 rfl hb13.cells (Ext.refl _) rfl) ?_
      refine WL.pure rfl rfl rfl (PV.loadA T.ag56 rfl hb17.cells (Ext.refl _) rfl) ?_
      refine WL.op rfl (OpK.build4 (os := [.tmp 89]) rfl T.sl31 rfl rfl T.zv56 rfl rfl (fun v18 g18 w25 hXw25 ho18 hge18 => ?_))
      have hl18 := Lo.new hB hge18
      have hd1_18 := Dj.new hb1.ltO hge18
      have hd2_18 := Dj.new hb2.ltO hge18
      have hd3_18 := Dj.new hb3.ltO hge18
      have hd9_18 := Dj.new ho9.ltO hge18
      have hd13_18 := Dj.new hb13.ltO hge18
      have hd15_18 := Dj.new ho15.ltO hge18
      have hd17_18 := Dj.new hb17.ltO hge18
      have hk2_18 := OkN.new hU2 hge18
      have hg2_18 := OgR.new hU2.size hge18
      have hB := hB.trans hXw25
      have hb1 := hb1.up hXw25
      have hb2 := hb2.up hXw25
      have hb3 := hb3.up hXw25
      have ho9 := ho9.up hXw25
      have hb13 := hb13.up hXw25
      have ho15 := ho15.up hXw25
      have hb17 := hb17.up hXw25
      have hU2 := hU2.ext hXw25
      refine WL.op rfl (OpK.appendN (g := gR) rfl T.sl31 T.zv56 rfl rfl ho15 rfl (Osn.src ho18) (by first | (simp only [List.length_cons, List.length_nil]; omega) | (simp_all; omega)) (fun v19 og19 w26 hXw26 ho19 hap19 => ?_))
      have hl19 := Lo.app hl15 hB hap19
      have hd1_19 := Dj.app hd1_15 hb1.ltO hap19
      have hd2_19 := Dj.app hd2_15 hb2.ltO hap19
      have hd3_19 := Dj.app hd3_15 hb3.ltO hap19
      have hd9_19 := Dj.app hd9_15 ho9.ltO hap19
      have hd13_19 := Dj.app hd13_15 hb13.ltO hap19
      have hd17_19 := Dj.app (Dj.symm hd15_17) hb17.ltO hap19
      have hd18_19 := Dj.app (Dj.symm hd15_18) ho18.ltO hap19
      have hk2_19 := OkN.app hU2 hk2_15 hap19
      have hg2_19 := OgR.app hg2_15 hU2.size hap19
      have hB := hB.updL hXw26 hl15
      have hb1 := hb1.updD hXw26 hd1_15
      have hb2 := hb2.updD hXw26 hd2_15
      have hb3 := hb3.updD hXw26 hd3_15
      have ho9 := ho9.updD hXw26 hd9_15
      have hb13 := hb13.updD hXw26 hd13_15
      have hb17 := hb17.updD hXw26 (Dj.symm hd15_17)
      have ho18 := ho18.updD hXw26 (Dj.symm hd15_18)
      have hU2 := hU2.step hXw26 hk2_15
      refine WL.pure rfl rfl rfl (PV.fieldAddr T.fl33_2 rfl hb13.cells) ?_
      refine WL.op rfl (OpK.storeB T.sz31 rfl rfl (by first | rfl | exact Osl.oneCell (by assumption) | exact Osn.oneCell (by assumption) | exact Rd.oneCell (by assumption) | exact Rd.oneCell (NL.rd (by assumption)) | assumption) hb13 rfl (fun w27 hXw27 hb13 => ?_))
      have hB := hB.updL hXw27 hl13
      have hb1 := hb1.updD hXw27 hd1_13
      have hb2 := hb2.updD hXw27 hd2_13
      have hb3 := hb3.updD hXw27 hd3_13
      have ho9 := ho9.updD hXw27 hd9_13
      have hb17 := hb17.updD hXw27 (Dj.symm hd13_17)
      have ho18 := ho18.updD hXw27 (Dj.symm hd13_18)
      have ho19 := ho19.updD hXw27 (Dj.symm hd13_19)
      have hU2 := hU2.step hXw27 hk2_13
      refine WL.nil ?_
      refine NQ.block ?_
      refine NQ.then ?_
      refine CW.reg ?_
      refine WL.pure rfl rfl rfl (PV.add rfl rfl (by constructor <;> omega)) ?_
      refine WL.mv rfl rfl ?_
      refine WL.nil ?_
      refine NQ.next (ρ := [(71, _)]) ⟨rfl, rfl, rfl, rfl, rfl, rfl, rfl, trivial⟩ ?_
      exact ⟨_, ⟨v19, og19, k + 1, rfl, rfl, hU2, osnE ho19 (by first | exact firstL_yes (by omega) (by omega) rfl | exact firstL_no (by omega) (by omega)), (by first | exact hg2_19 | exact OgR.weak hg2_19), bxE hb13 (by first | rfl | (simp_all; done) | (simp_all; omega)), (by first | omega | assumption | (simp_all; done) | (simp_all; omega))⟩, by omega⟩
    try simp only [nq] at hc7
    refine WL.pureG rfl rfl rfl rfl rfl (PV.fieldAddr T.fl56_0 rfl hb17.cells) ?_
    refine WL.pureG rfl rfl rfl rfl rfl (PV.load1 T.na2 rfl hb17.cells (Ext.refl _) rfl) ?_
    refine WL.pureG rfl rfl rfl rfl rfl (PV.fieldAddr T.fl33_0 rfl hb1.cells) ?_
    refine WL.pureG rfl rfl rfl rfl rfl (PV.load1 T.na2 rfl hb1.cells (Ext.refl _) rfl) ?_
    refine WL.pureG rfl rfl rfl rfl rfl (PV.add rfl rfl (by constructor <;> omega)) ?_
    refine WL.pureG rfl rfl rfl rfl rfl (PV.eql rfl rfl) ?_
    refine WL.pure rfl rfl rfl (PV.pickF rfl rfl) ?_
    refine WL.nilS ?_
    refine CW.cond rfl (fun hc8 => ?_) (fun hc8 => ?_)
    · skip
      try simp only [nq] at hc8
      refine CW.seq ?_
      refine CW.reg ?_
      refine WL.pure rfl rfl rfl (PV.fieldAddr T.fl56_0 rfl hb17.cells) ?_
      refine WL.op rfl (OpK.storeB T.sz2 rfl rfl (by first | rfl | exact Osl.oneCell (by assumption) | exact Osn.oneCell (by assumption) | exact Rd.oneCell (by assumption) | exact Rd.oneCell (NL.rd (by assumption)) | assumption) hb17 rfl (fun w28 hXw28 hb17 => ?_))
      have hB := hB.updL hXw28 hl17
      have hb1 := hb1.updD hXw28 hd1_17
      have hb2 := hb2.updD hXw28 hd2_17
      have hb3 := hb3.updD hXw28 hd3_17
      have ho9 := ho9.updD hXw28 hd9_17
      have hb13 := hb13.updD hXw28 hd13_17
      have ho15 := ho15.updD hXw28 hd15_17
      have hU2 := hU2.step hXw28 hk2_17
      refine WL.nilS ?_
      refine CW.reg ?_
      refine WL.pure rfl rfl rfl (PV.fieldAddr T.fl33_2 rfl hb13.cells) ?_
      refine WL.pure rfl rfl rfl (PV.load1 T.na31 rfl hb13.cells (Ext.refl _) rfl) ?_
      refine WL.pure rfl rfl rfl (PV.loadA T.ag56 rfl hb17.cells (Ext.refl _) rfl) ?_
      refine WL.op rfl (OpK.build4 (os := [.tmp 89]) rfl T.sl31 rfl rfl T.zv56 rfl rfl (fun v20 g20 w29 hXw29 ho20 hge20 => ?_))
      have hl20 := Lo.new hB hge20
      have hd1_20 := Dj.new hb1.ltO hge20
      have hd2_20 := Dj.new hb2.ltO hge20
      have hd3_20 := Dj.new hb3.ltO hge20
      have hd9_20 := Dj.new ho9.ltO hge20
      have hd13_20 := Dj.new hb13.ltO hge20
      have hd15_20 := Dj.new ho15.ltO hge20
      have hd17_20 := Dj.new hb17.ltO hge20
      have hk2_20 := OkN.new hU2 hge20
      have hg2_20 := OgR.new hU2.size hge20
      have hB := hB.trans hXw29
      have hb1 := hb1.up hXw29
      have hb2 := hb2.up hXw29
      have hb3 := hb3.up hXw29
      have ho9 := ho9.up hXw29
      have hb13 := hb13.up hXw29
      have ho15 := ho15.up hXw29
      have hb17 := hb17.up hXw29
      have hU2 := hU2.ext hXw29
      refine WL.op rfl (OpK.appendN (g := gR) rfl T.sl31 T.zv56 rfl rfl ho15 rfl (Osn.src ho20) (by first | (simp only [List.length_cons, List.length_nil]; omega) | (simp_all; omega)) (fun v21 og21 w30 hXw30 ho21 hap21 => ?_))
      have hl21 := Lo.app hl15 hB hap21
      have hd1_21 := Dj.app hd1_15 hb1.ltO hap21
      have hd2_21 := Dj.app hd2_15 hb2.ltO hap21
      have hd3_21 := Dj.app hd3_15 hb3.ltO hap21
      have hd9_21 := Dj.app hd9_15 ho9.ltO hap21
      have hd13_21 := Dj.app hd13_15 hb13.ltO hap21
      have hd17_21 := Dj.app (Dj.symm hd15_17) hb17.ltO hap21
      have hd20_21 := Dj.app (Dj.symm hd15_20) ho20.ltO hap21
      have hk2_21 := OkN.app hU2 hk2_15 hap21
      have hg2_21 := OgR.app hg2_15 hU2.size hap21
      have hB := hB.updL hXw30 hl15
      have hb1 := hb1.updD hXw30 hd1_15
      have hb2 := hb2.updD hXw30 hd2_15
      have hb3 := hb3.updD hXw30 hd3_15
      have ho9 := ho9.updD hXw30 hd9_15
      have hb13 := hb13.updD hXw30 hd13_15
      have hb17 := hb17.updD hXw30 (Dj.symm hd15_17)
      have ho20 := ho20.updD hXw30 (Dj.symm hd15_20)
      have hU2 := hU2.step hXw30 hk2_15
      refine WL.pure rfl rfl rfl (PV.fieldAddr T.fl33_2 rfl hb13.cells) ?_
      refine WL.op rfl (OpK.storeB T.sz31 rfl rfl (by first | rfl | exact Osl.oneCell (by assumption) | exact Osn.oneCell (by assumption) | exact Rd.oneCell (by assumption) | exact Rd.oneCell (NL.rd (by assumption)) | assumption) hb13 rfl (fun w31 hXw31 hb13 => ?_))
      have hB := hB.updL hXw31 hl13
      have hb1 := hb1.updD hXw31 hd1_13
      have hb2 := hb2.updD hXw31 hd2_13
      have hb3 := hb3.updD hXw31 hd3_13
      have ho9 := ho9.updD hXw31 hd9_13
      have hb17 := hb17.updD hXw31 (Dj.symm hd13_17)
      have ho20 := ho20.updD hXw31 (Dj.symm hd13_20)
      have ho21 := ho21.updD hXw31 (Dj.symm hd13_21)
      have hU2 := hU2.step hXw31 hk2_13
      refine WL.nil ?_
      refine NQ.block ?_
      refine NQ.then ?_
      refine CW.reg ?_
      refine WL.pure rfl rfl rfl (PV.add rfl rfl (by constructor <;> omega)) ?_
      refine WL.mv rfl rfl ?_
      refine WL.nil ?_
      refine NQ.next (ρ := [(71, _)]) ⟨rfl, rfl, rfl, rfl, rfl, rfl, rfl, trivial⟩ ?_
      exact ⟨_, ⟨v21, og21, k + 1, rfl, rfl, hU2, osnE ho21 (by first | exact firstL_yes (by omega) (by omega) rfl | exact firstL_no (by omega) (by omega)), (by first | exact hg2_21 | exact OgR.weak hg2_21), bxE hb13 (by first | rfl | (simp_all; done) | (simp_all; omega)), (by first | omega | assumption | (simp_all; done) | (simp_all; omega))⟩, by omega⟩
    try simp only [nq] at hc8
    refine CW.skip ?_
    refine NQ.block ?_
    refine NQ.then ?_
    refine CW.reg ?_
    refine WL.pure rfl rfl rfl (PV.add rfl rfl (by constructor <;> omega)) ?_
    refine WL.mv rfl rfl ?_
    refine WL.nil ?_
    refine NQ.next (ρ := [(71, _)]) ⟨rfl, rfl, rfl, rfl, rfl, rfl, rfl, trivial⟩ ?_
    exact ⟨_, ⟨v15, og15, k + 1, rfl, rfl, hU2, osnE ho15 (by first | exact firstL_yes (by omega) (by omega) rfl | exact firstL_no (by omega) (by omega)), (by first | exact hg2_15 | exact OgR.weak hg2_15), bxE hb13 (by first | rfl | (simp_all; done) | (simp_all; omega)), (by first | omega | assumption | (simp_all; done) | (simp_all; omega))⟩, by omega⟩
  try simp only [nq] at hc6
  refine CW.exit ?_
  refine XQ.then ?_
  refine XQ.then ?_
  refine XQ.here ?_
  refine NQ.then ?_
  refine CW.seq ?_
  refine CW.reg ?_
  have htk : (mapL 1 xa2 ++ mapL (1 + a0) xy2).take k = mapL 1 xa2 ++ mapL (1 + a0) xy2 := List.take_of_length_le (by omega); rw [htk] at ho15; have hfl := firstL_len a0 (mapL 1 xa2 ++ mapL (1 + a0) xy2)
  refine WL.pure rfl rfl rfl (PV.fieldAddr T.fl33_2 rfl hb13.cells) ?_
  refine WL.pure rfl rfl rfl (PV.load1 T.na31 rfl hb13.cells (Ext.refl _) rfl) ?_
  refine WL.mv rfl rfl ?_
  refine WL.op rfl (OpK.appendN (g := gR) rfl T.sl31 T.zv56 rfl rfl ho15 rfl (Osn.src ho9) (by first | (simp only [List.length_cons, List.length_nil]; omega) | (omega)) (fun v22 og22 w32 hXw32 ho22 hap22 => ?_))
  have hl22 := Lo.app hl15 hB hap22
  have hd1_22 := Dj.app hd1_15 hb1.ltO hap22
  have hd2_22 := Dj.app hd2_15 hb2.ltO hap22
  have hd3_22 := Dj.app hd3_15 hb3.ltO hap22
  have hd9_22 := Dj.app hd9_15 ho9.ltO hap22
  have hd13_22 := Dj.app hd13_15 hb13.ltO hap22
  have hB := hB.updL hXw32 hl15
  have hb1 := hb1.updD hXw32 hd1_15
  have hb2 := hb2.updD hXw32 hd2_15
  have hb3 := hb3.updD hXw32 hd3_15
  have ho9 := ho9.updD hXw32 hd9_15
  have hb13 := hb13.updD hXw32 hd13_15
  refine WL.pure rfl rfl rfl (PV.fieldAddr T.fl33_2 rfl hb13.cells) ?_
  refine WL.op rfl (OpK.storeB T.sz31 rfl rfl (by first | rfl | exact Osl.oneCell (by assumption) | exact Osn.oneCell (by assumption) | exact Rd.oneCell (by assumption) | exact Rd.oneCell (NL.rd (by assumption)) | assumption) hb13 rfl (fun w33 hXw33 hb13 => ?_))
  have hB := hB.updL hXw33 hl13
  have hb1 := hb1.updD hXw33 hd1_13
  have hb2 := hb2.updD hXw33 hd2_13
  have hb3 := hb3.updD hXw33 hd3_13
  have ho9 := ho9.updD hXw33 hd9_13
  have ho22 := ho22.updD hXw33 (Dj.symm hd13_22)
  refine WL.nilS ?_
  refine CW.seq ?_
  refine CW.reg ?_
  rw [either_eq gA gY] at ho22
  refine WL.pure rfl rfl rfl (PV.loadA T.ag33 rfl hb13.cells (Ext.refl _) rfl) ?_
  refine WL.op rfl (OpK.call rfl T.cf117 rfl (c_impl_validGrammar (Osn.rdR ho22)) (fun rv1 w34 hR => ?_))
  rcases hR with ⟨hXw34, ⟨hal, rfl⟩ | ⟨hal, rfl⟩⟩
  · skip
    have hB := hB.trans hXw34
    have hb1 := hb1.up hXw34
    have hb2 := hb2.up hXw34
    have hb3 := hb3.up hXw34
    have ho9 := ho9.up hXw34
    have hb13 := hb13.up hXw34
    have ho22 := ho22.up hXw34
    refine WL.pure rfl rfl rfl (PV.extract rfl rfl) ?_
    refine WL.pure rfl rfl rfl (PV.extract rfl rfl) ?_
    refine WL.op rfl (OpK.storeA T.sz33 rfl rfl rfl rfl (by simp [Value.oneCell'] <;> first | done | (repeat' apply And.intro) <;> first | rfl | exact Osl.oneCell (by assumption) | exact Osn.oneCell (by assumption) | exact Rd.oneCell (by assumption) | exact Rd.oneCell (NL.rd (by assumption)) | assumption) hb3 (fun w35 hXw35 hb3 => ?_))
    have hB := hB.updL hXw35 hl3
    have hb1 := hb1.updD hXw35 hd1_3
    have hb2 := hb2.updD hXw35 hd2_3
    have ho9 := ho9.updD hXw35 (Dj.symm hd3_9)
    have hb13 := hb13.updD hXw35 (Dj.symm hd3_13)
    have ho22 := ho22.updD hXw35 (Dj.symm hd3_22)
    refine WL.asg rfl rfl ?_
    refine WL.nilS ?_
    refine CW.ret ?_
    refine RQ.rc1 T.ag33 rfl (by first | exact Cells.up (by assumption) hB | exact Bx.cells (by assumption) | assumption) rfl rfl ?_
    refine ⟨hB, v22, og22, ?_, osnE ho22 ?_, hl22⟩
    · skip
      first | (exact tE2 (by rw [onI_no (by first | exact eithB_n1 (by assumption) | exact eithB_n2 (by assumption) | exact eithB_n3 (by omega) | exact eithB_n4 (by first | assumption | (unfold eithL; first | assumption | (simp only [List.nil_append] at *; assumption)))), onI_no (by first | exact eithB_n1 (by assumption) | exact eithB_n2 (by assumption) | exact eithB_n3 (by omega) | exact eithB_n4 (by first | assumption | (unfold eithL; first | assumption | (simp only [List.nil_append] at *; assumption))))]) (bE (Bool.eq_false_iff.2 (by first | exact eithB_n1 (by assumption) | exact eithB_n2 (by assumption) | exact eithB_n3 (by omega) | exact eithB_n4 (by first | assumption | (unfold eithL; first | assumption | (simp only [List.nil_append] at *; assumption))))).symm)) | (exact tE2 (by rw [onI_yes (eithB_yes (by assumption) (by assumption) (by omega) (by first | assumption | (unfold eithL; first | assumption | (simp only [List.nil_append] at *; assumption)))), onI_yes (eithB_yes (by assumption) (by assumption) (by omega) (by first | assumption | (unfold eithL; first | assumption | (simp only [List.nil_append] at *; assumption))))]; rfl) (bE (eithB_yes (by assumption) (by assumption) (by omega) (by first | assumption | (unfold eithL; first | assumption | (simp only [List.nil_append] at *; assumption)))).symm)) | (exact tE2 (by rw [onI_yes (eithB_yes (by assumption) (by assumption) (by omega) (by first | assumption | (unfold eithL; first | assumption | (simp only [List.nil_append] at *; assumption)))), onI_yes (eithB_yes (by assumption) (by assumption) (by omega) (by first | assumption | (unfold eithL; first | assumption | (simp only [List.nil_append] at *; assumption))))]) (bE (eithB_yes (by assumption) (by assumption) (by omega) (by first | assumption | (unfold eithL; first | assumption | (simp only [List.nil_append] at *; assumption)))).symm))
    · skip
      first | (rw [onT_no (by first | exact eithB_n1 (by assumption) | exact eithB_n2 (by assumption) | exact eithB_n3 (by omega) | exact eithB_n4 (by first | assumption | (unfold eithL; first | assumption | (simp only [List.nil_append] at *; assumption))))]; done) | (rw [onT_yes (eithB_yes (by assumption) (by assumption) (by omega) (by first | assumption | (unfold eithL; first | assumption | (simp only [List.nil_append] at *; assumption))))]; first | done | rfl)
  · skip
    have hB := hB.trans hXw34
    have hb1 := hb1.up hXw34
    have hb2 := hb2.up hXw34
    have hb3 := hb3.up hXw34
    have ho9 := ho9.up hXw34
    have hb13 := hb13.up hXw34
    have ho22 := ho22.up hXw34
    refine WL.pure rfl rfl rfl (PV.extract rfl rfl) ?_
    refine WL.pure rfl rfl rfl (PV.extract rfl rfl) ?_
    refine WL.op rfl (OpK.storeA T.sz33 rfl rfl rfl rfl (by simp [Value.oneCell'] <;> first | done | (repeat' apply And.intro) <;> first | rfl | exact Osl.oneCell (by assumption) | exact Osn.oneCell (by assumption) | exact Rd.oneCell (by assumption) | exact Rd.oneCell (NL.rd (by assumption)) | assumption) hb3 (fun w36 hXw36 hb3 => ?_))
    have hB := hB.updL hXw36 hl3
    have hb1 := hb1.updD hXw36 hd1_3
    have hb2 := hb2.updD hXw36 hd2_3
    have ho9 := ho9.updD hXw36 (Dj.symm hd3_9)
    have hb13 := hb13.updD hXw36 (Dj.symm hd3_13)
    have ho22 := ho22.updD hXw36 (Dj.symm hd3_22)
    refine WL.asg rfl rfl ?_
    refine WL.nilS ?_
    refine CW.ret ?_
    refine RQ.rc1 T.ag33 rfl (by first | exact Cells.up (by assumption) hB | exact Bx.cells (by assumption) | assumption) rfl rfl ?_
    refine ⟨hB, (.slice none 0 0), none, ?_, osnE (Osn.nil gR_ok _) ?_, Lo.nl _⟩
    · skip
      first | (exact tE2 (by rw [onI_no (by first | exact eithB_n1 (by assumption) | exact eithB_n2 (by assumption) | exact eithB_n3 (by omega) | exact eithB_n4 (by first | assumption | (unfold eithL; first | assumption | (simp only [List.nil_append] at *; assumption)))), onI_no (by first | exact eithB_n1 (by assumption) | exact eithB_n2 (by assumption) | exact eithB_n3 (by omega) | exact eithB_n4 (by first | assumption | (unfold eithL; first | assumption | (simp only [List.nil_append] at *; assumption))))]) (bE (Bool.eq_false_iff.2 (by first | exact eithB_n1 (by assumption) | exact eithB_n2 (by assumption) | exact eithB_n3 (by omega) | exact eithB_n4 (by first | assumption | (unfold eithL; first | assumption | (simp only [List.nil_append] at *; assumption))))).symm)) | (exact tE2 (by rw [onI_yes (eithB_yes (by assumption) (by assumption) (by omega) (by first | assumption | (unfold eithL; first | assumption | (simp only [List.nil_append] at *; assumption)))), onI_yes (eithB_yes (by assumption) (by assumption) (by omega) (by first | assumption | (unfold eithL; first | assumption | (simp only [List.nil_append] at *; assumption))))]; rfl) (bE (eithB_yes (by assumption) (by assumption) (by omega) (by first | assumption | (unfold eithL; first | assumption | (simp only [List.nil_append] at *; assumption)))).symm)) | (exact tE2 (by rw [onI_yes (eithB_yes (by assumption) (by assumption) (by omega) (by first | assumption | (unfold eithL; first | assumption | (simp only [List.nil_append] at *; assumption)))), onI_yes (eithB_yes (by assumption) (by assumption) (by omega) (by first | assumption | (unfold eithL; first | assumption | (simp only [List.nil_append] at *; assumption))))]) (bE (eithB_yes (by assumption) (by assumption) (by omega) (by first | assumption | (unfold eithL; first | assumption | (simp only [List.nil_append] at *; assumption)))).symm))
    · skip
      first | (rw [onT_no (by first | exact eithB_n1 (by assumption) | exact eithB_n2 (by assumption) | exact eithB_n3 (by omega) | exact eithB_n4 (by first | assumption | (unfold eithL; first | assumption | (simp only [List.nil_append] at *; assumption))))]; done) | (rw [onT_yes (eithB_yes (by assumption) (by assumption) (by omega) (by first | assumption | (unfold eithL; first | assumption | (simp only [List.nil_append] at *; assumption))))]; first | done | rfl)
theorem c_laws_r8Less {w : World} {x y : Int} : Calls Try.prog 33 #[.int .i64 x, .int .i64 y] w (Ret1 (RQt (.int .i64 (lessR x y)) w)) := by
  have hB : Ext w w := Ext.refl w
  refine callsOf (vs := [_, _]) Try.func33 rfl Try.ntmps33 rfl rfl ?_
  refine CW.seq ?_
  refine CW.reg ?_
  refine WL.asg rfl rfl ?_
  refine WL.nilS ?_
  refine CW.seq ?_
  refine CW.seq ?_
  refine CW.reg ?_
  refine WL.mv rfl rfl ?_
  refine WL.pure rfl rfl rfl (PV.lss rfl rfl) ?_
  refine WL.nilS ?_
  refine CW.cond rfl (fun hc1 => ?_) (fun hc1 => ?_)
  · skip
    try simp only [nq] at hc1
    refine CW.seq ?_
    refine CW.reg ?_
    refine WL.mv rfl rfl ?_
    refine WL.asg rfl rfl ?_
    refine WL.nilS ?_
    refine CW.ret ?_
    refine RQ.then ?_
    refine RQ.r1 rfl ?_
    refine ⟨?_, hB⟩
    exact iE (by unfold lessR; (repeat' split) <;> omega)
  try simp only [nq] at hc1
  refine CW.skipS ?_
  refine CW.seq ?_
  refine CW.seq ?_
  refine CW.reg ?_
  refine WL.mv rfl rfl ?_
  refine WL.pure rfl rfl rfl (PV.lss rfl rfl) ?_
  refine WL.nilS ?_
  refine CW.cond rfl (fun hc2 => ?_) (fun hc2 => ?_)
  · skip
    try simp only [nq] at hc2
    refine CW.seq ?_
    refine CW.reg ?_
    refine WL.mv rfl rfl ?_
    refine WL.asg rfl rfl ?_
    refine WL.nilS ?_
    refine CW.ret ?_
    refine RQ.then ?_
    refine RQ.r1 rfl ?_
    refine ⟨?_, hB⟩
    exact iE (by unfold lessR; (repeat' split) <;> omega)
  try simp only [nq] at hc2
  refine CW.skipS ?_
  refine CW.seq ?_
  refine CW.reg ?_
  refine WL.mv rfl rfl ?_
  refine WL.mv rfl rfl ?_
  refine WL.pure rfl rfl rfl (PV.min2 rfl rfl) ?_
  refine WL.asg rfl rfl ?_
  refine WL.nilS ?_
  refine CW.ret ?_
  refine RQ.r1 rfl ?_
  refine ⟨?_, hB⟩
  exact iE (by unfold lessR; (repeat' split) <;> omega)
theorem c_math_bits_Mul64 {w : World} {N : Int} (hN : 0 ≤ N ∧ N ≤ 1048576) : Calls Try.prog 231 #[.int .u64 1, .int .u64 N] w (Ret1 (RQt (.tuple #[.int .u64 0, .int .u64 N]) w)) := by
  have hB : Ext w w := Ext.refl w
  refine callsOf (vs := [_, _]) Try.func231 rfl Try.ntmps231 rfl rfl ?_
  refine CW.seq ?_
  refine CW.reg ?_
  refine WL.asg rfl rfl ?_
  refine WL.asg rfl rfl ?_
  refine WL.nilS ?_
  refine CW.seq ?_
  refine CW.reg ?_
  refine WL.mv rfl rfl ?_
  refine WL.pure rfl rfl rfl (PV.and rfl rfl) ?_
  refine WL.asg rfl rfl ?_
  refine WL.nilS ?_
  refine CW.seq ?_
  refine CW.reg ?_
  refine WL.mv rfl rfl ?_
  refine WL.pure rfl rfl rfl (PV.shr rfl rfl (by omega) (by first | (simp only [IntKind.bits]; omega) | (simp [IntKind.bits] <;> omega))) ?_
  refine WL.asg rfl rfl ?_
  refine WL.nilS ?_
  refine CW.seq ?_
  refine CW.reg ?_
  refine WL.mv rfl rfl ?_
  refine WL.pure rfl rfl rfl (PV.and rfl rfl) ?_
  refine WL.asg rfl rfl ?_
  refine WL.nilS ?_
  refine CW.seq ?_
  refine CW.reg ?_
  refine WL.mv rfl rfl ?_
  refine WL.pure rfl rfl rfl (PV.shr rfl rfl (by omega) (by first | (simp only [IntKind.bits]; omega) | (simp [IntKind.bits] <;> omega))) ?_
  refine WL.asg rfl rfl ?_
  refine WL.nilS ?_
  refine CW.seq ?_
  refine CW.reg ?_
  refine WL.mv rfl rfl ?_
  refine WL.mv rfl rfl ?_
  refine WL.pure rfl rfl rfl (PV.mulW rfl rfl) ?_
  refine WL.asg rfl rfl ?_
  refine WL.nilS ?_
  refine CW.seq ?_
  refine CW.reg ?_
  refine WL.mv rfl rfl ?_
  refine WL.mv rfl rfl ?_
  refine WL.pure rfl rfl rfl (PV.mulW rfl rfl) ?_
  refine WL.mv rfl rfl ?_
  refine WL.pure rfl rfl rfl (PV.shr rfl rfl (by omega) (by first | (simp only [IntKind.bits]; omega) | (simp [IntKind.bits] <;> omega))) ?_
  refine WL.pure rfl rfl rfl (PV.addW rfl rfl) ?_
  refine WL.asg rfl rfl ?_
  refine WL.nilS ?_
  refine CW.seq ?_
  refine CW.reg ?_
  refine WL.mv rfl rfl ?_
  refine WL.pure rfl rfl rfl (PV.and rfl rfl) ?_
  refine WL.asg rfl rfl ?_
  refine WL.nilS ?_
  refine CW.seq ?_
  refine CW.reg ?_
  refine WL.mv rfl rfl ?_
  refine WL.pure rfl rfl rfl (PV.shr rfl rfl (by omega) (by first | (simp only [IntKind.bits]; omega) | (simp [IntKind.bits] <;> omega))) ?_
  refine WL.asg rfl rfl ?_
  refine WL.nilS ?_
  refine CW.seq ?_
  refine CW.reg ?_
  refine WL.mv rfl rfl ?_
  refine WL.mv rfl rfl ?_
  refine WL.mv rfl rfl ?_
  refine WL.pure rfl rfl rfl (PV.mulW rfl rfl) ?_
  refine WL.pure rfl rfl rfl (PV.addW rfl rfl) ?_
  refine WL.asg rfl rfl ?_
  refine WL.nilS ?_
  refine CW.seq ?_
  refine CW.reg ?_
  refine WL.mv rfl rfl ?_
  refine WL.mv rfl rfl ?_
  refine WL.pure rfl rfl rfl (PV.mulW rfl rfl) ?_
  refine WL.mv rfl rfl ?_
  refine WL.pure rfl rfl rfl (PV.addW rfl rfl) ?_
  refine WL.mv rfl rfl ?_
  refine WL.pure rfl rfl rfl (PV.shr rfl rfl (by omega) (by first | (simp only [IntKind.bits]; omega) | (simp [IntKind.bits] <;> omega))) ?_
  refine WL.pure rfl rfl rfl (PV.addW rfl rfl) ?_
  refine WL.asg rfl rfl ?_
  refine WL.nilS ?_
  refine CW.seq ?_
  refine CW.reg ?_
  refine WL.mv rfl rfl ?_
  refine WL.mv rfl rfl ?_
  refine WL.pure rfl rfl rfl (PV.mulW rfl rfl) ?_
  refine WL.asg rfl rfl ?_
  refine WL.nilS ?_
  refine CW.ret ?_
  refine RQ.r2 rfl rfl ?_
  refine ⟨?_, hB⟩
  simp only [mask1, maskZ hN, Int.one_mul, Int.mul_one, Int.zero_mul, Int.mul_zero, shr0 hN, shr0 (N := 1) (by decide), shr0 (N := 0) (by decide), wrapU hN, wrapU (N := 0) (by decide), Int.add_zero, Int.zero_add, maskZ (N := 0) (by decide)]
theorem c_math_bits_Mul {w : World} {N : Int} (hN : 0 ≤ N ∧ N ≤ 1048576) : Calls Try.prog 229 #[.int .u64 1, .int .u64 N] w (Ret1 (RQt (.tuple #[.int .u64 0, .int .u64 N]) w)) := by
  have hB : Ext w w := Ext.refl w
  refine callsOf (vs := [_, _]) Try.func229 rfl Try.ntmps229 rfl rfl ?_
  refine CW.seq ?_
  refine CW.reg ?_
  refine WL.asg rfl rfl ?_
  refine WL.asg rfl rfl ?_
  refine WL.nilS ?_
  refine CW.seq ?_
  refine CW.condF rfl ?_
  refine CW.skipS ?_
  refine CW.seq ?_
  refine CW.reg ?_
  refine WL.mv rfl rfl ?_
  refine WL.mv rfl rfl ?_
  refine WL.op rfl (OpK.callR rfl T.cf231 rfl (c_math_bits_Mul64 (by first | assumption | omega | (simp only [marks_len]; omega))) (fun w1 hXw1 => ?_))
  have hB := hB.trans hXw1
  refine WL.mv rfl rfl ?_
  refine WL.pure rfl rfl rfl (PV.extract rfl rfl) ?_
  refine WL.pure rfl rfl rfl (PV.extract rfl rfl) ?_
  refine WL.asg rfl rfl ?_
  refine WL.asg rfl rfl ?_
  refine WL.nilS ?_
  refine CW.seq ?_
  refine CW.reg ?_
  refine WL.mv rfl rfl ?_
  refine WL.mv rfl rfl ?_
  refine WL.asg rfl rfl ?_
  refine WL.asg rfl rfl ?_
  refine WL.nilS ?_
  refine CW.ret ?_
  refine RQ.r2 rfl rfl ?_
  refine ⟨?_, hB⟩
  rfl
theorem c_slices_Repeat_int64_int64 {w : World} {va : Value} {x N : Int} (ha : Rd EI w va [x]) (hN : 0 ≤ N ∧ N ≤ 1048576) : Calls Try.prog 225 #[va, .int .i64 N] w (Ret1 (fun v w' => Ext w w' ∧ ∃ v1 og_v1, v = v1 ∧ Osl VI w' og_v1 v1 (List.replicate N.toNat x) ∧ Lo w og_v1)) := by
  have hB : Ext w w := Ext.refl w
  refine callsOf (vs := [_, _]) Try.func225 rfl Try.ntmps225 rfl rfl ?_
  refine CW.seq ?_
  refine CW.reg ?_
  refine WL.asg rfl rfl ?_
  refine WL.nilS ?_
  refine CW.seq ?_
  refine CW.seq ?_
  refine CW.reg ?_
  refine WL.mv rfl rfl ?_
  refine WL.pure rfl rfl rfl (PV.lss rfl rfl) ?_
  refine WL.nilS ?_
  refine CW.cond rfl (fun hc1 => ?_) (fun hc1 => ?_)
  · skip
    try simp only [nq] at hc1
    exfalso; omega
  try simp only [nq] at hc1
  refine CW.skipS ?_
  refine CW.seq ?_
  refine CW.reg ?_
  refine WL.mv rfl rfl ?_
  refine WL.pure rfl rfl rfl ((by first | exact PV.len rfl (by assumption) T.sl28 | exact PV.lenOs rfl (by assumption) T.sl28 | exact PV.len rfl (NL.rd (by assumption)) T.sl28 | exact PV.len rfl (Inn.rd (by assumption) (by omega)) T.sl28)) ?_
  refine WL.pure rfl rfl rfl (PV.convW rfl T.us3 T.ik251) ?_
  refine WL.mv rfl rfl ?_
  refine WL.pure rfl rfl rfl (PV.convW rfl T.us3 T.ik251) ?_
  rw [wrapU hN, show IntKind.u64.wrap (([x].length : Nat) : Int) = 1 from (by show IntKind.u64.wrap 1 = 1; decide)]
  refine WL.op rfl (OpK.callR rfl T.cf229 rfl (c_math_bits_Mul (by first | assumption | omega | (simp only [marks_len]; omega))) (fun w1 hXw1 => ?_))
  have hB := hB.trans hXw1
  refine WL.mv rfl rfl ?_
  refine WL.pure rfl rfl rfl (PV.extract rfl rfl) ?_
  refine WL.pure rfl rfl rfl (PV.extract rfl rfl) ?_
  refine WL.asg rfl rfl ?_
  refine WL.asg rfl rfl ?_
  refine WL.nilS ?_
  refine CW.seq ?_
  refine CW.seq ?_
  refine CW.reg ?_
  refine WL.mv rfl rfl ?_
  refine WL.pure rfl rfl rfl (PV.gtr rfl rfl) ?_
  refine WL.mv rfl rfl ?_
  refine WL.split (t := 23) rfl (fun hc2 => ?_) (fun hc2 => ?_)
  · skip
    try simp only [nq] at hc2
    refine WL.skip rfl rfl rfl rfl rfl ?_
    refine WL.skip rfl rfl rfl rfl rfl ?_
    refine WL.pure rfl rfl rfl (PV.pickT rfl rfl) ?_
    refine WL.nilS ?_
    exfalso; omega
  try simp only [nq] at hc2
  refine WL.pureG rfl rfl rfl rfl rfl (PV.move rfl) ?_
  refine WL.pureG rfl rfl rfl rfl rfl (PV.gtr rfl rfl) ?_
  refine WL.pure rfl rfl rfl (PV.pickF rfl rfl) ?_
  refine WL.nilS ?_
  refine CW.cond rfl (fun hc3 => ?_) (fun hc3 => ?_)
  · skip
    try simp only [nq] at hc3
    exfalso; omega
  try simp only [nq] at hc3
  refine CW.skipS ?_
  refine CW.seq ?_
  refine CW.reg ?_
  refine WL.mv rfl rfl ?_
  refine WL.pure rfl rfl rfl (PV.conv rfl T.us251 T.ik3 (by constructor <;> omega)) ?_
  first
    | refine WL.op rfl (OpK.makeS VI (0) rfl T.sl28 T.zv2 rfl rfl rfl (by constructor <;> omega) (fun v1 g1 w2 hXw2 ho1 hge1 => ?_))
    | refine WL.op rfl (OpK.makeSZ VI (0) rfl T.sl28 T.zv2 rfl rfl rfl (by omega) (by constructor <;> omega) (fun v1 g1 w2 hXw2 ho1 hge1 => ?_))
  have hl1 := Lo.new hB hge1
  have hB := hB.trans hXw2
  refine WL.asg rfl rfl ?_
  refine WL.nilS ?_
  refine CW.seq ?_
  refine CW.reg ?_
  refine WL.mv rfl rfl ?_
  refine WL.mv rfl rfl ?_
  refine WL.op rfl (OpK.copyS (f := VI) (l := 0) rfl T.sl28 (by exact congrArg some (slV_zero (ho1).isSl).symm) (by omega) ho1 rfl (Rd.src (by first | assumption | exact Rd.up (by assumption) hB) (fun _ => rfl)) (by exact rep_m0) (fun w3 hXw3 ho1 => ?_))
  have hB := hB.updL hXw3 hl1
  refine WL.asg rfl rfl ?_
  refine WL.nilS ?_
  refine CW.seq ?_
  refine CW.block ?_
  have hlt1 := ho1.ltO
  refine CW.loop (σk := [(7, _)]) (fun ρ wz m => ∃ (k : Nat), ρ = [(8, .int .i64 (k : Nat))] ∧ m = N.toNat - k ∧ UpdL [(some g1)] w3 wz ∧ Osl VI wz (some g1) v1 (List.replicate k x ++ List.replicate (N.toNat - k) (0 : Int)) ∧ (k ≤ N.toNat) ∧ (N.toNat ≠ 0 → 1 ≤ k)) (ρ₀ := [(8, _)]) (m₀ := _) ⟨rfl, rfl, trivial⟩ ⟨min 1 N.toNat, rfl, rfl, (UpdL.refl _ _), osE ho1 (by exact rep_first), (by omega), (by omega)⟩ ?_
  rintro _ wl1 _ ⟨k, rfl, rfl, hU0, ho1, hk, hk1⟩
  have hk0_1 : OkB [(some g1)] w3 (some g1) := OkB.mem (by simp)
  have hB := hB.loop hU0 ⟨hl1, trivial⟩
  have hll : (List.replicate k x ++ List.replicate (N.toNat - k) (0 : Int)).length = N.toNat := by simp; omega
  refine CW.seq ?_
  refine CW.seq ?_
  refine CW.reg ?_
  refine WL.mv rfl rfl ?_
  refine WL.mv rfl rfl ?_
  refine WL.pure rfl rfl rfl ((PV.lenOs rfl ho1 T.sl28)) ?_
  refine WL.pure rfl rfl rfl (PV.lss rfl rfl) ?_
  refine WL.nilS ?_
  refine CW.cond rfl (fun hc4 => ?_) (fun hc4 => ?_)
  · skip
    try simp only [nq] at hc4
    refine CW.skipS ?_
    refine CW.block ?_
    refine CW.draw T.mixed (by kernel_rfl) (fun _ _ _ _ _ h => h) (fun w8 w9 => Upd (some g1) w8 w9) 10 (.take 0 (.take 1 (.take 2 (.take 3 (.take 4 (.take 5 (.take 6 (.must 7 (.take 8 (.take 9 .done)))))))))) (by kernel_rfl) (fun w4 hXd => ?_)
    have hB := hB.trans hXd
    have ho1 := ho1.up hXd
    have hU0 := hU0.ext hXd
    have hBr := hB
    have hS : Upd (some g1) w4 w4 := Ext.toUpd (Ext.refl _)
    refine HP.take rfl rfl rfl rfl hS (fun wS hS1 => PV.move rfl) ?_
    refine HP.take rfl rfl rfl rfl hS (fun wS hS1 => PV.move rfl) ?_
    refine HP.take rfl rfl rfl rfl hS (fun wS hS1 => PV.move rfl) ?_
    refine HP.slOL (x := .tmp 39) (lo := .tmp 40) T.sl28 rfl rfl rfl (by assumption) (by first | omega | (simp; omega) | (simp_all; omega)) (fun u1 huu1 heu1 => ?_)
    refine HP.take rfl rfl rfl rfl hS (fun wS hS1 => (huu1 _ _ _ _ _ _)) ?_
    refine HP.take rfl rfl rfl rfl hS (fun wS hS1 => PV.move rfl) ?_
    refine HP.take rfl rfl rfl rfl hS (fun wS hS1 => PV.move rfl) ?_
    refine HP.slO (x := .tmp 42) (hi := .tmp 43) T.sl28 rfl rfl rfl (by assumption) (by first | omega | (simp; omega) | (simp_all; omega)) (fun u2 huu2 hou2 => ?_)
    refine HP.take rfl rfl rfl rfl hS (fun wS hS1 => (huu2 _ _ _ _ _ _)) ?_
    refine HP.must rfl rfl (OpK.copyS (f := VI) rfl T.sl28 (by rw [← heu1]; rfl) (by omega) ho1 rfl (Osl.src hou2 (fun _ => rfl)) (by exact rep_m (by omega)) (fun w5 hXw5 ho1 => ?_))
    refine ⟨Upd.trans hS hXw5, ?_⟩
    have hS := Upd.trans hS hXw5
    have hB := hB.updL hXw5 hl1
    have hU0 := hU0.step hXw5 hk0_1
    refine HP.take rfl rfl rfl rfl hS (fun wS hS1 => PV.add rfl rfl (by constructor <;> omega)) ?_
    refine HP.take rfl rfl rfl rfl hS (fun wS hS1 => PV.assign rfl) ?_
    refine HP.done ?_
    refine NQ.block ?_
    refine NQ.next (ρ := [(8, _)]) ⟨rfl, rfl, trivial⟩ ?_
    exact ⟨_, ⟨k + min k (N.toNat - k), (by simp), rfl, hU0, osE ho1 (by rw [Int.toNat_natCast]; exact rep_more (by omega) rfl), (by omega), (by omega)⟩, by omega⟩
  try simp only [nq] at hc4
  refine CW.exit ?_
  refine XQ.then ?_
  refine XQ.then ?_
  refine XQ.here ?_
  refine NQ.then ?_
  refine CW.seq ?_
  refine CW.reg ?_
  refine WL.mv rfl rfl ?_
  refine WL.asg rfl rfl ?_
  refine WL.nilS ?_
  refine CW.ret ?_
  refine RQ.r1 rfl ?_
  refine ⟨hB, v1, (some g1), ?_, osE ho1 ?_, hl1⟩
  · skip
    rfl
  · skip
    exact rep_done (by omega) (by omega)
theorem c_impl_none {w : World} {N : Int} (hN : 0 ≤ N ∧ N ≤ 1048576) : Calls Try.prog 199 #[.int .i64 N] w (Ret1 (fun v w' => Ext w w' ∧ ∃ v1 og_v1, v = v1 ∧ Osl VI w' og_v1 v1 (List.replicate N.toNat (-1 : Int)) ∧ Lo w og_v1)) := by
  have hB : Ext w w := Ext.refl w
  refine callsOf (vs := [_]) Try.func199 rfl Try.ntmps199 rfl rfl ?_
  refine CW.seq ?_
  refine CW.reg ?_
  refine WL.asg rfl rfl ?_
  refine WL.nilS ?_
  refine CW.seq ?_
  refine CW.reg ?_
  refine WL.op rfl (OpK.buildS VI (os := [.const (.int .i64 (-1))]) [_] rfl T.sl28 rfl rfl T.zv2 rfl (by intro z hz; first | rfl | (simp only [List.mem_cons, List.not_mem_nil, or_false] at hz; subst hz; exact (by first | exact Rd.cells1 (by assumption) | exact Osl.cells1 (by assumption) | exact Osn.cells1 (by assumption) | exact Rd.cells1 (NL.rd (by assumption)) | exact Inn.cell1 (by assumption) (by omega) | assumption | rfl))) rfl (fun v1 g1 w1 hXw1 ho1 hge1 => ?_))
  have hl1 := Lo.new hB hge1
  have hB := hB.trans hXw1
  refine WL.mv rfl rfl ?_
  refine WL.op rfl (OpK.call rfl T.cf225 rfl (c_slices_Repeat_int64_int64 (Osl.rd ho1) (by first | assumption | omega | (simp only [marks_len]; omega))) (fun rv1 w2 hR => ?_))
  obtain ⟨hXw2, v2, og2, rfl, ho2, hq2⟩ := hR
  have hl2 := Lo.up hq2 hB
  have hd1_2 := Dj.lo ho1.ltO hq2
  have hB := hB.trans hXw2
  have ho1 := ho1.up hXw2
  refine WL.asg rfl rfl ?_
  refine WL.nilS ?_
  refine CW.ret ?_
  refine RQ.r1 rfl ?_
  refine ⟨hB, rv1, og2, ?_, osE ho2 ?_, hl2⟩
  · skip
    rfl
  · skip
    rfl
theorem c_impl_Grammar_cheapest {w : World} {a0 : Int} {a1 : Int} {va2 : Value} {xa2 : List R4}  (ha2 : Rd ER w va2 xa2) (hg : gramV a0 a1 xa2) : Calls Try.prog 118 #[.agg #[.int .i64 a0, .int .i64 a1, va2]] w (Ret1 (fun v w' => Ext w w' ∧ ∃ u1 og_u1 u2 og_u2, v = .tuple #[u1, u2] ∧ Osl VI w' og_u1 u1 ((allC a0 xa2).1) ∧ Lo w og_u1 ∧ Osl VI w' og_u2 u2 ((allC a0 xa2).2) ∧ Lo w og_u2 ∧ Dj og_u1 og_u2)) := by
  have hB : Ext w w := Ext.refl w
  have hla2 := ha2.leI; have hg1 := hg.1; have hg2 := hg.2.1; have hg3 := hg.2.2.1
  refine callsOf (vs := [_]) Try.func118 rfl Try.ntmps118 rfl rfl ?_
  refine CW.seq ?_
  refine CW.reg ?_
  refine WL.op rfl (OpK.box rfl rfl (by first | exact Rd.cells1 (by assumption) | exact Osl.cells1 (by assumption) | exact Osn.cells1 (by assumption) | exact Rd.cells1 (NL.rd (by assumption)) | exact Inn.cell1 (by assumption) (by omega) | assumption | rfl) (fun b1 w1 hXw1 hb1 hge1 => ?_))
  have hl1 := Lo.new hB hge1
  have hB := hB.trans hXw1
  refine WL.asg rfl rfl ?_
  refine WL.asg rfl rfl ?_
  refine WL.nilS ?_
  refine CW.seq ?_
  refine CW.draw T.mixed (by kernel_rfl) (fun _ _ _ _ _ h => h) (fun w8 w9 => Upd none w8 w9) 8 (.take 0 (.take 1 (.take 3 (.take 4 (.must 2 (.must 5 (.take 6 (.take 7 .done)))))))) (by kernel_rfl) (fun w2 hXd => ?_)
  have hB := hB.trans hXd
  have hb1 := hb1.up hXd
  have hBr := hB
  have hS : Upd none w2 w2 := Ext.toUpd (Ext.refl _)
  refine HP.take rfl rfl rfl rfl hS (fun wS hS1 => PV.fieldAddr T.fl33_0 rfl hb1.cells) ?_
  refine HP.take rfl rfl rfl rfl hS (fun wS hS1 => PV.load1 T.na2 rfl (Bx.cells (Bx.updD (by assumption) hS1 (Dj.nlR _))) (Ext.refl _) rfl) ?_
  refine HP.take rfl rfl rfl rfl hS (fun wS hS1 => PV.fieldAddr T.fl33_0 rfl hb1.cells) ?_
  refine HP.take rfl rfl rfl rfl hS (fun wS hS1 => PV.load1 T.na2 rfl (Bx.cells (Bx.updD (by assumption) hS1 (Dj.nlR _))) (Ext.refl _) rfl) ?_
  refine HP.must rfl rfl (OpK.call rfl T.cf199 rfl (c_impl_none (by first | assumption | omega | (simp only [marks_len]; omega))) (fun rv1 w3 hR => ?_))
  obtain ⟨hXw3, v2, og2, rfl, ho2, hq2⟩ := hR
  have hl2 := Lo.up hq2 hB
  have hv2 := Lo.up hq2 hS
  have hd1_2 := Dj.lo hb1.ltO hq2
  refine ⟨Upd.trans hS hXw3, ?_⟩
  have hS := Upd.trans hS hXw3
  have hB := hB.trans hXw3
  have hb1 := hb1.up hXw3
  refine HP.must rfl rfl (OpK.call rfl T.cf199 rfl (c_impl_none (by first | assumption | omega | (simp only [marks_len]; omega))) (fun rv2 w4 hR => ?_))
  obtain ⟨hXw4, v3, og3, rfl, ho3, hq3⟩ := hR
  have hl3 := Lo.up hq3 hB
  have hv3 := Lo.up hq3 hS
  have hd1_3 := Dj.lo hb1.ltO hq3
  have hd2_3 := Dj.lo ho2.ltO hq3
  refine ⟨Upd.trans hS hXw4, ?_⟩
  have hS := Upd.trans hS hXw4
  have hB := hB.trans hXw4
  have hb1 := hb1.up hXw4
  have ho2 := ho2.up hXw4
  refine HP.take rfl rfl rfl rfl hS (fun wS hS1 => PV.assign rfl) ?_
  refine HP.take rfl rfl rfl rfl hS (fun wS hS1 => PV.assign rfl) ?_
  refine HP.doneS ?_
  refine CW.block ?_
  have hlt1 := hb1.ltO
  have hlt2 := ho2.ltO
  have hlt3 := ho3.ltO
  refine CW.loop (σk := [(1, _), (4, _), (5, _)]) (fun ρ wz m => ∃ (t : Nat), ρ = [] ∧ m = a0.toNat + 1 - t ∧ UpdL [og2, og3] w4 wz ∧ Osl VI wz og2 rv1 ((givC a0 xa2 t).1) ∧ Osl VI wz og3 rv2 ((givC a0 xa2 t).2) ∧ (InvC a0 t (givC a0 xa2 t))) (ρ₀ := []) (m₀ := _) ⟨rfl, rfl, rfl, trivial⟩ ⟨0, rfl, rfl, (UpdL.refl _ _), osE ho2 (by rfl), osE ho3 (by rfl), (by exact InvC.zero _ _)⟩ ?_
  rintro _ wl1 _ ⟨t, rfl, rfl, hU0, ho2, ho3, hI⟩
  have hb1 := hb1.loop hU0 ⟨hd1_2, hd1_3, trivial⟩
  have hk0_2 : OkB [og2, og3] w4 og2 := OkB.mem (by simp)
  have hk0_3 : OkB [og2, og3] w4 og3 := OkB.mem (by simp)
  have hB := hB.loop hU0 ⟨hl2, hl3, trivial⟩
  have hle := hI.le; have hrg := hI.rng (by omega); have hlo1 := hI.lo1; have hsm := hI.same; have hL1 := hI.l1; have hL2 := hI.l2
  refine CW.block ?_
  refine CW.seq ?_
  refine CW.reg ?_
  refine WL.asg rfl rfl ?_
  refine WL.asg rfl rfl ?_
  refine WL.nilS ?_
  refine CW.seq ?_
  refine CW.seq ?_
  refine CW.reg ?_
  refine WL.pure rfl rfl rfl (PV.fieldAddr T.fl33_2 rfl hb1.cells) ?_
  refine WL.pure rfl rfl rfl (PV.load1 T.na31 rfl hb1.cells (Ext.refl _) rfl) ?_
  refine WL.pure rfl rfl rfl ((by first | exact PV.len rfl (by assumption) T.sl31 | exact PV.lenOs rfl (by assumption) T.sl31 | exact PV.len rfl (NL.rd (by assumption)) T.sl31 | exact PV.len rfl (Inn.rd (by assumption) (by omega)) T.sl31)) ?_
  refine WL.mv rfl rfl ?_
  refine WL.nilS ?_
  refine CW.block ?_
  refine CW.loop (σk := [(1, _), (4, _), (5, _), (19, _), (20, _)]) (fun ρ wz m => ∃ (k : Nat) (bb ll : Int), ρ = [(6, .int .i64 bb), (7, .int .i64 ll), (21, .int .i64 (k : Nat))] ∧ m = xa2.length - k ∧ UpdL [] wl1 wz ∧ (k ≤ xa2.length) ∧ (SelI 1099511627776 (givC a0 xa2 t).2 xa2 k bb ll) ∧ (-1 ≤ bb ∧ bb < xa2.length) ∧ (bb < 0 → ll = 1099511627776)) (ρ₀ := [(6, _), (7, _), (21, _)]) (m₀ := _) ⟨rfl, rfl, rfl, rfl, rfl, rfl, rfl, rfl, trivial⟩ ⟨0, -1, 1099511627776, rfl, rfl, (UpdL.refl _ _), (by first | omega | rfl | (simp; done) | assumption | (simp_all; done)), (by exact SelI.zero _ _ _), (by omega), (by first | omega | rfl | (simp; done) | assumption | (simp_all; done))⟩ ?_
  rintro _ wl2 _ ⟨k, bb, ll, rfl, rfl, hU1, hk, hs, hbb, hbz⟩
  have hU0 := hU0.trans hU1 trivial
  have hb1 := hb1.loop hU1 trivial
  have ho2 := ho2.loop hU1 trivial
  have ho3 := ho3.loop hU1 trivial
  have hB := hB.loop hU1 trivial
  refine CW.seq ?_
  refine CW.reg ?_
  refine WL.pure rfl rfl rfl (PV.lss rfl rfl) ?_
  refine WL.nilS ?_
  refine CW.seq ?_
  refine CW.cond rfl (fun hc1 => ?_) (fun hc1 => ?_)
  · skip
    try simp only [nq] at hc1
    refine CW.skipS ?_
    refine CW.seq ?_
    refine CW.block ?_
    refine CW.seq ?_
    refine CW.reg ?_
    refine WL.mv rfl rfl ?_
    first
      | refine WL.at (x := .tmp 19) (y := .tmp 21) (E := ER) ((0, 0, 0, 0)) rfl rfl (by first | assumption | exact Inn.rd (by assumption) (by omega)) (by first | omega | (simp only [List.length_set]; omega) | (simp only [List.length_append, List.length_take, List.length_replicate, List.length_drop]; omega)) (fun p1 csp1 hpp1 hcp1 hq => ?_)
      | refine WL.atZ (x := .tmp 19) (y := .tmp 21) (E := ER) ((0, 0, 0, 0)) rfl rfl (by first | assumption | exact Inn.rd (by assumption) (by omega)) (by first | omega | (simp only [List.length_set]; omega) | (simp only [List.length_append, List.length_take, List.length_replicate, List.length_drop]; omega)) (fun p1 csp1 hpp1 hzp1 hcp1 hq => ?_)
    cases hq
    refine WL.pure rfl rfl rfl ((by first | exact PV.indexAddr hpp1 rfl rfl T.sl31 | exact PV.indexAddr hpp1 rfl (by rw [← hzp1]; rfl) T.sl31)) ?_
    refine WL.pure rfl rfl rfl ((by first | exact PV.loadA T.ag56 rfl (by first | exact Cells.up (by assumption) hB | exact Bx.cells (by assumption) | assumption) (Ext.refl _) rfl | exact PV.loadP (ds := [_, _, _, _]) T.ag56 rfl (by first | exact Cells.up (by assumption) hB | exact Bx.cells (by assumption) | assumption) (Ext.refl _) rfl rfl)) ?_
    refine WL.op rfl (OpK.alloc rfl T.zv56 rfl (fun b6 w5 hXw5 hb6 hge6 => ?_))
    have hl6 := Lo.new hB hge6
    have hd1_6 := Dj.new hb1.ltO hge6
    have hd2_6 := Dj.new ho2.ltO hge6
    have hd3_6 := Dj.new ho3.ltO hge6
    have hk0_6 := OkN.new hU0 hge6
    have hg0_6 := OgR.new hU0.size hge6
    have hk1_6 := OkN.new hU1 hge6
    have hg1_6 := OgR.new hU1.size hge6
    have hB := hB.trans hXw5
    have hb1 := hb1.up hXw5
    have ho2 := ho2.up hXw5
    have ho3 := ho3.up hXw5
    have hU0 := hU0.ext hXw5
    have hU1 := hU1.ext hXw5
    refine WL.asg rfl rfl ?_
    refine WL.op rfl (OpK.storeA T.sz56 rfl rfl rfl rfl (by simp [Value.oneCell'] <;> first | done | (repeat' apply And.intro) <;> first | rfl | exact Osl.oneCell (by assumption) | exact Osn.oneCell (by assumption) | exact Rd.oneCell (by assumption) | exact Rd.oneCell (NL.rd (by assumption)) | assumption) hb6 (fun w6 hXw6 hb6 => ?_))
    have hB := hB.updL hXw6 hl6
    have hb1 := hb1.updD hXw6 hd1_6
    have ho2 := ho2.updD hXw6 hd2_6
    have ho3 := ho3.updD hXw6 hd3_6
    have hU0 := hU0.step hXw6 hk0_6
    have hU1 := hU1.step hXw6 hk1_6
    refine WL.nilS ?_
    refine CW.seq ?_
    refine CW.reg ?_
    have hok := hg.2.2.2 k (by omega); have ok1 := hok.1; have ok2 := hok.2.1; have ok3 := hok.2.2.1; have ok4 := hok.2.2.2.1; have ok5 := hok.2.2.2.2; have hs1 := hsm (xa2.getD k (0, 0, 0, 0)).1.toNat (by omega); have hr1 := hrg (xa2.getD k (0, 0, 0, 0)).2.1.toNat; have hr2 := hrg (xa2.getD k (0, 0, 0, 0)).2.2.1.toNat; have hs2 : 0 ≤ (xa2.getD k (0, 0, 0, 0)).2.2.1 → (((givC a0 xa2 t).1.getD (xa2.getD k (0, 0, 0, 0)).2.1.toNat 0 < 0 ↔ (givC a0 xa2 t).2.getD (xa2.getD k (0, 0, 0, 0)).2.1.toNat 0 < 0) ∧ ((givC a0 xa2 t).1.getD (xa2.getD k (0, 0, 0, 0)).2.2.1.toNat 0 < 0 ↔ (givC a0 xa2 t).2.getD (xa2.getD k (0, 0, 0, 0)).2.2.1.toNat 0 < 0)) := fun h => ⟨hsm _ (by omega), hsm _ (by omega)⟩
    refine WL.pure rfl rfl rfl (PV.fieldAddr T.fl56_3 rfl hb6.cells) ?_
    refine WL.pure rfl rfl rfl (PV.load1 T.na2 rfl hb6.cells (Ext.refl _) rfl) ?_
    refine WL.asg rfl rfl ?_
    refine WL.nilS ?_
    refine CW.seq ?_
    refine CW.seq ?_
    refine CW.reg ?_
    refine WL.pure rfl rfl rfl (PV.fieldAddr T.fl56_2 rfl hb6.cells) ?_
    refine WL.pure rfl rfl rfl (PV.load1 T.na2 rfl hb6.cells (Ext.refl _) rfl) ?_
    refine WL.pure rfl rfl rfl (PV.geq rfl rfl) ?_
    refine WL.nilS ?_
    refine CW.cond rfl (fun hc2 => ?_) (fun hc2 => ?_)
    · skip
      try simp only [nq] at hc2
      refine CW.seq ?_
      refine CW.seq ?_
      refine CW.reg ?_
      refine WL.mv rfl rfl ?_
      refine WL.pure rfl rfl rfl (PV.fieldAddr T.fl56_1 rfl hb6.cells) ?_
      refine WL.pure rfl rfl rfl (PV.load1 T.na2 rfl hb6.cells (Ext.refl _) rfl) ?_
      first
        | refine WL.atO (x := .tmp 31) (y := .tmp 33) (f := VI) (0) rfl rfl ho3 (by omega) (fun p2 hpp2 hcp2 => ?_)
        | refine WL.atOZ (x := .tmp 31) (y := .tmp 33) (f := VI) (0) rfl rfl ho3 (by omega) (fun p2 hpp2 hzp2 hcp2 => ?_)
      refine WL.pure rfl rfl rfl ((by first | exact PV.indexAddr hpp2 rfl rfl T.sl28 | exact PV.indexAddr hpp2 rfl (by rw [← hzp2]; rfl) T.sl28)) ?_
      refine WL.pure rfl rfl rfl ((by first | exact PV.load0 T.na2 rfl (by first | exact Cells.up (by assumption) hB | exact Bx.cells (by assumption) | assumption) (Ext.refl _) rfl | exact PV.load1 T.na2 rfl (by first | exact Cells.up (by assumption) hB | exact Bx.cells (by assumption) | assumption) (Ext.refl _) rfl)) ?_
      refine WL.pure rfl rfl rfl (PV.lss rfl rfl) ?_
      refine WL.mv rfl rfl ?_
      refine WL.split (t := 37) rfl (fun hc3 => ?_) (fun hc3 => ?_)
      · skip
        try simp only [nq] at hc3
        refine WL.skip rfl rfl rfl rfl rfl ?_
        refine WL.skip rfl rfl rfl rfl rfl ?_
        refine WL.skip rfl rfl rfl rfl rfl ?_
        refine WL.skip rfl rfl rfl rfl rfl ?_
        refine WL.skip rfl rfl rfl rfl rfl ?_
        refine WL.skip rfl rfl rfl rfl rfl ?_
        refine WL.pure rfl rfl rfl (PV.pickT rfl rfl) ?_
        refine WL.nilS ?_
        refine CW.condT rfl ?_
        refine CW.exit ?_
        refine XQ.then ?_
        refine XQ.then ?_
        refine XQ.here ?_
        refine NQ.then ?_
        refine CW.reg ?_
        refine WL.pure rfl rfl rfl (PV.add rfl rfl (by constructor <;> omega)) ?_
        refine WL.mv rfl rfl ?_
        refine WL.nil ?_
        refine NQ.next (ρ := [(6, _), (7, _), (21, _)]) ⟨rfl, rfl, rfl, rfl, rfl, rfl, rfl, rfl, trivial⟩ ?_
        exact ⟨_, ⟨k + 1, bb, ll, rfl, rfl, hU1, (by first | omega | assumption | (simp_all; done) | (simp_all; omega)), (by first | exact hs.no (by rintro ⟨c1, c2⟩; first | omega | (have c3 := c2 (by omega); omega)) | exact hs.keep (by omega) (by unfold valC; first | (rw [if_pos (by omega)]; omega) | (rw [if_neg (by omega)]; omega)) | exact hs.take ⟨by omega, fun c => by omega⟩ (by unfold valC; first | (rw [if_pos (by omega)]; done) | (rw [if_neg (by omega)]; done)) (by omega)), (by omega), (by omega)⟩, by omega⟩
      try simp only [nq] at hc3
      refine WL.pureG rfl rfl rfl rfl rfl (PV.move rfl) ?_
      refine WL.pureG rfl rfl rfl rfl rfl (PV.fieldAddr T.fl56_2 rfl hb6.cells) ?_
      refine WL.pureG rfl rfl rfl rfl rfl (PV.load1 T.na2 rfl hb6.cells (Ext.refl _) rfl) ?_
      first
        | refine WL.atO (x := .tmp 38) (y := .tmp 40) (f := VI) (0) rfl rfl ho3 (by omega) (fun p3 hpp3 hcp3 => ?_)
        | refine WL.atOZ (x := .tmp 38) (y := .tmp 40) (f := VI) (0) rfl rfl ho3 (by omega) (fun p3 hpp3 hzp3 hcp3 => ?_)
      refine WL.pureG rfl rfl rfl rfl rfl ((by first | exact PV.indexAddr hpp3 rfl rfl T.sl28 | exact PV.indexAddr hpp3 rfl (by rw [← hzp3]; rfl) T.sl28)) ?_
      refine WL.pureG rfl rfl rfl rfl rfl ((by first | exact PV.load0 T.na2 rfl (by first | exact Cells.up (by assumption) hB | exact Bx.cells (by assumption) | assumption) (Ext.refl _) rfl | exact PV.load1 T.na2 rfl (by first | exact Cells.up (by assumption) hB | exact Bx.cells (by assumption) | assumption) (Ext.refl _) rfl)) ?_
      refine WL.pureG rfl rfl rfl rfl rfl (PV.lss rfl rfl) ?_
      refine WL.pure rfl rfl rfl (PV.pickF rfl rfl) ?_
      refine WL.nilS ?_
      refine CW.cond rfl (fun hc4 => ?_) (fun hc4 => ?_)
      · skip
        try simp only [nq] at hc4
        refine CW.exit ?_
        refine XQ.then ?_
        refine XQ.then ?_
        refine XQ.here ?_
        refine NQ.then ?_
        refine CW.reg ?_
        refine WL.pure rfl rfl rfl (PV.add rfl rfl (by constructor <;> omega)) ?_
        refine WL.mv rfl rfl ?_
        refine WL.nil ?_
        refine NQ.next (ρ := [(6, _), (7, _), (21, _)]) ⟨rfl, rfl, rfl, rfl, rfl, rfl, rfl, rfl, trivial⟩ ?_
        exact ⟨_, ⟨k + 1, bb, ll, rfl, rfl, hU1, (by first | omega | assumption | (simp_all; done) | (simp_all; omega)), (by first | exact hs.no (by rintro ⟨c1, c2⟩; first | omega | (have c3 := c2 (by omega); omega)) | exact hs.keep (by omega) (by unfold valC; first | (rw [if_pos (by omega)]; omega) | (rw [if_neg (by omega)]; omega)) | exact hs.take ⟨by omega, fun c => by omega⟩ (by unfold valC; first | (rw [if_pos (by omega)]; done) | (rw [if_neg (by omega)]; done)) (by omega)), (by omega), (by omega)⟩, by omega⟩
      try simp only [nq] at hc4
      refine CW.skipS ?_
      refine CW.draw T.mixed (by kernel_rfl) (fun _ _ _ _ _ h => h) (fun w8 w9 => Upd none w8 w9) 14 (.take 0 (.take 1 (.take 2 (.take 3 (.take 4 (.take 5 (.take 6 (.take 7 (.take 8 (.take 9 (.take 10 (.take 11 (.take 12 (.take 13 .done)))))))))))))) (by kernel_rfl) (fun w7 hXd => ?_)
      have hB := hB.trans hXd
      have hb1 := hb1.up hXd
      have ho2 := ho2.up hXd
      have ho3 := ho3.up hXd
      have hb6 := hb6.up hXd
      have hU0 := hU0.ext hXd
      have hU1 := hU1.ext hXd
      have hBr := hB
      have hS : Upd none w7 w7 := Ext.toUpd (Ext.refl _)
      refine HP.take rfl rfl rfl rfl hS (fun wS hS1 => PV.move rfl) ?_
      refine HP.take rfl rfl rfl rfl hS (fun wS hS1 => PV.move rfl) ?_
      refine HP.take rfl rfl rfl rfl hS (fun wS hS1 => PV.fieldAddr T.fl56_1 rfl hb6.cells) ?_
      refine HP.take rfl rfl rfl rfl hS (fun wS hS1 => PV.load1 T.na2 rfl (Bx.cells (Bx.updD (by assumption) hS1 (Dj.nlR _))) (Ext.refl _) rfl) ?_
      first
        | refine HP.atO (wb := w7) (x := .tmp 46) (y := .tmp 48) (f := VI) (0) rfl rfl (by assumption) (by omega) (fun p4 hpp4 hcp4 => ?_)
        | refine HP.atOZ (wb := w7) (x := .tmp 46) (y := .tmp 48) (f := VI) (0) rfl rfl (by assumption) (by omega) (fun p4 hpp4 hzp4 hcp4 => ?_)
      refine HP.take rfl rfl rfl rfl hS (fun wS hS1 => (by first | exact PV.indexAddr hpp4 rfl rfl T.sl28 | exact PV.indexAddr hpp4 rfl (by rw [← hzp4]; rfl) T.sl28)) ?_
      refine HP.take rfl rfl rfl rfl hS (fun wS hS1 => (by first | exact PV.load0 T.na2 rfl (by first | exact Cells.up (by assumption) (hBr.trans hS1) | exact Bx.cells (Bx.updD (by assumption) hS1 (Dj.nlR _)) | exact Cells.upd (by assumption) hS1 (by simp)) (Ext.refl _) rfl | exact PV.load1 T.na2 rfl (by first | exact Cells.up (by assumption) (hBr.trans hS1) | exact Bx.cells (Bx.updD (by assumption) hS1 (Dj.nlR _)) | exact Cells.upd (by assumption) hS1 (by simp)) (Ext.refl _) rfl)) ?_
      refine HP.take rfl rfl rfl rfl hS (fun wS hS1 => PV.move rfl) ?_
      refine HP.take rfl rfl rfl rfl hS (fun wS hS1 => PV.fieldAddr T.fl56_2 rfl hb6.cells) ?_
      refine HP.take rfl rfl rfl rfl hS (fun wS hS1 => PV.load1 T.na2 rfl (Bx.cells (Bx.updD (by assumption) hS1 (Dj.nlR _))) (Ext.refl _) rfl) ?_
      first
        | refine HP.atO (wb := w7) (x := .tmp 51) (y := .tmp 53) (f := VI) (0) rfl rfl (by assumption) (by omega) (fun p5 hpp5 hcp5 => ?_)
        | refine HP.atOZ (wb := w7) (x := .tmp 51) (y := .tmp 53) (f := VI) (0) rfl rfl (by assumption) (by omega) (fun p5 hpp5 hzp5 hcp5 => ?_)
      refine HP.take rfl rfl rfl rfl hS (fun wS hS1 => (by first | exact PV.indexAddr hpp5 rfl rfl T.sl28 | exact PV.indexAddr hpp5 rfl (by rw [← hzp5]; rfl) T.sl28)) ?_
      refine HP.take rfl rfl rfl rfl hS (fun wS hS1 => (by first | exact PV.load0 T.na2 rfl (by first | exact Cells.up (by assumption) (hBr.trans hS1) | exact Bx.cells (Bx.updD (by assumption) hS1 (Dj.nlR _)) | exact Cells.upd (by assumption) hS1 (by simp)) (Ext.refl _) rfl | exact PV.load1 T.na2 rfl (by first | exact Cells.up (by assumption) (hBr.trans hS1) | exact Bx.cells (Bx.updD (by assumption) hS1 (Dj.nlR _)) | exact Cells.upd (by assumption) hS1 (by simp)) (Ext.refl _) rfl)) ?_
      refine HP.take rfl rfl rfl rfl hS (fun wS hS1 => PV.add rfl rfl (by constructor <;> omega)) ?_
      refine HP.take rfl rfl rfl rfl hS (fun wS hS1 => PV.add rfl rfl (by constructor <;> omega)) ?_
      refine HP.take rfl rfl rfl rfl hS (fun wS hS1 => PV.assign rfl) ?_
      refine HP.doneS ?_
      refine CW.seq ?_
      refine CW.reg ?_
      refine WL.mv rfl rfl ?_
      refine WL.pure rfl rfl rfl (PV.fieldAddr T.fl56_0 rfl hb6.cells) ?_
      refine WL.pure rfl rfl rfl (PV.load1 T.na2 rfl hb6.cells (Ext.refl _) rfl) ?_
      first
        | refine WL.atO (x := .tmp 58) (y := .tmp 60) (f := VI) (0) rfl rfl ho3 (by omega) (fun p6 hpp6 hcp6 => ?_)
        | refine WL.atOZ (x := .tmp 58) (y := .tmp 60) (f := VI) (0) rfl rfl ho3 (by omega) (fun p6 hpp6 hzp6 hcp6 => ?_)
      refine WL.pure rfl rfl rfl ((by first | exact PV.indexAddr hpp6 rfl rfl T.sl28 | exact PV.indexAddr hpp6 rfl (by rw [← hzp6]; rfl) T.sl28)) ?_
      refine WL.pure rfl rfl rfl ((by first | exact PV.load0 T.na2 rfl (by first | exact Cells.up (by assumption) hB | exact Bx.cells (by assumption) | assumption) (Ext.refl _) rfl | exact PV.load1 T.na2 rfl (by first | exact Cells.up (by assumption) hB | exact Bx.cells (by assumption) | assumption) (Ext.refl _) rfl)) ?_
      refine WL.pure rfl rfl rfl (PV.lss rfl rfl) ?_
      refine WL.mv rfl rfl ?_
      refine WL.split (t := 64) rfl (fun hc5 => ?_) (fun hc5 => ?_)
      rotate_left
      · skip
        try simp only [nq] at hc5
        refine WL.skip rfl rfl rfl rfl rfl ?_
        refine WL.skip rfl rfl rfl rfl rfl ?_
        refine WL.skip rfl rfl rfl rfl rfl ?_
        refine WL.pure rfl rfl rfl (PV.pickF rfl rfl) ?_
        refine WL.nilS ?_
        refine CW.condF rfl ?_
        refine CW.skip ?_
        refine NQ.block ?_
        refine NQ.then ?_
        refine CW.reg ?_
        refine WL.pure rfl rfl rfl (PV.add rfl rfl (by constructor <;> omega)) ?_
        refine WL.mv rfl rfl ?_
        refine WL.nil ?_
        refine NQ.next (ρ := [(6, _), (7, _), (21, _)]) ⟨rfl, rfl, rfl, rfl, rfl, rfl, rfl, rfl, trivial⟩ ?_
        exact ⟨_, ⟨k + 1, bb, ll, rfl, rfl, hU1, (by first | omega | assumption | (simp_all; done) | (simp_all; omega)), (by first | exact hs.no (by rintro ⟨c1, c2⟩; first | omega | (have c3 := c2 (by omega); omega)) | exact hs.keep (by omega) (by unfold valC; first | (rw [if_pos (by omega)]; omega) | (rw [if_neg (by omega)]; omega)) | exact hs.take ⟨by omega, fun c => by omega⟩ (by unfold valC; first | (rw [if_pos (by omega)]; done) | (rw [if_neg (by omega)]; done)) (by omega)), (by omega), (by omega)⟩, by omega⟩
      try simp only [nq] at hc5
      refine WL.pureG rfl rfl rfl rfl rfl (PV.move rfl) ?_
      refine WL.pureG rfl rfl rfl rfl rfl (PV.move rfl) ?_
      refine WL.pureG rfl rfl rfl rfl rfl (PV.lss rfl rfl) ?_
      refine WL.pure rfl rfl rfl (PV.pickT rfl rfl) ?_
      refine WL.nilS ?_
      refine CW.cond rfl (fun hc6 => ?_) (fun hc6 => ?_)
      · skip
        try simp only [nq] at hc6
        refine CW.reg ?_
        refine WL.mv rfl rfl ?_
        refine WL.mv rfl rfl ?_
        refine WL.asg rfl rfl ?_
        refine WL.asg rfl rfl ?_
        refine WL.nil ?_
        refine NQ.block ?_
        refine NQ.then ?_
        refine CW.reg ?_
        refine WL.pure rfl rfl rfl (PV.add rfl rfl (by constructor <;> omega)) ?_
        refine WL.mv rfl rfl ?_
        refine WL.nil ?_
        refine NQ.next (ρ := [(6, _), (7, _), (21, _)]) ⟨rfl, rfl, rfl, rfl, rfl, rfl, rfl, rfl, trivial⟩ ?_
        exact ⟨_, ⟨k + 1, k, _, rfl, rfl, hU1, (by first | omega | assumption | (simp_all; done) | (simp_all; omega)), (by first | exact hs.no (by rintro ⟨c1, c2⟩; first | omega | (have c3 := c2 (by omega); omega)) | exact hs.keep (by omega) (by unfold valC; first | (rw [if_pos (by omega)]; omega) | (rw [if_neg (by omega)]; omega)) | exact hs.take ⟨by omega, fun c => by omega⟩ (by unfold valC; first | (rw [if_pos (by omega)]; done) | (rw [if_neg (by omega)]; done)) (by omega)), (by omega), (by omega)⟩, by omega⟩
      try simp only [nq] at hc6
      refine CW.skip ?_
      refine NQ.block ?_
      refine NQ.then ?_
      refine CW.reg ?_
      refine WL.pure rfl rfl rfl (PV.add rfl rfl (by constructor <;> omega)) ?_
      refine WL.mv rfl rfl ?_
      refine WL.nil ?_
      refine NQ.next (ρ := [(6, _), (7, _), (21, _)]) ⟨rfl, rfl, rfl, rfl, rfl, rfl, rfl, rfl, trivial⟩ ?_
      exact ⟨_, ⟨k + 1, bb, ll, rfl, rfl, hU1, (by first | omega | assumption | (simp_all; done) | (simp_all; omega)), (by first | exact hs.no (by rintro ⟨c1, c2⟩; first | omega | (have c3 := c2 (by omega); omega)) | exact hs.keep (by omega) (by unfold valC; first | (rw [if_pos (by omega)]; omega) | (rw [if_neg (by omega)]; omega)) | exact hs.take ⟨by omega, fun c => by omega⟩ (by unfold valC; first | (rw [if_pos (by omega)]; done) | (rw [if_neg (by omega)]; done)) (by omega)), (by omega), (by omega)⟩, by omega⟩
    try simp only [nq] at hc2
    refine CW.skipS ?_
    refine CW.seq ?_
    refine CW.reg ?_
    refine WL.mv rfl rfl ?_
    refine WL.pure rfl rfl rfl (PV.fieldAddr T.fl56_0 rfl hb6.cells) ?_
    refine WL.pure rfl rfl rfl (PV.load1 T.na2 rfl hb6.cells (Ext.refl _) rfl) ?_
    first
      | refine WL.atO (x := .tmp 58) (y := .tmp 60) (f := VI) (0) rfl rfl ho3 (by omega) (fun p7 hpp7 hcp7 => ?_)
      | refine WL.atOZ (x := .tmp 58) (y := .tmp 60) (f := VI) (0) rfl rfl ho3 (by omega) (fun p7 hpp7 hzp7 hcp7 => ?_)
    refine WL.pure rfl rfl rfl ((by first | exact PV.indexAddr hpp7 rfl rfl T.sl28 | exact PV.indexAddr hpp7 rfl (by rw [← hzp7]; rfl) T.sl28)) ?_
    refine WL.pure rfl rfl rfl ((by first | exact PV.load0 T.na2 rfl (by first | exact Cells.up (by assumption) hB | exact Bx.cells (by assumption) | assumption) (Ext.refl _) rfl | exact PV.load1 T.na2 rfl (by first | exact Cells.up (by assumption) hB | exact Bx.cells (by assumption) | assumption) (Ext.refl _) rfl)) ?_
    refine WL.pure rfl rfl rfl (PV.lss rfl rfl) ?_
    refine WL.mv rfl rfl ?_
    refine WL.split (t := 64) rfl (fun hc7 => ?_) (fun hc7 => ?_)
    rotate_left
    · skip
      try simp only [nq] at hc7
      refine WL.skip rfl rfl rfl rfl rfl ?_
      refine WL.skip rfl rfl rfl rfl rfl ?_
      refine WL.skip rfl rfl rfl rfl rfl ?_
      refine WL.pure rfl rfl rfl (PV.pickF rfl rfl) ?_
      refine WL.nilS ?_
      refine CW.condF rfl ?_
      refine CW.skip ?_
      refine NQ.block ?_
      refine NQ.then ?_
      refine CW.reg ?_
      refine WL.pure rfl rfl rfl (PV.add rfl rfl (by constructor <;> omega)) ?_
      refine WL.mv rfl rfl ?_
      refine WL.nil ?_
      refine NQ.next (ρ := [(6, _), (7, _), (21, _)]) ⟨rfl, rfl, rfl, rfl, rfl, rfl, rfl, rfl, trivial⟩ ?_
      exact ⟨_, ⟨k + 1, bb, ll, rfl, rfl, hU1, (by first | omega | assumption | (simp_all; done) | (simp_all; omega)), (by first | exact hs.no (by rintro ⟨c1, c2⟩; first | omega | (have c3 := c2 (by omega); omega)) | exact hs.keep (by omega) (by unfold valC; first | (rw [if_pos (by omega)]; omega) | (rw [if_neg (by omega)]; omega)) | exact hs.take ⟨by omega, fun c => by omega⟩ (by unfold valC; first | (rw [if_pos (by omega)]; done) | (rw [if_neg (by omega)]; done)) (by omega)), (by omega), (by omega)⟩, by omega⟩
    try simp only [nq] at hc7
    refine WL.pureG rfl rfl rfl rfl rfl (PV.move rfl) ?_
    refine WL.pureG rfl rfl rfl rfl rfl (PV.move rfl) ?_
    refine WL.pureG rfl rfl rfl rfl rfl (PV.lss rfl rfl) ?_
    refine WL.pure rfl rfl rfl (PV.pickT rfl rfl) ?_
    refine WL.nilS ?_
    refine CW.cond rfl (fun hc8 => ?_) (fun hc8 => ?_)
    · skip
      try simp only [nq] at hc8
      refine CW.reg ?_
      refine WL.mv rfl rfl ?_
      refine WL.mv rfl rfl ?_
      refine WL.asg rfl rfl ?_
      refine WL.asg rfl rfl ?_
      refine WL.nil ?_
      refine NQ.block ?_
      refine NQ.then ?_
      refine CW.reg ?_
      refine WL.pure rfl rfl rfl (PV.add rfl rfl (by constructor <;> omega)) ?_
      refine WL.mv rfl rfl ?_
      refine WL.nil ?_
      refine NQ.next (ρ := [(6, _), (7, _), (21, _)]) ⟨rfl, rfl, rfl, rfl, rfl, rfl, rfl, rfl, trivial⟩ ?_
      exact ⟨_, ⟨k + 1, k, _, rfl, rfl, hU1, (by first | omega | assumption | (simp_all; done) | (simp_all; omega)), (by first | exact hs.no (by rintro ⟨c1, c2⟩; first | omega | (have c3 := c2 (by omega); omega)) | exact hs.keep (by omega) (by unfold valC; first | (rw [if_pos (by omega)]; omega) | (rw [if_neg (by omega)]; omega)) | exact hs.take ⟨by omega, fun c => by omega⟩ (by unfold valC; first | (rw [if_pos (by omega)]; done) | (rw [if_neg (by omega)]; done)) (by omega)), (by omega), (by omega)⟩, by omega⟩
    try simp only [nq] at hc8
    refine CW.skip ?_
    refine NQ.block ?_
    refine NQ.then ?_
    refine CW.reg ?_
    refine WL.pure rfl rfl rfl (PV.add rfl rfl (by constructor <;> omega)) ?_
    refine WL.mv rfl rfl ?_
    refine WL.nil ?_
    refine NQ.next (ρ := [(6, _), (7, _), (21, _)]) ⟨rfl, rfl, rfl, rfl, rfl, rfl, rfl, rfl, trivial⟩ ?_
    exact ⟨_, ⟨k + 1, bb, ll, rfl, rfl, hU1, (by first | omega | assumption | (simp_all; done) | (simp_all; omega)), (by first | exact hs.no (by rintro ⟨c1, c2⟩; first | omega | (have c3 := c2 (by omega); omega)) | exact hs.keep (by omega) (by unfold valC; first | (rw [if_pos (by omega)]; omega) | (rw [if_neg (by omega)]; omega)) | exact hs.take ⟨by omega, fun c => by omega⟩ (by unfold valC; first | (rw [if_pos (by omega)]; done) | (rw [if_neg (by omega)]; done)) (by omega)), (by omega), (by omega)⟩, by omega⟩
  try simp only [nq] at hc1
  refine CW.exit ?_
  refine XQ.then ?_
  refine XQ.then ?_
  refine XQ.here ?_
  refine NQ.then ?_
  refine CW.seq ?_
  refine CW.seq ?_
  refine CW.reg ?_
  obtain rfl : k = xa2.length := (by omega); have hsel := hs
  refine WL.mv rfl rfl ?_
  refine WL.pure rfl rfl rfl (PV.lss rfl rfl) ?_
  refine WL.nilS ?_
  refine CW.cond rfl (fun hc9 => ?_) (fun hc9 => ?_)
  · skip
    try simp only [nq] at hc9
    refine CW.seq ?_
    refine CW.reg ?_
    refine WL.mv rfl rfl ?_
    refine WL.mv rfl rfl ?_
    refine WL.asg rfl rfl ?_
    refine WL.asg rfl rfl ?_
    refine WL.nilS ?_
    refine CW.ret ?_
    refine RQ.then ?_
    refine RQ.block ?_
    refine RQ.then ?_
    refine RQ.block ?_
    refine RQ.r2 rfl rfl ?_
    refine ⟨hB, rv1, og2, rv2, og3, ?_, osE ho2 ?_, hl2, osE ho3 ?_, hl3, hd2_3⟩
    · skip
      rfl
    · skip
      rw [givC_done hI hsel (by omega)]
    · skip
      rw [givC_done hI hsel (by omega)]
  try simp only [nq] at hc9
  refine CW.skipS ?_
  refine CW.seq ?_
  refine CW.reg ?_
  have hrb := hs.rng (by omega); have hokb := hg.2.2.2 bb.toNat (by omega); have hokb1 := hokb.1
  refine WL.pure rfl rfl rfl (PV.fieldAddr T.fl33_2 rfl hb1.cells) ?_
  refine WL.pure rfl rfl rfl (PV.load1 T.na31 rfl hb1.cells (Ext.refl _) rfl) ?_
  refine WL.mv rfl rfl ?_
  first
    | refine WL.at (x := .tmp 77) (y := .tmp 78) (E := ER) ((0, 0, 0, 0)) rfl rfl (by first | assumption | exact Inn.rd (by assumption) (by omega)) (by omega) (fun p8 csp8 hpp8 hcp8 hq => ?_)
    | refine WL.atZ (x := .tmp 77) (y := .tmp 78) (E := ER) ((0, 0, 0, 0)) rfl rfl (by first | assumption | exact Inn.rd (by assumption) (by omega)) (by omega) (fun p8 csp8 hpp8 hzp8 hcp8 hq => ?_)
  cases hq
  refine WL.pure rfl rfl rfl ((by first | exact PV.indexAddr hpp8 rfl rfl T.sl31 | exact PV.indexAddr hpp8 rfl (by rw [← hzp8]; rfl) T.sl31)) ?_
  refine WL.pure rfl rfl rfl ((by first | exact PV.fieldAddr T.fl56_0 rfl (by first | assumption | exact Bx.cells (by assumption)) | exact PV.fieldAddrP T.fl56_0 rfl rfl)) ?_
  refine WL.pure rfl rfl rfl ((by first | exact PV.load0 T.na2 rfl (by first | exact Cells.up (by assumption) hB | exact Bx.cells (by assumption) | assumption) (Ext.refl _) rfl | exact PV.load1 T.na2 rfl (by first | exact Cells.up (by assumption) hB | exact Bx.cells (by assumption) | assumption) (Ext.refl _) rfl)) ?_
  refine WL.asg rfl rfl ?_
  refine WL.nilS ?_
  refine CW.reg ?_
  refine WL.mv rfl rfl ?_
  refine WL.mv rfl rfl ?_
  refine WL.mv rfl rfl ?_
  refine WL.mv rfl rfl ?_
  refine WL.mv rfl rfl ?_
  refine WL.mv rfl rfl ?_
  first
    | refine WL.atO (x := .tmp 82) (y := .tmp 83) (f := VI) (0) rfl rfl ho2 (by omega) (fun p9 hpp9 hcp9 => ?_)
    | refine WL.atOZ (x := .tmp 82) (y := .tmp 83) (f := VI) (0) rfl rfl ho2 (by omega) (fun p9 hpp9 hzp9 hcp9 => ?_)
  refine WL.pure rfl rfl rfl ((by first | exact PV.indexAddr hpp9 rfl rfl T.sl28 | exact PV.indexAddr hpp9 rfl (by rw [← hzp9]; rfl) T.sl28)) ?_
  refine WL.op rfl (OpK.storeS VI T.sz2 rfl rfl rfl hpp9 ho2 (fun w8 hXw8 ho2 => ?_))
  have hB := hB.updL hXw8 hl2
  have hb1 := hb1.updD hXw8 hd1_2
  have ho3 := ho3.updD hXw8 (Dj.symm hd2_3)
  have hU0 := hU0.step hXw8 hk0_2
  first
    | refine WL.atO (x := .tmp 84) (y := .tmp 85) (f := VI) (0) rfl rfl ho3 (by omega) (fun p10 hpp10 hcp10 => ?_)
    | refine WL.atOZ (x := .tmp 84) (y := .tmp 85) (f := VI) (0) rfl rfl ho3 (by omega) (fun p10 hpp10 hzp10 hcp10 => ?_)
  refine WL.pure rfl rfl rfl ((by first | exact PV.indexAddr hpp10 rfl rfl T.sl28 | exact PV.indexAddr hpp10 rfl (by rw [← hzp10]; rfl) T.sl28)) ?_
  refine WL.op rfl (OpK.storeS VI T.sz2 rfl rfl rfl hpp10 ho3 (fun w9 hXw9 ho3 => ?_))
  have hB := hB.updL hXw9 hl3
  have hb1 := hb1.updD hXw9 hd1_3
  have ho2 := ho2.updD hXw9 hd2_3
  have hU0 := hU0.step hXw9 hk0_3
  refine WL.nil ?_
  refine NQ.block ?_
  refine NQ.next (ρ := []) ⟨rfl, rfl, rfl, trivial⟩ ?_
  exact ⟨_, ⟨t + 1, rfl, rfl, hU0, osE ho2 (by exact (givC_step hsel (by omega)).1), osE ho3 (by exact (givC_step hsel (by omega)).2), (by exact hI.next hg hsel (by omega))⟩, by (have hle2 := (hI.next hg hsel (by omega)).le; omega)⟩
theorem c_impl_LeastCosts {w : World} {a0 : Int} {a1 : Int} {va2 : Value} {xa2 : List R4}  (ha2 : Rd ER w va2 xa2) : Calls Try.prog 34 #[.agg #[.int .i64 a0, .int .i64 a1, va2]] w (Ret1 (fun v w' => Ext w w' ∧ ∃ u og_u, v = .tuple #[u, .bool (gramB a0 a1 xa2)] ∧ Osl VI w' og_u u (onT (gramB a0 a1 xa2) (allC a0 xa2).2) ∧ Lo w og_u)) := by
  have hB : Ext w w := Ext.refl w
  have hla2 := ha2.leI
  refine callsOf (vs := [_]) Try.func34 rfl Try.ntmps34 rfl rfl ?_
  refine CW.seq ?_
  refine CW.reg ?_
  refine WL.op rfl (OpK.box rfl rfl (by first | exact Rd.cells1 (by assumption) | exact Osl.cells1 (by assumption) | exact Osn.cells1 (by assumption) | exact Rd.cells1 (NL.rd (by assumption)) | exact Inn.cell1 (by assumption) (by omega) | assumption | rfl) (fun b1 w1 hXw1 hb1 hge1 => ?_))
  have hl1 := Lo.new hB hge1
  have hB := hB.trans hXw1
  refine WL.asg rfl rfl ?_
  refine WL.asg rfl rfl ?_
  refine WL.nilS ?_
  refine CW.seq ?_
  refine CW.seq ?_
  refine CW.reg ?_
  refine WL.pure rfl rfl rfl (PV.loadA T.ag33 rfl hb1.cells (Ext.refl _) rfl) ?_
  refine WL.op rfl (OpK.callR rfl T.cf103 rfl (c_impl_ValidGrammar (by first | assumption | exact Rd.up (by assumption) hB | exact Osl.rd (by assumption) | exact Osn.rdR (by assumption))) (fun w2 hXw2 => ?_))
  have hB := hB.trans hXw2
  have hb1 := hb1.up hXw2
  refine WL.pure rfl rfl rfl (PV.not rfl) ?_
  refine WL.nilS ?_
  refine CW.cond rfl (fun hc1 => ?_) (fun hc1 => ?_)
  · skip
    try simp only [nq] at hc1
    refine CW.seq ?_
    refine CW.reg ?_
    refine WL.asg rfl rfl ?_
    refine WL.asg rfl rfl ?_
    refine WL.nilS ?_
    refine CW.ret ?_
    refine RQ.then ?_
    refine RQ.r2 rfl rfl ?_
    refine ⟨hB, (.slice none 0 0), none, ?_, osE (Osl.nil _ _) ?_, Lo.nl _⟩
    · skip
      first | exact tE2 rfl (bE (gramB_yes (by assumption)).symm) | exact tE2 rfl (bE (Bool.eq_false_iff.2 (gramB_no (by assumption))).symm)
    · skip
      first | (rw [onT_no (gramB_no (by assumption))]; done) | (rw [onT_yes (gramB_yes (by assumption))]; done)
  try simp only [nq] at hc1
  refine CW.skipS ?_
  refine CW.seq ?_
  refine CW.reg ?_
  refine WL.pure rfl rfl rfl (PV.loadA T.ag33 rfl hb1.cells (Ext.refl _) rfl) ?_
  refine WL.op rfl (OpK.call rfl T.cf118 rfl (c_impl_Grammar_cheapest (by first | assumption | exact Rd.up (by assumption) hB | exact Osl.rd (by assumption) | exact Osn.rdR (by assumption)) (by first | assumption | omega | (simp only [marks_len]; omega))) (fun rv1 w3 hR => ?_))
  obtain ⟨hXw3, v2, og2, v3, og3, rfl, ho2, hq2, ho3, hq3, hd2_3⟩ := hR
  have hl2 := Lo.up hq2 hB
  have hd1_2 := Dj.lo hb1.ltO hq2
  have hl3 := Lo.up hq3 hB
  have hd1_3 := Dj.lo hb1.ltO hq3
  have hB := hB.trans hXw3
  have hb1 := hb1.up hXw3
  refine WL.mv rfl rfl ?_
  refine WL.pure rfl rfl rfl (PV.extract rfl rfl) ?_
  refine WL.pure rfl rfl rfl (PV.extract rfl rfl) ?_
  refine WL.asg rfl rfl ?_
  refine WL.asg rfl rfl ?_
  refine WL.nilS ?_
  refine CW.seq ?_
  refine CW.reg ?_
  refine WL.mv rfl rfl ?_
  refine WL.asg rfl rfl ?_
  refine WL.asg rfl rfl ?_
  refine WL.nilS ?_
  refine CW.ret ?_
  refine RQ.r2 rfl rfl ?_
  refine ⟨hB, v3, og3, ?_, osE ho3 ?_, hl3⟩
  · skip
    first | exact tE2 rfl (bE (gramB_yes (by assumption)).symm) | exact tE2 rfl (bE (Bool.eq_false_iff.2 (gramB_no (by assumption))).symm)
  · skip
    first | (rw [onT_no (gramB_no (by assumption))]; done) | (rw [onT_yes (gramB_yes (by assumption))]; done)
theorem c_impl_Grammar_wordOf_n : ∀ (m : Nat) {w : World} {b : World} {og : Option Nat} {vo vr : Value} {xs ru : List Int} {d : Nat → Nat} {x : Int} {a0 : Int} {a1 : Int} {va2 : Value} {xa2 : List R4}  (hB0 : Ext b w) (ht_vo : Osl VI w og vo (xs)) (htl_vo : Lo b og) (ha2 : Rd ER b va2 xa2) (hr : Rd EI b vr ru) (hd : DagC a0 xa2 ru d) (hn : 0 ≤ a0 ∧ a0 ≤ 8) (hx : 0 ≤ x ∧ x < a0) (hx2 : 0 ≤ ru.getD x.toNat 0) (hxl : xs.length + 2 ^ d x.toNat ≤ 1000), (d x.toNat) < m → Calls Try.prog 119 #[.agg #[.int .i64 a0, .int .i64 a1, va2], vo, vr, .int .i64 x] w (Ret1 (fun v w' => UpdL [og] w w' ∧ ∃ u og_u, v = u ∧ Osl VI w' og_u u (xs ++ (wordW xa2 ru x)) ∧ OgR w og og_u)) := by
  intro m
  induction m with
  | zero => intro _ _ _ _ _ _ _ _ _ _ _ _ _ _ _ _ _ _ _ _ _ _ _ hm; exact absurd hm (Nat.not_lt_zero _)
  | succ m ih =>
  intro w b og vo vr xs ru d x a0 a1 va2 xa2 hB0 ht_vo htl_vo ha2 hr hd hn hx hx2 hxl hm
  have hB := hB0
  have hkk := hd.ok x hx.1 hx.2 hx2; simp only [ruR] at hkk; have hdl := hd.len; have hdx := hd.le x.toNat; have hpw := Nat.one_le_two_pow (n := d x.toNat)
  refine callsOf (vs := [_, _, _, _]) Try.func119 rfl Try.ntmps119 rfl rfl ?_
  have hUB : UpdL [og] w w := UpdL.refl _ _
  have ho1 := ht_vo
  have hl1 := htl_vo
  have hkB_1 : OkB [og] w og := OkB.mem (by simp)
  have hgB_1 := OgR.refl w og
  refine CW.seq ?_
  refine CW.reg ?_
  refine WL.op rfl (OpK.box rfl rfl (by first | exact Rd.cells1 (by assumption) | exact Osl.cells1 (by assumption) | exact Osn.cells1 (by assumption) | exact Rd.cells1 (NL.rd (by assumption)) | exact Inn.cell1 (by assumption) (by omega) | assumption | rfl) (fun b2 w1 hXw1 hb2 hge2 => ?_))
  have hl2 := Lo.new hB hge2
  have hd1_2 := Dj.new ho1.ltO hge2
  have hkB_2 := OkN.new hUB hge2
  have hgB_2 := OgR.new hUB.size hge2
  have hB := hB.trans hXw1
  have ho1 := ho1.up hXw1
  have hUB := hUB.ext hXw1
  refine WL.asg rfl rfl ?_
  refine WL.nilS ?_
  refine CW.seq ?_
  refine CW.draw T.mixed (by kernel_rfl) (fun _ _ _ _ _ h => h) (fun w8 w9 => Upd none w8 w9) 10 (.take 0 (.take 1 (.take 2 (.take 3 (.take 4 (.take 5 (.take 6 (.take 7 (.must 8 (.must 9 .done)))))))))) (by kernel_rfl) (fun w2 hXd => ?_)
  have hB := hB.trans hXd
  have ho1 := ho1.up hXd
  have hb2 := hb2.up hXd
  have hUB := hUB.ext hXd
  have hBr := hB
  have hS : Upd none w2 w2 := Ext.toUpd (Ext.refl _)
  refine HP.take rfl rfl rfl rfl hS (fun wS hS1 => PV.fieldAddr T.fl33_2 rfl hb2.cells) ?_
  refine HP.take rfl rfl rfl rfl hS (fun wS hS1 => PV.load1 T.na31 rfl (Bx.cells (Bx.updD (by assumption) hS1 (Dj.nlR _))) (Ext.refl _) rfl) ?_
  refine HP.take rfl rfl rfl rfl hS (fun wS hS1 => PV.move rfl) ?_
  refine HP.take rfl rfl rfl rfl hS (fun wS hS1 => PV.move rfl) ?_
  first
    | refine HP.at (x := .tmp 12) (y := .tmp 13) (E := EI) (0) rfl rfl (by first | assumption | exact Inn.rd (by assumption) (by omega)) (by omega) (fun p1 csp1 hpp1 hcp1 hq => ?_)
    | refine HP.atZ (x := .tmp 12) (y := .tmp 13) (E := EI) (0) rfl rfl (by first | assumption | exact Inn.rd (by assumption) (by omega)) (by omega) (fun p1 csp1 hpp1 hzp1 hcp1 hq => ?_)
  cases hq
  refine HP.take rfl rfl rfl rfl hS (fun wS hS1 => (by first | exact PV.indexAddr hpp1 rfl rfl T.sl28 | exact PV.indexAddr hpp1 rfl (by rw [← hzp1]; rfl) T.sl28)) ?_
  refine HP.take rfl rfl rfl rfl hS (fun wS hS1 => (by first | exact PV.load0 T.na2 rfl (by first | exact Cells.up (by assumption) (hBr.trans hS1) | exact Bx.cells (Bx.updD (by assumption) hS1 (Dj.nlR _)) | exact Cells.upd (by assumption) hS1 (by simp)) (Ext.refl _) rfl | exact PV.load1 T.na2 rfl (by first | exact Cells.up (by assumption) (hBr.trans hS1) | exact Bx.cells (Bx.updD (by assumption) hS1 (Dj.nlR _)) | exact Cells.upd (by assumption) hS1 (by simp)) (Ext.refl _) rfl)) ?_
  first
    | refine HP.at (x := .tmp 11) (y := .tmp 15) (E := ER) ((0, 0, 0, 0)) rfl rfl (by first | assumption | exact Inn.rd (by assumption) (by omega)) (by omega) (fun p2 csp2 hpp2 hcp2 hq => ?_)
    | refine HP.atZ (x := .tmp 11) (y := .tmp 15) (E := ER) ((0, 0, 0, 0)) rfl rfl (by first | assumption | exact Inn.rd (by assumption) (by omega)) (by omega) (fun p2 csp2 hpp2 hzp2 hcp2 hq => ?_)
  cases hq
  refine HP.take rfl rfl rfl rfl hS (fun wS hS1 => (by first | exact PV.indexAddr hpp2 rfl rfl T.sl31 | exact PV.indexAddr hpp2 rfl (by rw [← hzp2]; rfl) T.sl31)) ?_
  refine HP.take rfl rfl rfl rfl hS (fun wS hS1 => (by first | exact PV.loadA T.ag56 rfl (by first | exact Cells.up (by assumption) (hBr.trans hS1) | exact Bx.cells (Bx.updD (by assumption) hS1 (Dj.nlR _)) | exact Cells.upd (by assumption) hS1 (by simp)) (Ext.refl _) rfl | exact PV.loadP (ds := [_, _, _, _]) T.ag56 rfl (by first | exact Cells.up (by assumption) (hBr.trans hS1) | exact Bx.cells (Bx.updD (by assumption) hS1 (Dj.nlR _)) | exact Cells.upd (by assumption) hS1 (by simp)) (Ext.refl _) rfl rfl)) ?_
  refine HP.must rfl rfl (OpK.alloc rfl T.zv56 rfl (fun b3 w3 hXw3 hb3 hge3 => ?_))
  have hl3 := Lo.new hB hge3
  have hv3 := Lo.new hS hge3
  have hd1_3 := Dj.new ho1.ltO hge3
  have hd2_3 := Dj.new hb2.ltO hge3
  have hkB_3 := OkN.new hUB hge3
  have hgB_3 := OgR.new hUB.size hge3
  refine ⟨Upd.trans hS hXw3, ?_⟩
  have hS := Upd.trans hS hXw3
  have hB := hB.trans hXw3
  have ho1 := ho1.up hXw3
  have hb2 := hb2.up hXw3
  have hUB := hUB.ext hXw3
  refine HP.must rfl rfl (OpK.storeA T.sz56 rfl rfl rfl rfl (by simp [Value.oneCell'] <;> first | done | (repeat' apply And.intro) <;> first | rfl | exact Osl.oneCell (by assumption) | exact Osn.oneCell (by assumption) | exact Rd.oneCell (by assumption) | exact Rd.oneCell (NL.rd (by assumption)) | assumption) hb3 (fun w4 hXw4 hb3 => ?_))
  refine ⟨Ext.updL hS hXw4 hv3, ?_⟩
  have hS := Ext.updL hS hXw4 hv3
  have hB := hB.updL hXw4 hl3
  have ho1 := ho1.updD hXw4 hd1_3
  have hb2 := hb2.updD hXw4 hd2_3
  have hUB := hUB.step hXw4 hkB_3
  refine HP.doneS ?_
  refine CW.seq ?_
  refine CW.seq ?_
  refine CW.reg ?_
  refine WL.pure rfl rfl rfl (PV.fieldAddr T.fl56_2 rfl hb3.cells) ?_
  refine WL.pure rfl rfl rfl (PV.load1 T.na2 rfl hb3.cells (Ext.refl _) rfl) ?_
  refine WL.pure rfl rfl rfl (PV.lss rfl rfl) ?_
  refine WL.nilS ?_
  refine CW.cond rfl (fun hc1 => ?_) (fun hc1 => ?_)
  · skip
    try simp only [nq] at hc1
    refine CW.seq ?_
    refine CW.reg ?_
    refine WL.mv rfl rfl ?_
    refine WL.pure rfl rfl rfl (PV.fieldAddr T.fl56_1 rfl hb3.cells) ?_
    refine WL.pure rfl rfl rfl (PV.load1 T.na2 rfl hb3.cells (Ext.refl _) rfl) ?_
    refine WL.op rfl (OpK.buildS VI (os := [.tmp 23]) [_] rfl T.sl28 rfl rfl T.zv2 rfl (by intro z hz; first | rfl | (simp only [List.mem_cons, List.not_mem_nil, or_false] at hz; subst hz; exact (by first | exact Rd.cells1 (by assumption) | exact Osl.cells1 (by assumption) | exact Osn.cells1 (by assumption) | exact Rd.cells1 (NL.rd (by assumption)) | exact Inn.cell1 (by assumption) (by omega) | assumption | rfl))) rfl (fun v4 g4 w5 hXw5 ho4 hge4 => ?_))
    have hl4 := Lo.new hB hge4
    have hd1_4 := Dj.new ho1.ltO hge4
    have hd2_4 := Dj.new hb2.ltO hge4
    have hd3_4 := Dj.new hb3.ltO hge4
    have hkB_4 := OkN.new hUB hge4
    have hgB_4 := OgR.new hUB.size hge4
    have hB := hB.trans hXw5
    have ho1 := ho1.up hXw5
    have hb2 := hb2.up hXw5
    have hb3 := hb3.up hXw5
    have hUB := hUB.ext hXw5
    refine WL.op rfl (OpK.appendS (f := VI) rfl T.sl28 T.zv2 rfl rfl ho1 rfl (Osl.src ho4 (fun _ => rfl)) (by first | (simp only [List.length_cons, List.length_nil]; omega) | (simp only [List.length_cons, List.length_nil]; omega)) (fun v5 og5 w6 hXw6 ho5 hap5 => ?_))
    have hl5 := Lo.app hl1 hB hap5
    have hd2_5 := Dj.app (Dj.symm hd1_2) hb2.ltO hap5
    have hd3_5 := Dj.app (Dj.symm hd1_3) hb3.ltO hap5
    have hd4_5 := Dj.app (Dj.symm hd1_4) ho4.ltO hap5
    have hkB_5 := OkN.app hUB hkB_1 hap5
    have hgB_5 := OgR.app hgB_1 hUB.size hap5
    have hB := hB.updL hXw6 hl1
    have hb2 := hb2.updD hXw6 (Dj.symm hd1_2)
    have hb3 := hb3.updD hXw6 (Dj.symm hd1_3)
    have ho4 := ho4.updD hXw6 (Dj.symm hd1_4)
    have hUB := hUB.step hXw6 hkB_1
    refine WL.asg rfl rfl ?_
    refine WL.nilS ?_
    refine CW.ret ?_
    refine RQ.then ?_
    refine RQ.r1 rfl ?_
    refine ⟨hUB, v5, og5, ?_, osE ho5 ?_, hgB_5⟩
    · skip
      first | rfl | exact bT (by omega) | exact bF (by omega) | exact bD (by omega) | exact iE (by omega) | (simp_all; done) | (simp_all; omega) | (simp_all; intros; omega)
    · skip
      first | (rw [wordW_leaf (by assumption)]; done) | (rw [wordW_node hd hn.2 hx.1 hx.2 hx2 (by simp only [ruR]; omega), List.append_assoc])
  try simp only [nq] at hc1
  refine CW.skipS ?_
  refine CW.seq ?_
  refine CW.draw T.mixed (by kernel_rfl) (fun _ _ _ _ _ h => h) (fun w8 w9 => Upd og w8 w9) 12 (.take 0 (.take 1 (.take 2 (.take 3 (.take 4 (.take 5 (.take 7 (.take 8 (.take 9 (.must 6 (.must 10 (.take 11 .done)))))))))))) (by kernel_rfl) (fun w7 hXd => ?_)
  have hB := hB.trans hXd
  have ho1 := ho1.up hXd
  have hb2 := hb2.up hXd
  have hb3 := hb3.up hXd
  have hUB := hUB.ext hXd
  have hBr := hB
  have hS : Upd og w7 w7 := Ext.toUpd (Ext.refl _)
  have hUR : UpdL [og] w7 w7 := UpdL.refl _ _
  have hkR_1 : OkB [og] w7 og := OkB.mem (by simp)
  have hgR_1 := OgR.refl w7 og
  obtain ⟨⟨f1, f2, f3, f4⟩, g1, g2, g3⟩ := hkk.2.2 (by omega)
  refine HP.take rfl rfl rfl rfl hS (fun wS hS1 => PV.loadA T.ag33 rfl (Bx.cells (Bx.updD (by assumption) hS1 (by first | assumption | exact Dj.symm (by assumption)))) (Ext.refl _) rfl) ?_
  refine HP.take rfl rfl rfl rfl hS (fun wS hS1 => PV.loadA T.ag33 rfl (Bx.cells (Bx.updD (by assumption) hS1 (by first | assumption | exact Dj.symm (by assumption)))) (Ext.refl _) rfl) ?_
  refine HP.take rfl rfl rfl rfl hS (fun wS hS1 => PV.move rfl) ?_
  refine HP.take rfl rfl rfl rfl hS (fun wS hS1 => PV.move rfl) ?_
  refine HP.take rfl rfl rfl rfl hS (fun wS hS1 => PV.fieldAddr T.fl56_1 rfl hb3.cells) ?_
  refine HP.take rfl rfl rfl rfl hS (fun wS hS1 => PV.load1 T.na2 rfl (Bx.cells (Bx.updD (by assumption) hS1 (by first | assumption | exact Dj.symm (by assumption)))) (Ext.refl _) rfl) ?_
  refine HP.take rfl rfl rfl rfl hS (fun wS hS1 => PV.move rfl) ?_
  refine HP.take rfl rfl rfl rfl hS (fun wS hS1 => PV.fieldAddr T.fl56_2 rfl hb3.cells) ?_
  refine HP.take rfl rfl rfl rfl hS (fun wS hS1 => PV.load1 T.na2 rfl (Bx.cells (Bx.updD (by assumption) hS1 (by first | assumption | exact Dj.symm (by assumption)))) (Ext.refl _) rfl) ?_
  refine HP.must rfl rfl (OpK.call rfl T.cf119 rfl (ih hB (by first | assumption | exact Dj.symm (by assumption)) (by first | assumption | exact Lo.nl _) (by first | assumption | exact Rd.up (by assumption) hB | exact Osl.rd (by assumption) | exact Osn.rdR (by assumption)) (by first | assumption | exact Rd.up (by assumption) hB | exact Osl.rd (by assumption) | exact Osn.rdR (by assumption)) (by first | assumption | omega | (simp only [marks_len]; omega)) (by first | assumption | omega | (simp only [marks_len]; omega)) (by first | assumption | omega | (simp only [marks_len]; omega)) (by first | assumption | omega | (simp only [marks_len]; omega)) (by first | omega | (have hp9 := pow_sum hd hn.2 hx.1 hx.2 hx2 (by simp only [ruR]; omega); simp only [ruR] at hp9; first | omega | (rw [List.length_append]; omega))) (by omega)) (fun rv1 w8 hR => ?_))
  have hlt1 := ho1.ltO
  have hlt2 := hb2.ltO
  have hlt3 := hb3.ltO
  obtain ⟨hUC6, v7, og7, rfl, ho7, hr7⟩ := hR
  have hl7 := Lo.ogr hl1 hB hr7
  have hd2_7 := Dj.ogr (Dj.symm hd1_2) hlt2 hr7
  have hd3_7 := Dj.ogr (Dj.symm hd1_3) hlt3 hr7
  have hkB_7 := OkB.ogr hkB_1 hUB.size hr7
  have hgB_7 := OgR.trans hgB_1 hUB.size hr7
  have hkR_7 := OkB.ogr hkR_1 hUR.size hr7
  have hgR_7 := OgR.trans hgR_1 hUR.size hr7
  have hUB := hUB.trans hUC6 ⟨hkB_1, trivial⟩
  have hUR := hUR.trans hUC6 ⟨hkR_1, trivial⟩
  have hb2 := hb2.loop hUC6 ⟨(Dj.symm hd1_2), trivial⟩
  have hb3 := hb3.loop hUC6 ⟨(Dj.symm hd1_3), trivial⟩
  have hB := hB.loop hUC6 ⟨hl1, trivial⟩
  refine ⟨hUR.toUpd1, ?_⟩
  have hS := hUR.toUpd1
  refine HP.must rfl rfl (OpK.call rfl T.cf119 rfl (ih hB (by first | assumption | exact Dj.symm (by assumption)) (by first | assumption | exact Lo.nl _) (by first | assumption | exact Rd.up (by assumption) hB | exact Osl.rd (by assumption) | exact Osn.rdR (by assumption)) (by first | assumption | exact Rd.up (by assumption) hB | exact Osl.rd (by assumption) | exact Osn.rdR (by assumption)) (by first | assumption | omega | (simp only [marks_len]; omega)) (by first | assumption | omega | (simp only [marks_len]; omega)) (by first | assumption | omega | (simp only [marks_len]; omega)) (by first | assumption | omega | (simp only [marks_len]; omega)) (by first | omega | (have hp9 := pow_sum hd hn.2 hx.1 hx.2 hx2 (by simp only [ruR]; omega); simp only [ruR] at hp9; first | omega | (rw [List.length_append]; omega))) (by omega)) (fun rv2 w9 hR => ?_))
  have hlt2 := hb2.ltO
  have hlt3 := hb3.ltO
  have hlt7 := ho7.ltO
  obtain ⟨hUC8, v9, og9, rfl, ho9, hr9⟩ := hR
  have hl9 := Lo.ogr hl7 hB hr9
  have hd2_9 := Dj.ogr hd2_7 hlt2 hr9
  have hd3_9 := Dj.ogr hd3_7 hlt3 hr9
  have hkB_9 := OkB.ogr hkB_7 hUB.size hr9
  have hgB_9 := OgR.trans hgB_7 hUB.size hr9
  have hkR_9 := OkB.ogr hkR_7 hUR.size hr9
  have hgR_9 := OgR.trans hgR_7 hUR.size hr9
  have hUB := hUB.trans hUC8 ⟨hkB_7, trivial⟩
  have hUR := hUR.trans hUC8 ⟨hkR_7, trivial⟩
  have hb2 := hb2.loop hUC8 ⟨hd2_7, trivial⟩
  have hb3 := hb3.loop hUC8 ⟨hd3_7, trivial⟩
  have hB := hB.loop hUC8 ⟨hl7, trivial⟩
  refine ⟨hUR.toUpd1, ?_⟩
  have hS := hUR.toUpd1
  refine HP.take rfl rfl rfl rfl hS (fun wS hS1 => PV.assign rfl) ?_
  refine HP.doneS ?_
  refine CW.ret ?_
  refine RQ.r1 rfl ?_
  refine ⟨hUB, rv2, og9, ?_, osE ho9 ?_, hgB_9⟩
  · skip
    first | rfl | exact bT (by omega) | exact bF (by omega) | exact bD (by omega) | exact iE (by omega) | (simp_all; done) | (simp_all; omega) | (simp_all; intros; omega)
  · skip
    first | (rw [wordW_leaf (by assumption)]; done) | (rw [wordW_node hd hn.2 hx.1 hx.2 hx2 (by simp only [ruR]; omega), List.append_assoc])
theorem c_impl_Grammar_wordOf {w : World} {b : World} {og : Option Nat} {vo vr : Value} {xs ru : List Int} {d : Nat → Nat} {x : Int} {a0 : Int} {a1 : Int} {va2 : Value} {xa2 : List R4}  (hB0 : Ext b w) (ht_vo : Osl VI w og vo (xs)) (htl_vo : Lo b og) (ha2 : Rd ER b va2 xa2) (hr : Rd EI b vr ru) (hd : DagC a0 xa2 ru d) (hn : 0 ≤ a0 ∧ a0 ≤ 8) (hx : 0 ≤ x ∧ x < a0) (hx2 : 0 ≤ ru.getD x.toNat 0) (hxl : xs.length + 2 ^ d x.toNat ≤ 1000) : Calls Try.prog 119 #[.agg #[.int .i64 a0, .int .i64 a1, va2], vo, vr, .int .i64 x] w (Ret1 (fun v w' => UpdL [og] w w' ∧ ∃ u og_u, v = u ∧ Osl VI w' og_u u (xs ++ (wordW xa2 ru x)) ∧ OgR w og og_u)) := c_impl_Grammar_wordOf_n _ hB0 ht_vo htl_vo ha2 hr hd hn hx hx2 hxl (Nat.lt_succ_self _)

end Go.Proofs.Ythemmoceomdccaa
