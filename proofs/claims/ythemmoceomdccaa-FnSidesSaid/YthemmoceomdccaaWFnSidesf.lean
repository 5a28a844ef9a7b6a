/- Walks of the functions that the law FnSides reaches: each says what its function computes. No condition. -/
import Derived.Test.YthemmoceomdccaaProg
import Derived.Test.YthemmoceomdccaaLibM
import Derived.Test.YthemmoceomdccaaPlA
import Derived.Test.YthemmoceomdccaaPlG
import Derived.Test.YthemmoceomdccaaPlS
import Derived.Test.YthemmoceomdccaaLibG2
import Derived.Test.YthemmoceomdccaaPlT
import Derived.Test.YthemmoceomdccaaLibMp
import Derived.Test.YthemmoceomdccaaPlRd
import Derived.Test.YthemmoceomdccaaLibV
import Derived.Test.YthemmoceomdccaaLibW
import Derived.Test.YthemmoceomdccaaPlI2
import Derived.Test.YthemmoceomdccaaPlDq
import Derived.Test.YthemmoceomdccaaPlSd
import Derived.Test.YthemmoceomdccaaPlSe
import Derived.Test.YthemmoceomdccaaWFnSidese
namespace Go.Proofs.Ythemmoceomdccaa
open Go Go.WX Go.Proofs
set_option linter.unusedSimpArgs false
set_option linter.unusedVariables false

theorem c_spec_l05Words {w : World} {L n : Int} (hL : 1 ≤ L ∧ L ≤ 4) (hn : 0 ≤ n ∧ n ≤ 5) : Calls Try.prog 160 #[.int .i64 L, .int .i64 n] w (Ret1 (fun v w' => Ext w w' ∧ ∃ u og_u vs_u os_u, v = u ∧ Osl VV w' og_u u vs_u ∧ Lo w og_u ∧ Inn w' os_u vs_u (wordsP L (n.toNat + 1)) ∧ LoI w os_u ∧ DI os_u og_u)) := by
  have hB : Ext w w := Ext.refl w
  refine callsOf (vs := [_, _]) Try.func160 rfl Try.ntmps160 rfl rfl ?_
  refine CW.seq ?_
  refine CW.reg ?_
  refine WL.asg rfl rfl ?_
  refine WL.nilS ?_
  refine CW.seq ?_
  refine CW.reg ?_
  refine WL.op rfl (OpK.buildS VI (os := []) [] rfl T.sl28 rfl rfl T.zv2 rfl (by intro z hz; cases hz) rfl (fun v1 g1 w1 hXw1 ho1 hge1 => ?_))
  have hl1 := Lo.new hB hge1
  have hB := hB.trans hXw1
  refine WL.op rfl (OpK.buildS VV (os := [.tmp 10]) [_] rfl T.sl25 rfl rfl T.zv28 rfl (by intro z hz; first | rfl | (simp only [List.mem_cons, List.not_mem_nil, or_false] at hz; subst hz; exact (by first | exact Rd.cells1 (by assumption) | exact Osl.cells1 (by assumption) | exact Osn.cells1 (by assumption) | exact Rd.cells1 (NL.rd (by assumption)) | exact Inn.cell1 (by assumption) (by omega) | assumption | rfl))) rfl (fun v2 g2 w2 hXw2 ho2 hge2 => ?_))
  have hl2 := Lo.new hB hge2
  have hd1_2 := Dj.new ho1.ltO hge2
  have hB := hB.trans hXw2
  have ho1 := ho1.up hXw2
  refine WL.asg rfl rfl ?_
  refine WL.nilS ?_
  refine CW.seq ?_
  refine CW.reg ?_
  refine WL.asg rfl rfl ?_
  refine WL.nilS ?_
  refine CW.seq ?_
  refine CW.block ?_
  have hn3 := Inn.one ho1
  have hl3 := LoI.one hl1
  have hd2_3 := DI.one hd1_2
  have hlt2 := ho2.ltO
  have hlt3 := hn3.ltO
  refine CW.loop (σk := [(0, _)]) (fun ρ wz m => ∃ (v4 : Value) (og4 : Option Nat) (vs4 : List Value) (os4 : List (Option Nat)) (r : Nat), ρ = [(1, .int .i64 (n - (r : Nat))), (5, v4), (6, .int .i64 ((wordsP L r).length : Nat))] ∧ m = n.toNat - r ∧ UpdL [(some g2)] w2 wz ∧ Osl VV wz og4 v4 (vs4) ∧ OgR w2 (some g2) og4 ∧ Inn wz os4 vs4 (wordsP L (r + 1)) ∧ BlR w2 [(some g1)] os4 ∧ DI os4 og4 ∧ ((r : Int) ≤ n)) (ρ₀ := [(1, _), (5, _), (6, _)]) (m₀ := _) ⟨rfl, rfl, rfl, rfl, trivial⟩ ⟨v2, (some g2), _, [(some g1)], 0, (by simp [wordsP]), rfl, (UpdL.refl _ _), ho2, OgR.refl _ _, innE hn3 (by exact wordsP_one _), BlR.refl _ _, hd2_3, (by first | omega | rfl | (simp; done) | assumption | (simp_all; done))⟩ ?_
  rintro _ wl1 _ ⟨v4, og4, vs4, os4, r, rfl, rfl, hU0, ho4, ha4, hn5, hy5, hd4_5, hr⟩
  have hl4 := Lo.ogr hl2 hB ha4
  have hg0_4 := ha4
  have hk0_4 : OkB [(some g2)] w2 og4 := OkB.ogr (OkB.mem (by simp)) (Nat.le_refl _) ha4
  have hBpre0 := hB
  have hB := hB.loop hU0 ⟨hl2, trivial⟩
  have hlv5 := hn5.lv
  have hz0_5 := hy5
  have hl5 := LoI.blr hl3 hBpre0 hy5
  have hps := wordsP_lenS L r; have hpl := wordsP_len (L := L) (by omega) (r + 1) (by omega)
  refine CW.seq ?_
  refine CW.seq ?_
  refine CW.reg ?_
  refine WL.mv rfl rfl ?_
  refine WL.pure rfl rfl rfl (PV.gtr rfl rfl) ?_
  refine WL.nilS ?_
  refine CW.cond rfl (fun hc1 => ?_) (fun hc1 => ?_)
  · skip
    try simp only [nq] at hc1
    refine CW.skipS ?_
    refine CW.seq ?_
    refine CW.block ?_
    refine CW.seq ?_
    refine CW.reg ?_
    refine WL.mv rfl rfl ?_
    refine WL.pure rfl rfl rfl ((PV.lenOs rfl ho4 T.sl25)) ?_
    refine WL.asg rfl rfl ?_
    refine WL.nilS ?_
    refine CW.seq ?_
    refine CW.seq ?_
    refine CW.reg ?_
    rw [hlv5]
    refine WL.mv rfl rfl ?_
    refine WL.asg rfl rfl ?_
    refine WL.nilS ?_
    refine CW.block ?_
    have hlt5 := hn5.ltO
    have hlt4 := ho4.ltO
    refine CW.loop (σk := [(0, _), (1, _), (7, _)]) (fun ρ wz m => ∃ (v6 : Value) (og6 : Option Nat) (vs6 : List Value) (os6 : List (Option Nat)) (i : Nat), ρ = [(5, v6), (8, .int .i64 (((wordsP L r).length + i : Nat) : Int))] ∧ m = (wordsL L r).length - i ∧ UpdL [og4] wl1 wz ∧ Osl VV wz og6 v6 (vs6) ∧ OgR wl1 og4 og6 ∧ Inn wz os6 vs6 (wQ L r i 0) ∧ BlR wl1 os4 os6 ∧ DI os6 og6 ∧ (i ≤ (wordsL L r).length)) (ρ₀ := [(5, _), (8, _)]) (m₀ := _) ⟨rfl, rfl, rfl, rfl, rfl, trivial⟩ ⟨v4, og4, _, os4, 0, (by rfl), rfl, (UpdL.refl _ _), ho4, OgR.refl _ _, innE hn5 (by exact wQ_zero _ _), BlR.refl _ _, hd4_5, (by first | omega | rfl | (simp; done) | assumption | (simp_all; done))⟩ ?_
    rintro _ wl2 _ ⟨v6, og6, vs6, os6, i, rfl, rfl, hU1, ho6, ha6, hn7, hy7, hd6_7, hi2⟩
    have hU0 := hU0.trans hU1 ⟨hk0_4, trivial⟩
    have hl6 := Lo.ogr hl4 hB ha6
    have hg1_6 := ha6
    have hk1_6 : OkB [og4] wl1 og6 := OkB.ogr (OkB.mem (by simp)) (Nat.le_refl _) ha6
    have hk0_6 := OkB.ogr hk0_4 (by first | assumption | exact UpdL.size (by assumption)) ha6
    have hg0_6 := OgR.trans hg0_4 (by first | assumption | exact UpdL.size (by assumption)) ha6
    have hBpre1 := hB
    have hB := hB.loop hU1 ⟨hl4, trivial⟩
    have hlv7 := hn7.lv
    have hz1_7 := hy7
    have hz0_7 := BlR.trans hz0_5 (by first | assumption | exact UpdL.size (by assumption)) hy7
    have hl7 := LoI.blr hl5 hBpre1 hy7
    have hql := wQ_len (L := L) (r := r) (i := i) (l := 0) (by omega) (by omega) (by omega); have h256 := fun h : (r : Int) < n => wordsL_256 (L := L) (n := r) (by omega) (by omega)
    refine CW.seq ?_
    refine CW.seq ?_
    refine CW.reg ?_
    refine WL.mv rfl rfl ?_
    refine WL.mv rfl rfl ?_
    refine WL.pure rfl rfl rfl (PV.lss rfl rfl) ?_
    refine WL.nilS ?_
    refine CW.cond rfl (fun hc2 => ?_) (fun hc2 => ?_)
    · skip
      try simp only [nq] at hc2
      refine CW.skipS ?_
      refine CW.seq ?_
      refine CW.block ?_
      refine CW.seq ?_
      refine CW.reg ?_
      refine WL.asg rfl rfl ?_
      refine WL.nilS ?_
      refine CW.block ?_
      have hlt7 := hn7.ltO
      have hlt6 := ho6.ltO
      refine CW.loop (σk := [(0, _), (1, _), (7, _), (8, _)]) (fun ρ wz m => ∃ (v8 : Value) (og8 : Option Nat) (vs8 : List Value) (os8 : List (Option Nat)) (l : Nat), ρ = [(5, v8), (9, .int .i64 (l : Nat))] ∧ m = L.toNat - l ∧ UpdL [og6] wl2 wz ∧ Osl VV wz og8 v8 (vs8) ∧ OgR wl2 og6 og8 ∧ Inn wz os8 vs8 (wQ L r i l) ∧ BlR wl2 os6 os8 ∧ DI os8 og8 ∧ ((l : Int) ≤ L)) (ρ₀ := [(5, _), (9, _)]) (m₀ := _) ⟨rfl, rfl, rfl, rfl, rfl, rfl, trivial⟩ ⟨v6, og6, _, os6, 0, rfl, rfl, (UpdL.refl _ _), ho6, OgR.refl _ _, innE hn7 (by rfl), BlR.refl _ _, hd6_7, (by first | omega | rfl | (simp; done) | assumption | (simp_all; done))⟩ ?_
      rintro _ wl3 _ ⟨v8, og8, vs8, os8, l, rfl, rfl, hU2, ho8, ha8, hn9, hy9, hd8_9, hl⟩
      have hU0 := hU0.trans hU2 ⟨hk0_6, trivial⟩
      have hU1 := hU1.trans hU2 ⟨hk1_6, trivial⟩
      have hl8 := Lo.ogr hl6 hB ha8
      have hg2_8 := ha8
      have hk2_8 : OkB [og6] wl2 og8 := OkB.ogr (OkB.mem (by simp)) (Nat.le_refl _) ha8
      have hk0_8 := OkB.ogr hk0_6 (by first | assumption | exact UpdL.size (by assumption)) ha8
      have hg0_8 := OgR.trans hg0_6 (by first | assumption | exact UpdL.size (by assumption)) ha8
      have hk1_8 := OkB.ogr hk1_6 (by first | assumption | exact UpdL.size (by assumption)) ha8
      have hg1_8 := OgR.trans hg1_6 (by first | assumption | exact UpdL.size (by assumption)) ha8
      have hBpre2 := hB
      have hB := hB.loop hU2 ⟨hl6, trivial⟩
      have hlv9 := hn9.lv
      have hz2_9 := hy9
      have hz0_9 := BlR.trans hz0_7 (by first | assumption | exact UpdL.size (by assumption)) hy9
      have hz1_9 := BlR.trans hz1_7 (by first | assumption | exact UpdL.size (by assumption)) hy9
      have hl9 := LoI.blr hl7 hBpre2 hy9
      have hql2 := wQ_len (L := L) (r := r) (i := i) (l := l) (by omega) (by omega) (by omega)
      refine CW.seq ?_
      refine CW.seq ?_
      refine CW.reg ?_
      refine WL.mv rfl rfl ?_
      refine WL.mv rfl rfl ?_
      refine WL.pure rfl rfl rfl (PV.lss rfl rfl) ?_
      refine WL.nilS ?_
      refine CW.cond rfl (fun hc3 => ?_) (fun hc3 => ?_)
      · skip
        try simp only [nq] at hc3
        refine CW.skipS ?_
        refine CW.seq ?_
        refine CW.block ?_
        refine CW.reg ?_
        refine WL.mv rfl rfl ?_
        refine WL.op rfl (OpK.buildS VI (os := []) [] rfl T.sl28 rfl rfl T.zv2 rfl (by intro z hz; cases hz) rfl (fun v10 g10 w3 hXw3 ho10 hge10 => ?_))
        have hl10 := Lo.new hB hge10
        have hd9_10 := DI.new hn9 hge10
        have hd8_10 := Dj.new ho8.ltO hge10
        have hk0_10 := OkN.new hU0 hge10
        have hg0_10 := OgR.new hU0.size hge10
        have hk1_10 := OkN.new hU1 hge10
        have hg1_10 := OgR.new hU1.size hge10
        have hk2_10 := OkN.new hU2 hge10
        have hg2_10 := OgR.new hU2.size hge10
        have hB := hB.trans hXw3
        have hn9 := hn9.up hXw3
        have ho8 := ho8.up hXw3
        have hU0 := hU0.ext hXw3
        have hU1 := hU1.ext hXw3
        have hU2 := hU2.ext hXw3
        refine WL.mv rfl rfl ?_
        refine WL.mv rfl rfl ?_
        have hwa := congrArg List.length (wQ_at (L := L) (r := r) (i := i) (l := l) (by omega) rfl); have hwg := wordsL_get (L := L) (n := r) (k := i) (by omega); have h2 := h256 (by omega); have hps2 : (wordsP L (r + 1)).length ≤ (wQ L r i l).length := (by unfold wQ; rw [List.length_append]; omega)
        first
          | refine WL.atO (x := .tmp 31) (y := .tmp 32) (f := VV) (.slice none 0 0) rfl rfl ho8 (by first | omega | (simp only [List.length_set]; omega) | (simp only [List.length_append, List.length_take, List.length_replicate, List.length_drop]; omega)) (fun p1 hpp1 hcp1 => ?_)
          | refine WL.atOZ (x := .tmp 31) (y := .tmp 32) (f := VV) (.slice none 0 0) rfl rfl ho8 (by first | omega | (simp only [List.length_set]; omega) | (simp only [List.length_append, List.length_take, List.length_replicate, List.length_drop]; omega)) (fun p1 hpp1 hzp1 hcp1 => ?_)
        refine WL.pure rfl rfl rfl ((by first | exact PV.indexAddr hpp1 rfl rfl T.sl25 | exact PV.indexAddr hpp1 rfl (by rw [← hzp1]; rfl) T.sl25)) ?_
        refine WL.pure rfl rfl rfl ((by first | exact PV.load0 T.na28 rfl (by first | exact Cells.up (by assumption) hB | exact Bx.cells (by assumption) | assumption) (Ext.refl _) rfl | exact PV.load1 T.na28 rfl (by first | exact Cells.up (by assumption) hB | exact Bx.cells (by assumption) | assumption) (Ext.refl _) rfl)) ?_
        refine WL.op rfl (OpK.appendS (f := VI) rfl T.sl28 T.zv2 rfl rfl ho10 rfl (Rd.src (by first | assumption | exact Rd.up (by assumption) hB | exact Inn.rd (by assumption) (by omega)) (fun _ => rfl)) (by first | (simp only [List.length_cons, List.length_nil]; omega) | (simp only [List.length_append, List.length_cons, List.length_nil]; omega)) (fun v11 og11 w4 hXw4 ho11 hap11 => ?_))
        have hl11 := Lo.app hl10 hB hap11
        have hd9_11 := DI.app hd9_10 hn9 hap11
        have hd8_11 := Dj.app hd8_10 ho8.ltO hap11
        have hk0_11 := OkN.app hU0 hk0_10 hap11
        have hg0_11 := OgR.app hg0_10 hU0.size hap11
        have hk1_11 := OkN.app hU1 hk1_10 hap11
        have hg1_11 := OgR.app hg1_10 hU1.size hap11
        have hk2_11 := OkN.app hU2 hk2_10 hap11
        have hg2_11 := OgR.app hg2_10 hU2.size hap11
        have hB := hB.updL hXw4 hl10
        have hn9 := hn9.updD hXw4 hd9_10
        have ho8 := ho8.updD hXw4 hd8_10
        have hU0 := hU0.step hXw4 hk0_10
        have hU1 := hU1.step hXw4 hk1_10
        have hU2 := hU2.step hXw4 hk2_10
        refine WL.mv rfl rfl ?_
        refine WL.op rfl (OpK.buildS VI (os := [.tmp 36]) [_] rfl T.sl28 rfl rfl T.zv2 rfl (by intro z hz; first | rfl | (simp only [List.mem_cons, List.not_mem_nil, or_false] at hz; subst hz; exact (by first | exact Rd.cells1 (by assumption) | exact Osl.cells1 (by assumption) | exact Osn.cells1 (by assumption) | exact Rd.cells1 (NL.rd (by assumption)) | exact Inn.cell1 (by assumption) (by omega) | assumption | rfl))) rfl (fun v12 g12 w5 hXw5 ho12 hge12 => ?_))
        have hl12 := Lo.new hB hge12
        have hd9_12 := DI.new hn9 hge12
        have hd8_12 := Dj.new ho8.ltO hge12
        have hd11_12 := Dj.new ho11.ltO hge12
        have hk0_12 := OkN.new hU0 hge12
        have hg0_12 := OgR.new hU0.size hge12
        have hk1_12 := OkN.new hU1 hge12
        have hg1_12 := OgR.new hU1.size hge12
        have hk2_12 := OkN.new hU2 hge12
        have hg2_12 := OgR.new hU2.size hge12
        have hB := hB.trans hXw5
        have hn9 := hn9.up hXw5
        have ho8 := ho8.up hXw5
        have ho11 := ho11.up hXw5
        have hU0 := hU0.ext hXw5
        have hU1 := hU1.ext hXw5
        have hU2 := hU2.ext hXw5
        refine WL.op rfl (OpK.appendS (f := VI) rfl T.sl28 T.zv2 rfl rfl ho11 rfl (Osl.src ho12 (fun _ => rfl)) (by first | (simp only [List.length_cons, List.length_nil]; omega) | (simp only [List.length_append, List.length_cons, List.length_nil]; omega)) (fun v13 og13 w6 hXw6 ho13 hap13 => ?_))
        have hl13 := Lo.app hl11 hB hap13
        have hd9_13 := DI.app hd9_11 hn9 hap13
        have hd8_13 := Dj.app hd8_11 ho8.ltO hap13
        have hd12_13 := Dj.app (Dj.symm hd11_12) ho12.ltO hap13
        have hk0_13 := OkN.app hU0 hk0_11 hap13
        have hg0_13 := OgR.app hg0_11 hU0.size hap13
        have hk1_13 := OkN.app hU1 hk1_11 hap13
        have hg1_13 := OgR.app hg1_11 hU1.size hap13
        have hk2_13 := OkN.app hU2 hk2_11 hap13
        have hg2_13 := OgR.app hg2_11 hU2.size hap13
        have hB := hB.updL hXw6 hl11
        have hn9 := hn9.updD hXw6 hd9_11
        have ho8 := ho8.updD hXw6 hd8_11
        have ho12 := ho12.updD hXw6 (Dj.symm hd11_12)
        have hU0 := hU0.step hXw6 hk0_11
        have hU1 := hU1.step hXw6 hk1_11
        have hU2 := hU2.step hXw6 hk2_11
        refine WL.op rfl (OpK.buildS VV (os := [.tmp 38]) [_] rfl T.sl25 rfl rfl T.zv28 rfl (by intro z hz; first | rfl | (simp only [List.mem_cons, List.not_mem_nil, or_false] at hz; subst hz; exact (by first | exact Rd.cells1 (by assumption) | exact Osl.cells1 (by assumption) | exact Osn.cells1 (by assumption) | exact Rd.cells1 (NL.rd (by assumption)) | exact Inn.cell1 (by assumption) (by omega) | assumption | rfl))) rfl (fun v14 g14 w7 hXw7 ho14 hge14 => ?_))
        have hl14 := Lo.new hB hge14
        have hd9_14 := DI.new hn9 hge14
        have hd8_14 := Dj.new ho8.ltO hge14
        have hd12_14 := Dj.new ho12.ltO hge14
        have hd13_14 := Dj.new ho13.ltO hge14
        have hk0_14 := OkN.new hU0 hge14
        have hg0_14 := OgR.new hU0.size hge14
        have hk1_14 := OkN.new hU1 hge14
        have hg1_14 := OgR.new hU1.size hge14
        have hk2_14 := OkN.new hU2 hge14
        have hg2_14 := OgR.new hU2.size hge14
        have hB := hB.trans hXw7
        have hn9 := hn9.up hXw7
        have ho8 := ho8.up hXw7
        have ho12 := ho12.up hXw7
        have ho13 := ho13.up hXw7
        have hU0 := hU0.ext hXw7
        have hU1 := hU1.ext hXw7
        have hU2 := hU2.ext hXw7
        refine WL.op rfl (OpK.appendS (f := VV) rfl T.sl25 T.zv28 rfl rfl ho8 rfl (Osl.srcM ho14 (one_mem (Osl.oneCell ho13))) (by first | (simp only [List.length_cons, List.length_nil]; omega) | (simp only [List.length_append, List.length_cons, List.length_nil]; omega)) (fun v15 og15 w8 hXw8 ho15 hap15 => ?_))
        have hn16 := Inn.put hn9 ho13 hd9_13
        have hl16 := LoI.put hl9 hl13
        have hz0_16 := BlR.put hz0_9 hg0_13
        have hz1_16 := BlR.put hz1_9 hg1_13
        have hz2_16 := BlR.put hz2_9 hg2_13
        have hd8_16 := DI.put hd8_9 (Dj.symm hd8_13)
        have hd12_16 := DI.put hd9_12 (Dj.symm hd12_13)
        have hd14_16 := DI.put hd9_14 hd13_14
        have hnp16 := hn16
        have hl15 := Lo.app hl8 hB hap15
        have hd12_15 := Dj.app (Dj.symm hd8_12) ho12.ltO hap15
        have hd14_15 := Dj.app (Dj.symm hd8_14) ho14.ltO hap15
        have hd15_16 := DI.app hd8_16 hn16 hap15
        have hk0_15 := OkN.app hU0 hk0_8 hap15
        have hg0_15 := OgR.app hg0_8 hU0.size hap15
        have hk1_15 := OkN.app hU1 hk1_8 hap15
        have hg1_15 := OgR.app hg1_8 hU1.size hap15
        have hk2_15 := OkN.app hU2 hk2_8 hap15
        have hg2_15 := OgR.app hg2_8 hU2.size hap15
        have hB := hB.updL hXw8 hl8
        have ho12 := ho12.updD hXw8 (Dj.symm hd8_12)
        have ho14 := ho14.updD hXw8 (Dj.symm hd8_14)
        have hn16 := hn16.updD hXw8 hd8_16
        have hU0 := hU0.step hXw8 hk0_8
        have hU1 := hU1.step hXw8 hk1_8
        have hU2 := hU2.step hXw8 hk2_8
        refine WL.asg rfl rfl ?_
        refine WL.nil ?_
        refine NQ.block ?_
        refine NQ.then ?_
        refine CW.reg ?_
        refine WL.mv rfl rfl ?_
        refine WL.pure rfl rfl rfl (PV.add rfl rfl (by constructor <;> omega)) ?_
        refine WL.asg rfl rfl ?_
        refine WL.nil ?_
        refine NQ.next (ρ := [(5, _), (9, _)]) ⟨rfl, rfl, rfl, rfl, rfl, rfl, trivial⟩ ?_
        exact ⟨_, ⟨v15, og15, _, (os8 ++ [og13]), l + 1, rfl, rfl, hU2, ho15, (by first | exact hg2_15 | exact OgR.weak hg2_15), innE hn16 (by exact wQ_put (by omega) rfl), (by first | exact hz2_16 | exact BlR.weak hz2_16), hd15_16, (by first | omega | assumption | (simp_all; done) | (simp_all; omega))⟩, by omega⟩
      try simp only [nq] at hc3
      refine CW.exit ?_
      refine XQ.then ?_
      refine XQ.then ?_
      refine XQ.here ?_
      refine NQ.block ?_
      refine NQ.then ?_
      refine CW.reg ?_
      refine WL.mv rfl rfl ?_
      refine WL.pure rfl rfl rfl (PV.add rfl rfl (by constructor <;> omega)) ?_
      refine WL.asg rfl rfl ?_
      refine WL.nil ?_
      refine NQ.next (ρ := [(5, _), (8, _)]) ⟨rfl, rfl, rfl, rfl, rfl, trivial⟩ ?_
      exact ⟨_, ⟨v8, og8, _, os8, i + 1, (by congr 3), rfl, hU1, ho8, (by first | exact hg1_8 | exact OgR.weak hg1_8), innE hn9 (by rw [show l = L.toNat from (by omega)]; exact wQ_next (by omega)), (by first | exact hz1_9 | exact BlR.weak hz1_9), hd8_9, (by first | omega | assumption | (simp_all; done) | (simp_all; omega))⟩, by omega⟩
    try simp only [nq] at hc2
    refine CW.exit ?_
    refine XQ.then ?_
    refine XQ.then ?_
    refine XQ.here ?_
    refine NQ.then ?_
    refine CW.reg ?_
    refine WL.mv rfl rfl ?_
    refine WL.asg rfl rfl ?_
    refine WL.nil ?_
    refine NQ.block ?_
    refine NQ.then ?_
    refine CW.reg ?_
    refine WL.mv rfl rfl ?_
    refine WL.pure rfl rfl rfl (PV.sub rfl rfl (by constructor <;> omega)) ?_
    refine WL.asg rfl rfl ?_
    refine WL.nil ?_
    refine NQ.next (ρ := [(1, _), (5, _), (6, _)]) ⟨rfl, rfl, rfl, rfl, trivial⟩ ?_
    exact ⟨_, ⟨v6, og6, _, os6, r + 1, (by rw [show n - ((r + 1 : Nat) : Int) = n - (r : Int) - 1 from (by omega)]), rfl, hU0, ho6, (by first | exact hg0_6 | exact OgR.weak hg0_6), innE hn7 (by rw [show i = (wordsL L r).length from (by omega)]; exact wQ_done (Nat.le_refl _)), (by first | exact hz0_7 | exact BlR.weak hz0_7), hd6_7, (by first | omega | assumption | (simp_all; done) | (simp_all; omega))⟩, by omega⟩
  try simp only [nq] at hc1
  refine CW.exit ?_
  refine XQ.then ?_
  refine XQ.then ?_
  refine XQ.here ?_
  refine NQ.then ?_
  refine CW.seq ?_
  refine CW.reg ?_
  refine WL.mv rfl rfl ?_
  refine WL.asg rfl rfl ?_
  refine WL.nilS ?_
  refine CW.ret ?_
  refine RQ.r1 rfl ?_
  refine ⟨hB, v4, og4, _ , os4, ?_, ho4, hl4, innE hn5 ?_, hl5, hd4_5⟩
  · skip
    rfl
  · skip
    rw [show r = n.toNat from (by omega)]
theorem c_spec_l05Side {w : World} {va : Value} {xs : List Int} {a l : Int} (ha : Rd EI w va xs) (hab : 0 ≤ a ∧ a ≤ 100) : Calls Try.prog 209 #[va, .int .i64 a, .int .i64 l] w (Ret1 (RQt (.int .i64 (sdI xs a l)) w)) := by
  have hB : Ext w w := Ext.refl w
  have hla := ha.leI
  refine callsOf (vs := [_, _, _]) Try.func209 rfl Try.ntmps209 rfl rfl ?_
  refine CW.seq ?_
  refine CW.reg ?_
  refine WL.asg rfl rfl ?_
  refine WL.nilS ?_
  refine CW.seq ?_
  refine CW.seq ?_
  refine CW.reg ?_
  refine WL.mv rfl rfl ?_
  refine WL.pure rfl rfl rfl (PV.lss rfl rfl) ?_
  refine WL.nilS ?_
  refine CW.cond rfl (fun hc1 => ?_) (fun hc1 => ?_)
  · skip
    try simp only [nq] at hc1
    refine CW.seq ?_
    refine CW.reg ?_
    refine WL.mv rfl rfl ?_
    refine WL.asg rfl rfl ?_
    refine WL.nilS ?_
    refine CW.ret ?_
    refine RQ.then ?_
    refine RQ.r1 rfl ?_
    refine ⟨?_, hB⟩
    first | exact iE (by unfold sdI; rw [if_pos (pas_neg (by assumption)).1, (pas_neg (xs := xs) (by assumption)).2]) | exact iE (by unfold sdI; rw [(pas_pos (xs := xs) (a := a) (l := l) (by omega)).2]; first | (rw [decide_eq_false (by omega : ¬ a < xs.length)]; rfl) | (rw [decide_eq_true (by omega : a < xs.length), decide_eq_false (by assumption)]; rfl) | (rw [decide_eq_true (by omega : a < xs.length), decide_eq_true (by assumption), (pas_pos (xs := xs) (a := a) (l := l) (by omega)).1]; rfl))
  try simp only [nq] at hc1
  refine CW.skipS ?_
  refine CW.seq ?_
  refine CW.seq ?_
  refine CW.reg ?_
  refine WL.mv rfl rfl ?_
  refine WL.mv rfl rfl ?_
  refine WL.pure rfl rfl rfl ((by first | exact PV.len rfl (by assumption) T.sl28 | exact PV.lenOs rfl (by assumption) T.sl28 | exact PV.len rfl (NL.rd (by assumption)) T.sl28 | exact PV.len rfl (Inn.rd (by assumption) (by omega)) T.sl28)) ?_
  refine WL.pure rfl rfl rfl (PV.lss rfl rfl) ?_
  refine WL.mv rfl rfl ?_
  refine WL.split (t := 14) rfl (fun hc2 => ?_) (fun hc2 => ?_)
  rotate_left
  · skip
    try simp only [nq] at hc2
    refine WL.skip rfl rfl rfl rfl rfl ?_
    refine WL.skip rfl rfl rfl rfl rfl ?_
    refine WL.skip rfl rfl rfl rfl rfl ?_
    refine WL.skip rfl rfl rfl rfl rfl ?_
    refine WL.skip rfl rfl rfl rfl rfl ?_
    refine WL.skip rfl rfl rfl rfl rfl ?_
    refine WL.pure rfl rfl rfl (PV.pickF rfl rfl) ?_
    refine WL.nilS ?_
    refine CW.condF rfl ?_
    refine CW.skipS ?_
    refine CW.seq ?_
    refine CW.reg ?_
    refine WL.asg rfl rfl ?_
    refine WL.nilS ?_
    refine CW.ret ?_
    refine RQ.r1 rfl ?_
    refine ⟨?_, hB⟩
    first | exact iE (by unfold sdI; rw [if_pos (pas_neg (by assumption)).1, (pas_neg (xs := xs) (by assumption)).2]) | exact iE (by unfold sdI; rw [(pas_pos (xs := xs) (a := a) (l := l) (by omega)).2]; first | (rw [decide_eq_false (by omega : ¬ a < xs.length)]; rfl) | (rw [decide_eq_true (by omega : a < xs.length), decide_eq_false (by assumption)]; rfl) | (rw [decide_eq_true (by omega : a < xs.length), decide_eq_true (by assumption), (pas_pos (xs := xs) (a := a) (l := l) (by omega)).1]; rfl))
  try simp only [nq] at hc2
  refine WL.pureG rfl rfl rfl rfl rfl (PV.move rfl) ?_
  refine WL.pureG rfl rfl rfl rfl rfl (PV.move rfl) ?_
  first
    | refine WL.at (x := .tmp 15) (y := .tmp 16) (E := EI) (0) rfl rfl (by first | assumption | exact Inn.rd (by assumption) (by omega)) (by first | omega | (simp only [List.length_set]; omega) | (simp only [List.length_append, List.length_take, List.length_replicate, List.length_drop]; omega)) (fun p1 csp1 hpp1 hcp1 hq => ?_)
    | refine WL.atZ (x := .tmp 15) (y := .tmp 16) (E := EI) (0) rfl rfl (by first | assumption | exact Inn.rd (by assumption) (by omega)) (by first | omega | (simp only [List.length_set]; omega) | (simp only [List.length_append, List.length_take, List.length_replicate, List.length_drop]; omega)) (fun p1 csp1 hpp1 hzp1 hcp1 hq => ?_)
  cases hq
  refine WL.pureG rfl rfl rfl rfl rfl ((by first | exact PV.indexAddr hpp1 rfl rfl T.sl28 | exact PV.indexAddr hpp1 rfl (by rw [← hzp1]; rfl) T.sl28)) ?_
  refine WL.pureG rfl rfl rfl rfl rfl ((by first | exact PV.load0 T.na2 rfl (by first | exact Cells.up (by assumption) hB | exact Bx.cells (by assumption) | assumption) (Ext.refl _) rfl | exact PV.load1 T.na2 rfl (by first | exact Cells.up (by assumption) hB | exact Bx.cells (by assumption) | assumption) (Ext.refl _) rfl)) ?_
  refine WL.pureG rfl rfl rfl rfl rfl (PV.move rfl) ?_
  refine WL.pureG rfl rfl rfl rfl rfl (PV.eql rfl rfl) ?_
  refine WL.pure rfl rfl rfl (PV.pickT rfl rfl) ?_
  refine WL.nilS ?_
  refine CW.cond rfl (fun hc3 => ?_) (fun hc3 => ?_)
  · skip
    try simp only [nq] at hc3
    refine CW.seq ?_
    refine CW.reg ?_
    refine WL.mv rfl rfl ?_
    refine WL.pure rfl rfl rfl (PV.add rfl rfl (by constructor <;> omega)) ?_
    refine WL.asg rfl rfl ?_
    refine WL.nilS ?_
    refine CW.ret ?_
    refine RQ.then ?_
    refine RQ.r1 rfl ?_
    refine ⟨?_, hB⟩
    first | exact iE (by unfold sdI; rw [if_pos (pas_neg (by assumption)).1, (pas_neg (xs := xs) (by assumption)).2]) | exact iE (by unfold sdI; rw [(pas_pos (xs := xs) (a := a) (l := l) (by omega)).2]; first | (rw [decide_eq_false (by omega : ¬ a < xs.length)]; rfl) | (rw [decide_eq_true (by omega : a < xs.length), decide_eq_false (by assumption)]; rfl) | (rw [decide_eq_true (by omega : a < xs.length), decide_eq_true (by assumption), (pas_pos (xs := xs) (a := a) (l := l) (by omega)).1]; rfl))
  try simp only [nq] at hc3
  refine CW.skipS ?_
  refine CW.seq ?_
  refine CW.reg ?_
  refine WL.asg rfl rfl ?_
  refine WL.nilS ?_
  refine CW.ret ?_
  refine RQ.r1 rfl ?_
  refine ⟨?_, hB⟩
  first | exact iE (by unfold sdI; rw [if_pos (pas_neg (by assumption)).1, (pas_neg (xs := xs) (by assumption)).2]) | exact iE (by unfold sdI; rw [(pas_pos (xs := xs) (a := a) (l := l) (by omega)).2]; first | (rw [decide_eq_false (by omega : ¬ a < xs.length)]; rfl) | (rw [decide_eq_true (by omega : a < xs.length), decide_eq_false (by assumption)]; rfl) | (rw [decide_eq_true (by omega : a < xs.length), decide_eq_true (by assumption), (pas_pos (xs := xs) (a := a) (l := l) (by omega)).1]; rfl))
set_option maxHeartbeats 4000000 in
theorem c_spec_l05Reads {w : World} {pa : Addr} {a0 : Int} {a1 : Int} {va2 : Value} {xa2 : List R4} {va3 : Value} {xa3 : List Bool} {vi vo : Value} {ins outs : List Int}  (hba : Cells w pa [.int .i64 a0, .int .i64 a1, va2, va3]) (ha2 : Rd ER w va2 xa2) (ha3 : Rd EB w va3 xa3) (hi : Rd EI w vi ins) (ho : Rd EI w vo outs) (hv : sidedV a0 a1 xa2 xa3) (hi12 : ins.length ≤ 12) (ho12 : outs.length ≤ 12) : Calls Try.prog 161 #[.pointer (some pa), vi, vo] w (Ret1 (RQt (.bool (rdB xa2 ins outs xa3)) w)) := by
  have hB : Ext w w := Ext.refl w
  have hla2 := ha2.leI; have hla3 := ha3.leI; have hli := hi.leI; have hlo := ho.leI; have hv8 := hv.1; have hvn := hv.2.2.1; have hve := hv.2.2.2.1; have hva := hv.2.2.2.2
  refine callsOf (vs := [_, _, _]) Try.func161 rfl Try.ntmps161 rfl rfl ?_
  refine CW.seq ?_
  refine CW.reg ?_
  refine WL.asg rfl rfl ?_
  refine WL.nilS ?_
  refine CW.seq ?_
  refine CW.reg ?_
  refine WL.mv rfl rfl ?_
  refine WL.pure rfl rfl rfl ((by first | exact PV.len rfl (by assumption) T.sl28 | exact PV.lenOs rfl (by assumption) T.sl28 | exact PV.len rfl (NL.rd (by assumption)) T.sl28 | exact PV.len rfl (Inn.rd (by assumption) (by omega)) T.sl28)) ?_
  refine WL.pure rfl rfl rfl (PV.add rfl rfl (by constructor <;> omega)) ?_
  refine WL.asg rfl rfl ?_
  refine WL.nilS ?_
  refine CW.seq ?_
  refine CW.reg ?_
  refine WL.mv rfl rfl ?_
  refine WL.pure rfl rfl rfl ((by first | exact PV.len rfl (by assumption) T.sl28 | exact PV.lenOs rfl (by assumption) T.sl28 | exact PV.len rfl (NL.rd (by assumption)) T.sl28 | exact PV.len rfl (Inn.rd (by assumption) (by omega)) T.sl28)) ?_
  refine WL.pure rfl rfl rfl (PV.add rfl rfl (by constructor <;> omega)) ?_
  refine WL.mv rfl rfl ?_
  refine WL.pure rfl rfl rfl (PV.mul rfl rfl (by have h9 := mul_rng (x := (ins.length : Int) + 1) (y := (outs.length : Int) + 1) (m := 13) (n := 13) (by omega) (by omega); exact ⟨by omega, by omega⟩)) ?_
  refine WL.asg rfl rfl ?_
  refine WL.nilS ?_
  refine CW.seq ?_
  refine CW.reg ?_
  obtain ⟨W, hW⟩ : ∃ W, W = (outs.length : Int) + 1 := ⟨_, rfl⟩; obtain ⟨C, hC⟩ : ∃ C, C = ((ins.length : Int) + 1) * ((outs.length : Int) + 1) := ⟨_, rfl⟩; rw [← hC, ← hW]; rw [← hW] at hC; have hC9 := mul_rng (x := (ins.length : Int) + 1) (y := W) (m := 13) (n := 13) (by omega) (by omega); rw [← hC] at hC9; have hSC := mul_rng (x := a0) (y := C) (m := 8) (n := 169) (by omega) (by omega); have hz9 := (cod_rng hW hC (show InR ins outs a0 z3 from ⟨by simp only; omega, by simp only; omega, by simp only; omega⟩)); have hC1 : 1 ≤ C := (by have := hz9.1; simp only at this; omega); have hSC1 : 1 ≤ a0 * C := (by have := hz9.2; omega)
  refine WL.mv rfl rfl ?_
  refine WL.pure rfl rfl rfl (PV.nilCheck rfl) ?_
  refine WL.pure rfl rfl rfl ((by first | exact PV.fieldAddr T.fl88_0 rfl (by first | assumption | exact Bx.cells (by assumption)) | exact PV.fieldAddrP T.fl88_0 rfl rfl)) ?_
  refine WL.pure rfl rfl rfl ((by first | exact PV.load0 T.na2 rfl (by first | exact Cells.up (by assumption) hB | exact Bx.cells (by assumption) | assumption) (Ext.refl _) rfl | exact PV.load1 T.na2 rfl (by first | exact Cells.up (by assumption) hB | exact Bx.cells (by assumption) | assumption) (Ext.refl _) rfl)) ?_
  refine WL.mv rfl rfl ?_
  refine WL.pure rfl rfl rfl (PV.mul rfl rfl (by constructor <;> omega)) ?_
  first
    | refine WL.op rfl (OpK.makeS VB (false) rfl T.sl62 T.zv4 rfl rfl rfl (by constructor <;> omega) (fun v1 g1 w1 hXw1 ho1 hge1 => ?_))
    | refine WL.op rfl (OpK.makeSZ VB (false) rfl T.sl62 T.zv4 rfl rfl rfl (by omega) (by constructor <;> omega) (fun v1 g1 w1 hXw1 ho1 hge1 => ?_))
  have hl1 := Lo.new hB hge1
  have hB := hB.trans hXw1
  refine WL.asg rfl rfl ?_
  refine WL.nilS ?_
  refine CW.seq ?_
  refine CW.reg ?_
  refine WL.op rfl (OpK.buildS VI (os := [.const (.int .i64 0)]) [_] rfl T.sl241 rfl rfl T.zv3 rfl (by intro z hz; first | rfl | (simp only [List.mem_cons, List.not_mem_nil, or_false] at hz; subst hz; exact (by first | exact Rd.cells1 (by assumption) | exact Osl.cells1 (by assumption) | exact Osn.cells1 (by assumption) | exact Rd.cells1 (NL.rd (by assumption)) | exact Inn.cell1 (by assumption) (by omega) | assumption | rfl))) rfl (fun v2 g2 w2 hXw2 ho2 hge2 => ?_))
  have hl2 := Lo.new hB hge2
  have hd1_2 := Dj.new ho1.ltO hge2
  have hB := hB.trans hXw2
  have ho1 := ho1.up hXw2
  refine WL.asg rfl rfl ?_
  refine WL.nilS ?_
  refine CW.seq ?_
  refine CW.reg ?_
  refine WL.mv rfl rfl ?_
  first
    | refine WL.atO (x := .tmp 36) (y := .const (.int .i64 0)) (f := VB) (false) rfl rfl ho1 (by first | omega | (simp only [List.length_set]; omega) | (simp only [List.length_append, List.length_take, List.length_replicate, List.length_drop]; omega)) (fun p1 hpp1 hcp1 => ?_)
    | refine WL.atOZ (x := .tmp 36) (y := .const (.int .i64 0)) (f := VB) (false) rfl rfl ho1 (by first | omega | (simp only [List.length_set]; omega) | (simp only [List.length_append, List.length_take, List.length_replicate, List.length_drop]; omega)) (fun p1 hpp1 hzp1 hcp1 => ?_)
  refine WL.pure rfl rfl rfl ((by first | exact PV.indexAddr hpp1 rfl rfl T.sl62 | exact PV.indexAddr hpp1 rfl (by rw [← hzp1]; rfl) T.sl62)) ?_
  refine WL.op rfl (OpK.storeS VB T.sz4 rfl rfl rfl hpp1 ho1 (fun w3 hXw3 ho1 => ?_))
  have hB := hB.updL hXw3 hl1
  have ho2 := ho2.updD hXw3 (Dj.symm hd1_2)
  refine WL.nilS ?_
  refine CW.seq ?_
  refine CW.seq ?_
  refine CW.reg ?_
  refine WL.asg rfl rfl ?_
  refine WL.nilS ?_
  refine CW.block ?_
  have hlt1 := ho1.ltO
  have hlt2 := ho2.ltO
  refine CW.loop (σk := [(0, _), (1, _), (2, _), (7, _), (8, _), (9, _)]) (fun ρ wz m => ∃ (v3 : Value) (og3 : Option Nat) (at_ : Nat) (ps : List P3) (sn : List Bool), ρ = [(10, v3), (11, .int .i64 (at_ : Nat))] ∧ m = 1352 - at_ ∧ UpdL [(some g2), (some g1)] w3 wz ∧ Osl VI wz og3 v3 (ps.map (codP W C)) ∧ OgR w3 (some g2) og3 ∧ Osl VB wz (some g1) v1 (sn) ∧ (BI xa2 ins outs xa3 at_ ps) ∧ (SN ins outs a0 W C sn ps)) (ρ₀ := [(10, _), (11, _)]) (m₀ := _) ⟨rfl, rfl, rfl, rfl, rfl, rfl, rfl, rfl, trivial⟩ ⟨v2, (some g2), 0, [z3], _, rfl, rfl, (UpdL.refl _ _), osE ho2 (by simp [codP]), OgR.refl _ _, osE ho1 (by rfl), (by exact BI.start _ _ _ _), (by exact SN.start hW hC (by omega) (by omega))⟩ ?_
  rintro _ wl1 _ ⟨v3, og3, at_, ps, sn, rfl, rfl, hU0, ho3, ha3, ho1, hBI, hSN⟩
  have hl3 := Lo.ogr hl2 hB ha3
  have hg0_3 := ha3
  have hk0_3 : OkB [(some g2), (some g1)] w3 og3 := OkB.ogr (OkB.mem (by simp)) (Nat.le_refl _) ha3
  have hd1_3 := Dj.ogr hd1_2 hlt1 ha3
  have hk0_1 : OkB [(some g2), (some g1)] w3 (some g1) := OkB.mem (by simp)
  have hB := hB.loop hU0 ⟨hl2, hl1, trivial⟩
  have hsm := hBI.small hv hi12 ho12; have hsl := hSN.1; have hml : (ps.map (codP W C)).length = ps.length := List.length_map _
  refine CW.seq ?_
  refine CW.seq ?_
  refine CW.reg ?_
  refine WL.mv rfl rfl ?_
  refine WL.mv rfl rfl ?_
  refine WL.pure rfl rfl rfl ((PV.lenOs rfl ho3 T.sl241)) ?_
  refine WL.pure rfl rfl rfl (PV.lss rfl rfl) ?_
  refine WL.nilS ?_
  refine CW.cond rfl (fun hc1 => ?_) (fun hc1 => ?_)
  · skip
    try simp only [nq] at hc1
    refine CW.skipS ?_
    refine CW.seq ?_
    refine CW.block ?_
    refine CW.seq ?_
    refine CW.reg ?_
    obtain ⟨p, hp⟩ : ∃ p, ps.getD at_ z3 = p := ⟨_, rfl⟩; have hpr : InR ins outs a0 p := (by rw [← hp]; exact hBI.inR hv (by omega)); have hpr1 : 0 ≤ p.1 ∧ p.1 ≤ ins.length := hpr.1; have hpr2 : 0 ≤ p.2.1 ∧ p.2.1 ≤ outs.length := hpr.2.1; have hpr3 : 0 ≤ p.2.2 ∧ p.2.2 ≤ a0 - 1 := hpr.2.2; have hcod : (ps.map (codP W C)).getD at_ 0 = codP W C p := (by rw [mapP_getD (by omega), hp]); have hcr := (cod_rng hW hC hpr).2; have hcr1 := (cod_rng hW hC hpr).1; have hdc := cod_dec hW hC hpr; have hdc1 : (codP W C p).tdiv C = p.2.2 := (by rw [Int.tdiv_eq_ediv_of_nonneg hcr.1]; exact hdc.1); have hdc3 : (p.1 * W + p.2.1).tdiv W = p.1 := (by rw [Int.tdiv_eq_ediv_of_nonneg hcr1.1]; exact hdc.2.2.1)
    refine WL.mv rfl rfl ?_
    refine WL.mv rfl rfl ?_
    first
      | refine WL.atO (x := .tmp 44) (y := .tmp 45) (f := VI) (0) rfl rfl ho3 (by first | omega | (simp only [List.length_set]; omega) | (simp only [List.length_append, List.length_take, List.length_replicate, List.length_drop]; omega)) (fun p2 hpp2 hcp2 => ?_)
      | refine WL.atOZ (x := .tmp 44) (y := .tmp 45) (f := VI) (0) rfl rfl ho3 (by first | omega | (simp only [List.length_set]; omega) | (simp only [List.length_append, List.length_take, List.length_replicate, List.length_drop]; omega)) (fun p2 hpp2 hzp2 hcp2 => ?_)
    refine WL.pure rfl rfl rfl ((by first | exact PV.indexAddr hpp2 rfl rfl T.sl241 | exact PV.indexAddr hpp2 rfl (by rw [← hzp2]; rfl) T.sl241)) ?_
    refine WL.pure rfl rfl rfl ((by first | exact PV.load0 T.na3 rfl (by first | exact Cells.up (by assumption) hB | exact Bx.cells (by assumption) | assumption) (Ext.refl _) rfl | exact PV.load1 T.na3 rfl (by first | exact Cells.up (by assumption) hB | exact Bx.cells (by assumption) | assumption) (Ext.refl _) rfl)) ?_
    rw [hcod]
    refine WL.mv rfl rfl ?_
    refine WL.pure rfl rfl rfl (PV.quoN rfl rfl (by omega)) ?_
    refine WL.asg rfl rfl ?_
    refine WL.nilS ?_
    refine CW.seq ?_
    refine CW.reg ?_
    rw [hdc1]
    refine WL.mv rfl rfl ?_
    refine WL.mv rfl rfl ?_
    first
      | refine WL.atO (x := .tmp 50) (y := .tmp 51) (f := VI) (0) rfl rfl ho3 (by first | omega | (simp only [List.length_set]; omega) | (simp only [List.length_append, List.length_take, List.length_replicate, List.length_drop]; omega)) (fun p3 hpp3 hcp3 => ?_)
      | refine WL.atOZ (x := .tmp 50) (y := .tmp 51) (f := VI) (0) rfl rfl ho3 (by first | omega | (simp only [List.length_set]; omega) | (simp only [List.length_append, List.length_take, List.length_replicate, List.length_drop]; omega)) (fun p3 hpp3 hzp3 hcp3 => ?_)
    refine WL.pure rfl rfl rfl ((by first | exact PV.indexAddr hpp3 rfl rfl T.sl241 | exact PV.indexAddr hpp3 rfl (by rw [← hzp3]; rfl) T.sl241)) ?_
    refine WL.pure rfl rfl rfl ((by first | exact PV.load0 T.na3 rfl (by first | exact Cells.up (by assumption) hB | exact Bx.cells (by assumption) | assumption) (Ext.refl _) rfl | exact PV.load1 T.na3 rfl (by first | exact Cells.up (by assumption) hB | exact Bx.cells (by assumption) | assumption) (Ext.refl _) rfl)) ?_
    rw [hcod]
    refine WL.mv rfl rfl ?_
    refine WL.pure rfl rfl rfl (PV.rem rfl rfl (by omega) rfl) ?_
    rw [hdc.2.1]
    refine WL.mv rfl rfl ?_
    refine WL.pure rfl rfl rfl (PV.quoN rfl rfl (by omega)) ?_
    refine WL.asg rfl rfl ?_
    refine WL.nilS ?_
    refine CW.seq ?_
    refine CW.reg ?_
    rw [hdc3]
    refine WL.mv rfl rfl ?_
    refine WL.mv rfl rfl ?_
    first
      | refine WL.atO (x := .tmp 58) (y := .tmp 59) (f := VI) (0) rfl rfl ho3 (by first | omega | (simp only [List.length_set]; omega) | (simp only [List.length_append, List.length_take, List.length_replicate, List.length_drop]; omega)) (fun p4 hpp4 hcp4 => ?_)
      | refine WL.atOZ (x := .tmp 58) (y := .tmp 59) (f := VI) (0) rfl rfl ho3 (by first | omega | (simp only [List.length_set]; omega) | (simp only [List.length_append, List.length_take, List.length_replicate, List.length_drop]; omega)) (fun p4 hpp4 hzp4 hcp4 => ?_)
    refine WL.pure rfl rfl rfl ((by first | exact PV.indexAddr hpp4 rfl rfl T.sl241 | exact PV.indexAddr hpp4 rfl (by rw [← hzp4]; rfl) T.sl241)) ?_
    refine WL.pure rfl rfl rfl ((by first | exact PV.load0 T.na3 rfl (by first | exact Cells.up (by assumption) hB | exact Bx.cells (by assumption) | assumption) (Ext.refl _) rfl | exact PV.load1 T.na3 rfl (by first | exact Cells.up (by assumption) hB | exact Bx.cells (by assumption) | assumption) (Ext.refl _) rfl)) ?_
    rw [hcod]
    refine WL.mv rfl rfl ?_
    refine WL.pure rfl rfl rfl (PV.rem rfl rfl (by omega) rfl) ?_
    refine WL.asg rfl rfl ?_
    refine WL.nilS ?_
    refine CW.seq ?_
    refine CW.seq ?_
    refine CW.reg ?_
    rw [hdc.2.2.2]
    refine WL.mv rfl rfl ?_
    refine WL.mv rfl rfl ?_
    refine WL.pure rfl rfl rfl ((by first | exact PV.len rfl (by assumption) T.sl28 | exact PV.lenOs rfl (by assumption) T.sl28 | exact PV.len rfl (NL.rd (by assumption)) T.sl28 | exact PV.len rfl (Inn.rd (by assumption) (by omega)) T.sl28)) ?_
    refine WL.pure rfl rfl rfl (PV.eql rfl rfl) ?_
    refine WL.mv rfl rfl ?_
    refine WL.split (t := 68) rfl (fun hc2 => ?_) (fun hc2 => ?_)
    rotate_left
    · skip
      try simp only [nq] at hc2
      refine WL.skip rfl rfl rfl rfl rfl ?_
      refine WL.skip rfl rfl rfl rfl rfl ?_
      refine WL.skip rfl rfl rfl rfl rfl ?_
      refine WL.skip rfl rfl rfl rfl rfl ?_
      refine WL.pure rfl rfl rfl (PV.pickF rfl rfl) ?_
      refine WL.mv rfl rfl ?_
      refine WL.skip rfl rfl rfl rfl rfl ?_
      refine WL.skip rfl rfl rfl rfl rfl ?_
      refine WL.skip rfl rfl rfl rfl rfl ?_
      refine WL.skip rfl rfl rfl rfl rfl ?_
      refine WL.skip rfl rfl rfl rfl rfl ?_
      refine WL.skip rfl rfl rfl rfl rfl ?_
      refine WL.skip rfl rfl rfl rfl rfl ?_
      refine WL.pure rfl rfl rfl (PV.pickF rfl rfl) ?_
      refine WL.nilS ?_
      refine CW.condF rfl ?_
      refine CW.skipS ?_
      refine CW.seq ?_
      refine CW.reg ?_
      refine WL.mv rfl rfl ?_
      refine WL.pure rfl rfl rfl (PV.nilCheck rfl) ?_
      refine WL.pure rfl rfl rfl ((by first | exact PV.fieldAddr T.fl88_2 rfl (by first | assumption | exact Bx.cells (by assumption)) | exact PV.fieldAddrP T.fl88_2 rfl rfl)) ?_
      refine WL.pure rfl rfl rfl ((by first | exact PV.load0 T.na86 rfl (by first | exact Cells.up (by assumption) hB | exact Bx.cells (by assumption) | assumption) (Ext.refl _) rfl | exact PV.load1 T.na86 rfl (by first | exact Cells.up (by assumption) hB | exact Bx.cells (by assumption) | assumption) (Ext.refl _) rfl)) ?_
      refine WL.pure rfl rfl rfl ((by first | exact PV.len rfl (by assumption) T.sl86 | exact PV.lenOs rfl (by assumption) T.sl86 | exact PV.len rfl (NL.rd (by assumption)) T.sl86 | exact PV.len rfl (Inn.rd (by assumption) (by omega)) T.sl86)) ?_
      refine WL.mv rfl rfl ?_
      refine WL.nilS ?_
      refine CW.block ?_
      have hlt1 := ho1.ltO
      have hlt3 := ho3.ltO
      refine CW.loop (σk := [(0, _), (1, _), (2, _), (7, _), (8, _), (9, _), (11, _), (12, _), (13, _), (14, _), (87, _)]) (fun ρ wz m => ∃ (v5 : Value) (og5 : Option Nat) (k : Nat) (ps : List P3) (sn : List Bool), ρ = [(10, v5), (88, .int .i64 (k : Nat))] ∧ m = xa2.length - k ∧ UpdL [og3, (some g1)] wl1 wz ∧ Osl VI wz og5 v5 (ps.map (codP W C)) ∧ OgR wl1 og3 og5 ∧ Osl VB wz (some g1) v1 (sn) ∧ (k ≤ xa2.length) ∧ (BA xa2 ins outs xa3 at_ p k ps) ∧ (SN ins outs a0 W C sn ps)) (ρ₀ := [(10, _), (88, _)]) (m₀ := _) ⟨rfl, rfl, rfl, rfl, rfl, rfl, rfl, rfl, rfl, rfl, rfl, rfl, rfl, trivial⟩ ⟨v3, og3, 0, _, _, rfl, rfl, (UpdL.refl _ _), osE ho3 (by rfl), OgR.refl _ _, osE ho1 (by rfl), (by first | omega | rfl | (simp; done) | assumption | (simp_all; done)), (by exact hBI.arc (by omega) hp (by first | exact fin_n1 (by assumption) | exact fin_n2 (by assumption) | exact fin_n3 (by assumption))), (by exact hSN)⟩ ?_
      rintro _ wl2 _ ⟨v5, og5, k, ps, sn, rfl, rfl, hU1, ho5, ha5, ho1, hk, hBA, hSN⟩
      have hU0 := hU0.trans hU1 ⟨hk0_3, hk0_1, trivial⟩
      have hl5 := Lo.ogr hl3 hB ha5
      have hg1_5 := ha5
      have hk1_5 : OkB [og3, (some g1)] wl1 og5 := OkB.ogr (OkB.mem (by simp)) (Nat.le_refl _) ha5
      have hk0_5 := OkB.ogr hk0_3 (by first | assumption | exact UpdL.size (by assumption)) ha5
      have hg0_5 := OgR.trans hg0_3 (by first | assumption | exact UpdL.size (by assumption)) ha5
      have hd1_5 := Dj.ogr hd1_3 hlt1 ha5
      have hk1_1 : OkB [og3, (some g1)] wl1 (some g1) := OkB.mem (by simp)
      have hB := hB.loop hU1 ⟨hl3, hl1, trivial⟩
      have hsm := hBA.bi.small hv hi12 ho12; have hsl := hSN.1
      refine CW.seq ?_
      refine CW.reg ?_
      refine WL.pure rfl rfl rfl (PV.lss rfl rfl) ?_
      refine WL.nilS ?_
      refine CW.seq ?_
      refine CW.cond rfl (fun hc3 => ?_) (fun hc3 => ?_)
      · skip
        try simp only [nq] at hc3
        refine CW.skipS ?_
        refine CW.seq ?_
        refine CW.block ?_
        refine CW.seq ?_
        refine CW.reg ?_
        refine WL.mv rfl rfl ?_
        refine WL.asg rfl rfl ?_
        refine WL.nilS ?_
        refine CW.seq ?_
        refine CW.reg ?_
        refine WL.mv rfl rfl ?_
        refine WL.pure rfl rfl rfl (PV.nilCheck rfl) ?_
        refine WL.pure rfl rfl rfl ((by first | exact PV.fieldAddr T.fl88_2 rfl (by first | assumption | exact Bx.cells (by assumption)) | exact PV.fieldAddrP T.fl88_2 rfl rfl)) ?_
        refine WL.pure rfl rfl rfl ((by first | exact PV.load0 T.na86 rfl (by first | exact Cells.up (by assumption) hB | exact Bx.cells (by assumption) | assumption) (Ext.refl _) rfl | exact PV.load1 T.na86 rfl (by first | exact Cells.up (by assumption) hB | exact Bx.cells (by assumption) | assumption) (Ext.refl _) rfl)) ?_
        refine WL.mv rfl rfl ?_
        first
          | refine WL.at (x := .tmp 94) (y := .tmp 95) (E := ER) ((0, 0, 0, 0)) rfl rfl (by first | assumption | exact Inn.rd (by assumption) (by omega)) (by first | omega | (simp only [List.length_set]; omega) | (simp only [List.length_append, List.length_take, List.length_replicate, List.length_drop]; omega)) (fun p5 csp5 hpp5 hcp5 hq => ?_)
          | refine WL.atZ (x := .tmp 94) (y := .tmp 95) (E := ER) ((0, 0, 0, 0)) rfl rfl (by first | assumption | exact Inn.rd (by assumption) (by omega)) (by first | omega | (simp only [List.length_set]; omega) | (simp only [List.length_append, List.length_take, List.length_replicate, List.length_drop]; omega)) (fun p5 csp5 hpp5 hzp5 hcp5 hq => ?_)
        cases hq
        refine WL.pure rfl rfl rfl ((by first | exact PV.indexAddr hpp5 rfl rfl T.sl86 | exact PV.indexAddr hpp5 rfl (by rw [← hzp5]; rfl) T.sl86)) ?_
        refine WL.asg rfl rfl ?_
        refine WL.nilS ?_
        refine CW.seq ?_
        refine CW.reg ?_
        refine WL.mv rfl rfl ?_
        refine WL.mv rfl rfl ?_
        refine WL.mv rfl rfl ?_
        refine WL.pure rfl rfl rfl (PV.nilCheck rfl) ?_
        refine WL.pure rfl rfl rfl ((by first | exact PV.fieldAddr T.fl178_2 rfl (by first | assumption | exact Bx.cells (by assumption)) | exact PV.fieldAddrP T.fl178_2 rfl rfl)) ?_
        refine WL.pure rfl rfl rfl ((by first | exact PV.load0 T.na2 rfl (by first | exact Cells.up (by assumption) hB | exact Bx.cells (by assumption) | assumption) (Ext.refl _) rfl | exact PV.load1 T.na2 rfl (by first | exact Cells.up (by assumption) hB | exact Bx.cells (by assumption) | assumption) (Ext.refl _) rfl)) ?_
        refine WL.op rfl (OpK.callR rfl T.cf209 rfl (c_spec_l05Side (by first | assumption | exact Rd.up (by assumption) hB | exact Osl.rd (by assumption) | exact Osn.rdR (by assumption) | exact NL.rd (by assumption) | exact rdII (by assumption) (by assumption) | exact Inn.rd (by assumption) (by omega)) (by first | assumption | omega | (simp only [marks_len, marksB_len, marksR_len, sumL_marksS]; omega))) (fun w4 hXw4 => ?_))
        have hB := hB.trans hXw4
        have ho1 := ho1.up hXw4
        have ho5 := ho5.up hXw4
        have hU0 := hU0.ext hXw4
        have hU1 := hU1.ext hXw4
        refine WL.asg rfl rfl ?_
        refine WL.nilS ?_
        refine CW.seq ?_
        refine CW.reg ?_
        refine WL.mv rfl rfl ?_
        refine WL.mv rfl rfl ?_
        refine WL.mv rfl rfl ?_
        refine WL.pure rfl rfl rfl (PV.nilCheck rfl) ?_
        refine WL.pure rfl rfl rfl ((by first | exact PV.fieldAddr T.fl178_3 rfl (by first | assumption | exact Bx.cells (by assumption)) | exact PV.fieldAddrP T.fl178_3 rfl rfl)) ?_
        refine WL.pure rfl rfl rfl ((by first | exact PV.load0 T.na2 rfl (by first | exact Cells.up (by assumption) hB | exact Bx.cells (by assumption) | assumption) (Ext.refl _) rfl | exact PV.load1 T.na2 rfl (by first | exact Cells.up (by assumption) hB | exact Bx.cells (by assumption) | assumption) (Ext.refl _) rfl)) ?_
        refine WL.op rfl (OpK.callR rfl T.cf209 rfl (c_spec_l05Side (by first | assumption | exact Rd.up (by assumption) hB | exact Osl.rd (by assumption) | exact Osn.rdR (by assumption) | exact NL.rd (by assumption) | exact rdII (by assumption) (by assumption) | exact Inn.rd (by assumption) (by omega)) (by first | assumption | omega | (simp only [marks_len, marksB_len, marksR_len, sumL_marksS]; omega))) (fun w5 hXw5 => ?_))
        have hB := hB.trans hXw5
        have ho1 := ho1.up hXw5
        have ho5 := ho5.up hXw5
        have hU0 := hU0.ext hXw5
        have hU1 := hU1.ext hXw5
        refine WL.asg rfl rfl ?_
        refine WL.nilS ?_
        refine CW.seq ?_
        refine CW.seq ?_
        refine CW.reg ?_
        refine WL.mv rfl rfl ?_
        refine WL.pure rfl rfl rfl (PV.nilCheck rfl) ?_
        refine WL.pure rfl rfl rfl ((by first | exact PV.fieldAddr T.fl178_0 rfl (by first | assumption | exact Bx.cells (by assumption)) | exact PV.fieldAddrP T.fl178_0 rfl rfl)) ?_
        refine WL.pure rfl rfl rfl ((by first | exact PV.load0 T.na2 rfl (by first | exact Cells.up (by assumption) hB | exact Bx.cells (by assumption) | assumption) (Ext.refl _) rfl | exact PV.load1 T.na2 rfl (by first | exact Cells.up (by assumption) hB | exact Bx.cells (by assumption) | assumption) (Ext.refl _) rfl)) ?_
        refine WL.mv rfl rfl ?_
        refine WL.pure rfl rfl rfl (PV.neq rfl rfl) ?_
        refine WL.mv rfl rfl ?_
        refine WL.split (t := 117) rfl (fun hc4 => ?_) (fun hc4 => ?_)
        · skip
          try simp only [nq] at hc4
          refine WL.skip rfl rfl rfl rfl rfl ?_
          refine WL.skip rfl rfl rfl rfl rfl ?_
          refine WL.pure rfl rfl rfl (PV.pickT rfl rfl) ?_
          refine WL.mv rfl rfl ?_
          refine WL.skip rfl rfl rfl rfl rfl ?_
          refine WL.skip rfl rfl rfl rfl rfl ?_
          refine WL.pure rfl rfl rfl (PV.pickT rfl rfl) ?_
          refine WL.nilS ?_
          refine CW.condT rfl ?_
          refine CW.exit ?_
          refine XQ.then ?_
          refine XQ.here ?_
          refine NQ.then ?_
          refine CW.reg ?_
          refine WL.pure rfl rfl rfl (PV.add rfl rfl (by constructor <;> omega)) ?_
          refine WL.mv rfl rfl ?_
          refine WL.nil ?_
          refine NQ.next (ρ := [(10, _), (88, _)]) ⟨rfl, rfl, rfl, rfl, rfl, rfl, rfl, rfl, rfl, rfl, rfl, rfl, rfl, trivial⟩ ?_
          exact ⟨_, ⟨v5, og5, k + 1, _, _, rfl, rfl, hU1, osE ho5 (by first | rfl | (rw [List.map_append]; rfl)), (by first | exact hg1_5 | exact OgR.weak hg1_5), osE ho1 (by rfl), (by first | omega | assumption | (simp_all; done) | (simp_all; omega)), (by first | exact hBA.put (by omega) hnx (of_decide_eq_false (by assumption)) | exact hBA.put (by omega) hnx (by assumption) | exact hBA.old (by assumption) | exact hBA.no (by first | exact nxt_n1 (by assumption) | exact nxt_n2 (sd_n (by assumption) (by omega)) | exact nxt_n3 (sd_n (by assumption) (by omega)))), (by first | exact hSN.put hW hC hqr | exact hSN)⟩, by omega⟩
        try simp only [nq] at hc4
        refine WL.pureG rfl rfl rfl rfl rfl (PV.move rfl) ?_
        refine WL.pureG rfl rfl rfl rfl rfl (PV.lss rfl rfl) ?_
        refine WL.pure rfl rfl rfl (PV.pickF rfl rfl) ?_
        refine WL.mv rfl rfl ?_
        refine WL.split (t := 121) rfl (fun hc5 => ?_) (fun hc5 => ?_)
        · skip
          try simp only [nq] at hc5
          refine WL.skip rfl rfl rfl rfl rfl ?_
          refine WL.skip rfl rfl rfl rfl rfl ?_
          refine WL.pure rfl rfl rfl (PV.pickT rfl rfl) ?_
          refine WL.nilS ?_
          refine CW.condT rfl ?_
          refine CW.exit ?_
          refine XQ.then ?_
          refine XQ.here ?_
          refine NQ.then ?_
          refine CW.reg ?_
          refine WL.pure rfl rfl rfl (PV.add rfl rfl (by constructor <;> omega)) ?_
          refine WL.mv rfl rfl ?_
          refine WL.nil ?_
          refine NQ.next (ρ := [(10, _), (88, _)]) ⟨rfl, rfl, rfl, rfl, rfl, rfl, rfl, rfl, rfl, rfl, rfl, rfl, rfl, trivial⟩ ?_
          exact ⟨_, ⟨v5, og5, k + 1, _, _, rfl, rfl, hU1, osE ho5 (by first | rfl | (rw [List.map_append]; rfl)), (by first | exact hg1_5 | exact OgR.weak hg1_5), osE ho1 (by rfl), (by first | omega | assumption | (simp_all; done) | (simp_all; omega)), (by first | exact hBA.put (by omega) hnx (of_decide_eq_false (by assumption)) | exact hBA.put (by omega) hnx (by assumption) | exact hBA.old (by assumption) | exact hBA.no (by first | exact nxt_n1 (by assumption) | exact nxt_n2 (sd_n (by assumption) (by omega)) | exact nxt_n3 (sd_n (by assumption) (by omega)))), (by first | exact hSN.put hW hC hqr | exact hSN)⟩, by omega⟩
        try simp only [nq] at hc5
        refine WL.pureG rfl rfl rfl rfl rfl (PV.move rfl) ?_
        refine WL.pureG rfl rfl rfl rfl rfl (PV.lss rfl rfl) ?_
        refine WL.pure rfl rfl rfl (PV.pickF rfl rfl) ?_
        refine WL.nilS ?_
        refine CW.cond rfl (fun hc6 => ?_) (fun hc6 => ?_)
        · skip
          try simp only [nq] at hc6
          refine CW.exit ?_
          refine XQ.then ?_
          refine XQ.here ?_
          refine NQ.then ?_
          refine CW.reg ?_
          refine WL.pure rfl rfl rfl (PV.add rfl rfl (by constructor <;> omega)) ?_
          refine WL.mv rfl rfl ?_
          refine WL.nil ?_
          refine NQ.next (ρ := [(10, _), (88, _)]) ⟨rfl, rfl, rfl, rfl, rfl, rfl, rfl, rfl, rfl, rfl, rfl, rfl, rfl, trivial⟩ ?_
          exact ⟨_, ⟨v5, og5, k + 1, _, _, rfl, rfl, hU1, osE ho5 (by first | rfl | (rw [List.map_append]; rfl)), (by first | exact hg1_5 | exact OgR.weak hg1_5), osE ho1 (by rfl), (by first | omega | assumption | (simp_all; done) | (simp_all; omega)), (by first | exact hBA.put (by omega) hnx (of_decide_eq_false (by assumption)) | exact hBA.put (by omega) hnx (by assumption) | exact hBA.old (by assumption) | exact hBA.no (by first | exact nxt_n1 (by assumption) | exact nxt_n2 (sd_n (by assumption) (by omega)) | exact nxt_n3 (sd_n (by assumption) (by omega)))), (by first | exact hSN.put hW hC hqr | exact hSN)⟩, by omega⟩
        try simp only [nq] at hc6
        refine CW.skipS ?_
        refine CW.seq ?_
        refine CW.reg ?_
        obtain ⟨hy1, he1⟩ := sd_y (xs := ins) (by omega : ¬ sdI ins p.1 (xa2.getD k (0, 0, 0, 0)).2.2.1 < 0); obtain ⟨hy2, he2⟩ := sd_y (xs := outs) (by omega : ¬ sdI outs p.2.1 (xa2.getD k (0, 0, 0, 0)).2.2.2 < 0); have hnx := nxt_y (ins := ins) (outs := outs) (p := p) (a := xa2.getD k (0, 0, 0, 0)) (by omega) hy1 hy2; have hqr := hpr.next (hva k (by omega)) hnx; have hq1 : 0 ≤ pasI p.1 (xa2.getD k (0, 0, 0, 0)).2.2.1 ∧ pasI p.1 (xa2.getD k (0, 0, 0, 0)).2.2.1 ≤ ins.length := hqr.1; have hq2 : 0 ≤ pasI p.2.1 (xa2.getD k (0, 0, 0, 0)).2.2.2 ∧ pasI p.2.1 (xa2.getD k (0, 0, 0, 0)).2.2.2 ≤ outs.length := hqr.2.1; have hq3 : 0 ≤ (xa2.getD k (0, 0, 0, 0)).2.1 ∧ (xa2.getD k (0, 0, 0, 0)).2.1 ≤ a0 - 1 := hqr.2.2; have hcq : 0 ≤ (xa2.getD k (0, 0, 0, 0)).2.1 * C + pasI p.1 (xa2.getD k (0, 0, 0, 0)).2.2.1 * W + pasI p.2.1 (xa2.getD k (0, 0, 0, 0)).2.2.2 ∧ (xa2.getD k (0, 0, 0, 0)).2.1 * C + pasI p.1 (xa2.getD k (0, 0, 0, 0)).2.2.1 * W + pasI p.2.1 (xa2.getD k (0, 0, 0, 0)).2.2.2 ≤ a0 * C - 1 := (cod_rng hW hC hqr).2; have hm1 := mul_rng (m := 8) (n := 169) (show 0 ≤ (xa2.getD k (0, 0, 0, 0)).2.1 ∧ (xa2.getD k (0, 0, 0, 0)).2.1 ≤ 8 by omega) (show 0 ≤ C ∧ C ≤ 169 by omega); have hm2 := mul_rng (m := 12) (n := 13) (show 0 ≤ pasI p.1 (xa2.getD k (0, 0, 0, 0)).2.2.1 ∧ pasI p.1 (xa2.getD k (0, 0, 0, 0)).2.2.1 ≤ 12 by omega) (show 0 ≤ W ∧ W ≤ 13 by omega); rw [he1, he2]; have hsq : sn.getD ((xa2.getD k (0, 0, 0, 0)).2.1 * C + pasI p.1 (xa2.getD k (0, 0, 0, 0)).2.2.1 * W + pasI p.2.1 (xa2.getD k (0, 0, 0, 0)).2.2.2).toNat false = decide (nxtP p (xa2.getD k (0, 0, 0, 0)) ∈ ps) := hSN.2 _ hqr
        refine WL.mv rfl rfl ?_
        refine WL.pure rfl rfl rfl (PV.nilCheck rfl) ?_
        refine WL.pure rfl rfl rfl ((by first | exact PV.fieldAddr T.fl178_1 rfl (by first | assumption | exact Bx.cells (by assumption)) | exact PV.fieldAddrP T.fl178_1 rfl rfl)) ?_
        refine WL.pure rfl rfl rfl ((by first | exact PV.load0 T.na2 rfl (by first | exact Cells.up (by assumption) hB | exact Bx.cells (by assumption) | assumption) (Ext.refl _) rfl | exact PV.load1 T.na2 rfl (by first | exact Cells.up (by assumption) hB | exact Bx.cells (by assumption) | assumption) (Ext.refl _) rfl)) ?_
        refine WL.mv rfl rfl ?_
        refine WL.pure rfl rfl rfl (PV.mul rfl rfl (by constructor <;> omega)) ?_
        refine WL.mv rfl rfl ?_
        refine WL.mv rfl rfl ?_
        refine WL.pure rfl rfl rfl (PV.mul rfl rfl (by constructor <;> omega)) ?_
        refine WL.pure rfl rfl rfl (PV.add rfl rfl (by constructor <;> omega)) ?_
        refine WL.mv rfl rfl ?_
        refine WL.pure rfl rfl rfl (PV.add rfl rfl (by constructor <;> omega)) ?_
        refine WL.asg rfl rfl ?_
        refine WL.nilS ?_
        refine CW.seq ?_
        refine CW.reg ?_
        refine WL.mv rfl rfl ?_
        refine WL.mv rfl rfl ?_
        first
          | refine WL.atO (x := .tmp 137) (y := .tmp 138) (f := VB) (false) rfl rfl ho1 (by first | omega | (simp only [List.length_set]; omega) | (simp only [List.length_append, List.length_take, List.length_replicate, List.length_drop]; omega)) (fun p6 hpp6 hcp6 => ?_)
          | refine WL.atOZ (x := .tmp 137) (y := .tmp 138) (f := VB) (false) rfl rfl ho1 (by first | omega | (simp only [List.length_set]; omega) | (simp only [List.length_append, List.length_take, List.length_replicate, List.length_drop]; omega)) (fun p6 hpp6 hzp6 hcp6 => ?_)
        refine WL.pure rfl rfl rfl ((by first | exact PV.indexAddr hpp6 rfl rfl T.sl62 | exact PV.indexAddr hpp6 rfl (by rw [← hzp6]; rfl) T.sl62)) ?_
        refine WL.pure rfl rfl rfl ((by first | exact PV.load0 T.na4 rfl (by first | exact Cells.up (by assumption) hB | exact Bx.cells (by assumption) | assumption) (Ext.refl _) rfl | exact PV.load1 T.na4 rfl (by first | exact Cells.up (by assumption) hB | exact Bx.cells (by assumption) | assumption) (Ext.refl _) rfl)) ?_
        rw [hsq]
        refine WL.pure rfl rfl rfl (PV.not rfl) ?_
        refine WL.nilS ?_
        refine CW.cond rfl (fun hc7 => ?_) (fun hc7 => ?_)
        · skip
          try simp only [nq] at hc7
          refine CW.seq ?_
          refine CW.reg ?_
          refine WL.mv rfl rfl ?_
          refine WL.mv rfl rfl ?_
          first
            | refine WL.atO (x := .tmp 142) (y := .tmp 143) (f := VB) (false) rfl rfl ho1 (by first | omega | (simp only [List.length_set]; omega) | (simp only [List.length_append, List.length_take, List.length_replicate, List.length_drop]; omega)) (fun p7 hpp7 hcp7 => ?_)
            | refine WL.atOZ (x := .tmp 142) (y := .tmp 143) (f := VB) (false) rfl rfl ho1 (by first | omega | (simp only [List.length_set]; omega) | (simp only [List.length_append, List.length_take, List.length_replicate, List.length_drop]; omega)) (fun p7 hpp7 hzp7 hcp7 => ?_)
          refine WL.pure rfl rfl rfl ((by first | exact PV.indexAddr hpp7 rfl rfl T.sl62 | exact PV.indexAddr hpp7 rfl (by rw [← hzp7]; rfl) T.sl62)) ?_
          refine WL.op rfl (OpK.storeS VB T.sz4 rfl rfl rfl hpp7 ho1 (fun w6 hXw6 ho1 => ?_))
          have hB := hB.updL hXw6 hl1
          have ho5 := ho5.updD hXw6 (Dj.symm hd1_5)
          have hU0 := hU0.step hXw6 hk0_1
          have hU1 := hU1.step hXw6 hk1_1
          refine WL.nilS ?_
          refine CW.reg ?_
          refine WL.mv rfl rfl ?_
          refine WL.mv rfl rfl ?_
          refine WL.op rfl (OpK.buildS VI (os := [.tmp 146]) [_] rfl T.sl241 rfl rfl T.zv3 rfl (by intro z hz; first | rfl | (simp only [List.mem_cons, List.not_mem_nil, or_false] at hz; subst hz; exact (by first | exact Rd.cells1 (by assumption) | exact Osl.cells1 (by assumption) | exact Osn.cells1 (by assumption) | exact Rd.cells1 (NL.rd (by assumption)) | exact Inn.cell1 (by assumption) (by omega) | assumption | rfl))) rfl (fun v7 g7 w7 hXw7 ho7 hge7 => ?_))
          have hl7 := Lo.new hB hge7
          have hd1_7 := Dj.new ho1.ltO hge7
          have hd5_7 := Dj.new ho5.ltO hge7
          have hk0_7 := OkN.new hU0 hge7
          have hg0_7 := OgR.new hU0.size hge7
          have hk1_7 := OkN.new hU1 hge7
          have hg1_7 := OgR.new hU1.size hge7
          have hB := hB.trans hXw7
          have ho1 := ho1.up hXw7
          have ho5 := ho5.up hXw7
          have hU0 := hU0.ext hXw7
          have hU1 := hU1.ext hXw7
          refine WL.op rfl (OpK.appendS (f := VI) rfl T.sl241 T.zv3 rfl rfl ho5 rfl (Osl.src ho7 (fun _ => rfl)) (by first | (simp only [List.length_cons, List.length_nil]; omega) | (simp only [List.length_map, List.length_cons, List.length_nil]; omega)) (fun v8 og8 w8 hXw8 ho8 hap8 => ?_))
          have hl8 := Lo.app hl5 hB hap8
          have hd1_8 := Dj.app hd1_5 ho1.ltO hap8
          have hd7_8 := Dj.app (Dj.symm hd5_7) ho7.ltO hap8
          have hk0_8 := OkN.app hU0 hk0_5 hap8
          have hg0_8 := OgR.app hg0_5 hU0.size hap8
          have hk1_8 := OkN.app hU1 hk1_5 hap8
          have hg1_8 := OgR.app hg1_5 hU1.size hap8
          have hB := hB.updL hXw8 hl5
          have ho1 := ho1.updD hXw8 hd1_5
          have ho7 := ho7.updD hXw8 (Dj.symm hd5_7)
          have hU0 := hU0.step hXw8 hk0_5
          have hU1 := hU1.step hXw8 hk1_5
          refine WL.asg rfl rfl ?_
          refine WL.nil ?_
          refine NQ.block ?_
          refine NQ.then ?_
          refine CW.reg ?_
          refine WL.pure rfl rfl rfl (PV.add rfl rfl (by constructor <;> omega)) ?_
          refine WL.mv rfl rfl ?_
          refine WL.nil ?_
          refine NQ.next (ρ := [(10, _), (88, _)]) ⟨rfl, rfl, rfl, rfl, rfl, rfl, rfl, rfl, rfl, rfl, rfl, rfl, rfl, trivial⟩ ?_
          exact ⟨_, ⟨v8, og8, k + 1, ps ++ [nxtP p (xa2.getD k z4)], _, rfl, rfl, hU1, osE ho8 (by first | rfl | (rw [List.map_append]; rfl)), (by first | exact hg1_8 | exact OgR.weak hg1_8), osE ho1 (by rfl), (by first | omega | assumption | (simp_all; done) | (simp_all; omega)), (by first | exact hBA.put (by omega) hnx (of_decide_eq_false (by assumption)) | exact hBA.put (by omega) hnx (by assumption) | exact hBA.old (by assumption) | exact hBA.no (by first | exact nxt_n1 (by assumption) | exact nxt_n2 (sd_n (by assumption) (by omega)) | exact nxt_n3 (sd_n (by assumption) (by omega)))), (by first | exact hSN.put hW hC hqr | exact hSN)⟩, by omega⟩
        try simp only [nq] at hc7
        refine CW.skip ?_
        refine NQ.block ?_
        refine NQ.then ?_
        refine CW.reg ?_
        refine WL.pure rfl rfl rfl (PV.add rfl rfl (by constructor <;> omega)) ?_
        refine WL.mv rfl rfl ?_
        refine WL.nil ?_
        refine NQ.next (ρ := [(10, _), (88, _)]) ⟨rfl, rfl, rfl, rfl, rfl, rfl, rfl, rfl, rfl, rfl, rfl, rfl, rfl, trivial⟩ ?_
        exact ⟨_, ⟨v5, og5, k + 1, _, _, rfl, rfl, hU1, osE ho5 (by first | rfl | (rw [List.map_append]; rfl)), (by first | exact hg1_5 | exact OgR.weak hg1_5), osE ho1 (by rfl), (by first | omega | assumption | (simp_all; done) | (simp_all; omega)), (by first | exact hBA.put (by omega) hnx (of_decide_eq_false (by assumption)) | exact hBA.put (by omega) hnx (by assumption) | exact hBA.old (by assumption) | exact hBA.no (by first | exact nxt_n1 (by assumption) | exact nxt_n2 (sd_n (by assumption) (by omega)) | exact nxt_n3 (sd_n (by assumption) (by omega)))), (by first | exact hSN.put hW hC hqr | exact hSN)⟩, by omega⟩
      try simp only [nq] at hc3
      refine CW.exit ?_
      refine XQ.then ?_
      refine XQ.then ?_
      refine XQ.here ?_
      refine NQ.block ?_
      refine NQ.then ?_
      refine CW.reg ?_
      refine WL.mv rfl rfl ?_
      refine WL.pure rfl rfl rfl (PV.add rfl rfl (by constructor <;> omega)) ?_
      refine WL.asg rfl rfl ?_
      refine WL.nil ?_
      refine NQ.next (ρ := [(10, _), (11, _)]) ⟨rfl, rfl, rfl, rfl, rfl, rfl, rfl, rfl, trivial⟩ ?_
      exact ⟨_, ⟨v5, og5, at_ + 1, _, _, rfl, rfl, hU0, osE ho5 (by rfl), (by first | exact hg0_5 | exact OgR.weak hg0_5), osE ho1 (by rfl), (by exact hBA.done (by omega)), (by exact hSN)⟩, by (have := hBA.lt; omega)⟩
    try simp only [nq] at hc2
    refine WL.pureG rfl rfl rfl rfl rfl (PV.move rfl) ?_
    refine WL.pureG rfl rfl rfl rfl rfl (PV.move rfl) ?_
    refine WL.pureG rfl rfl rfl rfl rfl ((by first | exact PV.len rfl (by assumption) T.sl28 | exact PV.lenOs rfl (by assumption) T.sl28 | exact PV.len rfl (NL.rd (by assumption)) T.sl28 | exact PV.len rfl (Inn.rd (by assumption) (by omega)) T.sl28)) ?_
    refine WL.pureG rfl rfl rfl rfl rfl (PV.eql rfl rfl) ?_
    refine WL.pure rfl rfl rfl (PV.pickT rfl rfl) ?_
    refine WL.mv rfl rfl ?_
    refine WL.split (t := 74) rfl (fun hc8 => ?_) (fun hc8 => ?_)
    rotate_left
    · skip
      try simp only [nq] at hc8
      refine WL.skip rfl rfl rfl rfl rfl ?_
      refine WL.skip rfl rfl rfl rfl rfl ?_
      refine WL.skip rfl rfl rfl rfl rfl ?_
      refine WL.skip rfl rfl rfl rfl rfl ?_
      refine WL.skip rfl rfl rfl rfl rfl ?_
      refine WL.skip rfl rfl rfl rfl rfl ?_
      refine WL.skip rfl rfl rfl rfl rfl ?_
      refine WL.pure rfl rfl rfl (PV.pickF rfl rfl) ?_
      refine WL.nilS ?_
      refine CW.condF rfl ?_
      refine CW.skipS ?_
      refine CW.seq ?_
      refine CW.reg ?_
      refine WL.mv rfl rfl ?_
      refine WL.pure rfl rfl rfl (PV.nilCheck rfl) ?_
      refine WL.pure rfl rfl rfl ((by first | exact PV.fieldAddr T.fl88_2 rfl (by first | assumption | exact Bx.cells (by assumption)) | exact PV.fieldAddrP T.fl88_2 rfl rfl)) ?_
      refine WL.pure rfl rfl rfl ((by first | exact PV.load0 T.na86 rfl (by first | exact Cells.up (by assumption) hB | exact Bx.cells (by assumption) | assumption) (Ext.refl _) rfl | exact PV.load1 T.na86 rfl (by first | exact Cells.up (by assumption) hB | exact Bx.cells (by assumption) | assumption) (Ext.refl _) rfl)) ?_
      refine WL.pure rfl rfl rfl ((by first | exact PV.len rfl (by assumption) T.sl86 | exact PV.lenOs rfl (by assumption) T.sl86 | exact PV.len rfl (NL.rd (by assumption)) T.sl86 | exact PV.len rfl (Inn.rd (by assumption) (by omega)) T.sl86)) ?_
      refine WL.mv rfl rfl ?_
      refine WL.nilS ?_
      refine CW.block ?_
      have hlt1 := ho1.ltO
      have hlt3 := ho3.ltO
      refine CW.loop (σk := [(0, _), (1, _), (2, _), (7, _), (8, _), (9, _), (11, _), (12, _), (13, _), (14, _), (87, _)]) (fun ρ wz m => ∃ (v9 : Value) (og9 : Option Nat) (k : Nat) (ps : List P3) (sn : List Bool), ρ = [(10, v9), (88, .int .i64 (k : Nat))] ∧ m = xa2.length - k ∧ UpdL [og3, (some g1)] wl1 wz ∧ Osl VI wz og9 v9 (ps.map (codP W C)) ∧ OgR wl1 og3 og9 ∧ Osl VB wz (some g1) v1 (sn) ∧ (k ≤ xa2.length) ∧ (BA xa2 ins outs xa3 at_ p k ps) ∧ (SN ins outs a0 W C sn ps)) (ρ₀ := [(10, _), (88, _)]) (m₀ := _) ⟨rfl, rfl, rfl, rfl, rfl, rfl, rfl, rfl, rfl, rfl, rfl, rfl, rfl, trivial⟩ ⟨v3, og3, 0, _, _, rfl, rfl, (UpdL.refl _ _), osE ho3 (by rfl), OgR.refl _ _, osE ho1 (by rfl), (by first | omega | rfl | (simp; done) | assumption | (simp_all; done)), (by exact hBI.arc (by omega) hp (by first | exact fin_n1 (by assumption) | exact fin_n2 (by assumption) | exact fin_n3 (by assumption))), (by exact hSN)⟩ ?_
      rintro _ wl3 _ ⟨v9, og9, k, ps, sn, rfl, rfl, hU1, ho9, ha9, ho1, hk, hBA, hSN⟩
      have hU0 := hU0.trans hU1 ⟨hk0_3, hk0_1, trivial⟩
      have hl9 := Lo.ogr hl3 hB ha9
      have hg1_9 := ha9
      have hk1_9 : OkB [og3, (some g1)] wl1 og9 := OkB.ogr (OkB.mem (by simp)) (Nat.le_refl _) ha9
      have hk0_9 := OkB.ogr hk0_3 (by first | assumption | exact UpdL.size (by assumption)) ha9
      have hg0_9 := OgR.trans hg0_3 (by first | assumption | exact UpdL.size (by assumption)) ha9
      have hd1_9 := Dj.ogr hd1_3 hlt1 ha9
      have hk1_1 : OkB [og3, (some g1)] wl1 (some g1) := OkB.mem (by simp)
      have hB := hB.loop hU1 ⟨hl3, hl1, trivial⟩
      have hsm := hBA.bi.small hv hi12 ho12; have hsl := hSN.1
      refine CW.seq ?_
      refine CW.reg ?_
      refine WL.pure rfl rfl rfl (PV.lss rfl rfl) ?_
      refine WL.nilS ?_
      refine CW.seq ?_
      refine CW.cond rfl (fun hc9 => ?_) (fun hc9 => ?_)
      · skip
        try simp only [nq] at hc9
        refine CW.skipS ?_
        refine CW.seq ?_
        refine CW.block ?_
        refine CW.seq ?_
        refine CW.reg ?_
        refine WL.mv rfl rfl ?_
        refine WL.asg rfl rfl ?_
        refine WL.nilS ?_
        refine CW.seq ?_
        refine CW.reg ?_
        refine WL.mv rfl rfl ?_
        refine WL.pure rfl rfl rfl (PV.nilCheck rfl) ?_
        refine WL.pure rfl rfl rfl ((by first | exact PV.fieldAddr T.fl88_2 rfl (by first | assumption | exact Bx.cells (by assumption)) | exact PV.fieldAddrP T.fl88_2 rfl rfl)) ?_
        refine WL.pure rfl rfl rfl ((by first | exact PV.load0 T.na86 rfl (by first | exact Cells.up (by assumption) hB | exact Bx.cells (by assumption) | assumption) (Ext.refl _) rfl | exact PV.load1 T.na86 rfl (by first | exact Cells.up (by assumption) hB | exact Bx.cells (by assumption) | assumption) (Ext.refl _) rfl)) ?_
        refine WL.mv rfl rfl ?_
        first
          | refine WL.at (x := .tmp 94) (y := .tmp 95) (E := ER) ((0, 0, 0, 0)) rfl rfl (by first | assumption | exact Inn.rd (by assumption) (by omega)) (by first | omega | (simp only [List.length_set]; omega) | (simp only [List.length_append, List.length_take, List.length_replicate, List.length_drop]; omega)) (fun p8 csp8 hpp8 hcp8 hq => ?_)
          | refine WL.atZ (x := .tmp 94) (y := .tmp 95) (E := ER) ((0, 0, 0, 0)) rfl rfl (by first | assumption | exact Inn.rd (by assumption) (by omega)) (by first | omega | (simp only [List.length_set]; omega) | (simp only [List.length_append, List.length_take, List.length_replicate, List.length_drop]; omega)) (fun p8 csp8 hpp8 hzp8 hcp8 hq => ?_)
        cases hq
        refine WL.pure rfl rfl rfl ((by first | exact PV.indexAddr hpp8 rfl rfl T.sl86 | exact PV.indexAddr hpp8 rfl (by rw [← hzp8]; rfl) T.sl86)) ?_
        refine WL.asg rfl rfl ?_
        refine WL.nilS ?_
        refine CW.seq ?_
        refine CW.reg ?_
        refine WL.mv rfl rfl ?_
        refine WL.mv rfl rfl ?_
        refine WL.mv rfl rfl ?_
        refine WL.pure rfl rfl rfl (PV.nilCheck rfl) ?_
        refine WL.pure rfl rfl rfl ((by first | exact PV.fieldAddr T.fl178_2 rfl (by first | assumption | exact Bx.cells (by assumption)) | exact PV.fieldAddrP T.fl178_2 rfl rfl)) ?_
        refine WL.pure rfl rfl rfl ((by first | exact PV.load0 T.na2 rfl (by first | exact Cells.up (by assumption) hB | exact Bx.cells (by assumption) | assumption) (Ext.refl _) rfl | exact PV.load1 T.na2 rfl (by first | exact Cells.up (by assumption) hB | exact Bx.cells (by assumption) | assumption) (Ext.refl _) rfl)) ?_
        refine WL.op rfl (OpK.callR rfl T.cf209 rfl (c_spec_l05Side (by first | assumption | exact Rd.up (by assumption) hB | exact Osl.rd (by assumption) | exact Osn.rdR (by assumption) | exact NL.rd (by assumption) | exact rdII (by assumption) (by assumption) | exact Inn.rd (by assumption) (by omega)) (by first | assumption | omega | (simp only [marks_len, marksB_len, marksR_len, sumL_marksS]; omega))) (fun w9 hXw9 => ?_))
        have hB := hB.trans hXw9
        have ho1 := ho1.up hXw9
        have ho9 := ho9.up hXw9
        have hU0 := hU0.ext hXw9
        have hU1 := hU1.ext hXw9
        refine WL.asg rfl rfl ?_
        refine WL.nilS ?_
        refine CW.seq ?_
        refine CW.reg ?_
        refine WL.mv rfl rfl ?_
        refine WL.mv rfl rfl ?_
        refine WL.mv rfl rfl ?_
        refine WL.pure rfl rfl rfl (PV.nilCheck rfl) ?_
        refine WL.pure rfl rfl rfl ((by first | exact PV.fieldAddr T.fl178_3 rfl (by first | assumption | exact Bx.cells (by assumption)) | exact PV.fieldAddrP T.fl178_3 rfl rfl)) ?_
        refine WL.pure rfl rfl rfl ((by first | exact PV.load0 T.na2 rfl (by first | exact Cells.up (by assumption) hB | exact Bx.cells (by assumption) | assumption) (Ext.refl _) rfl | exact PV.load1 T.na2 rfl (by first | exact Cells.up (by assumption) hB | exact Bx.cells (by assumption) | assumption) (Ext.refl _) rfl)) ?_
        refine WL.op rfl (OpK.callR rfl T.cf209 rfl (c_spec_l05Side (by first | assumption | exact Rd.up (by assumption) hB | exact Osl.rd (by assumption) | exact Osn.rdR (by assumption) | exact NL.rd (by assumption) | exact rdII (by assumption) (by assumption) | exact Inn.rd (by assumption) (by omega)) (by first | assumption | omega | (simp only [marks_len, marksB_len, marksR_len, sumL_marksS]; omega))) (fun w10 hXw10 => ?_))
        have hB := hB.trans hXw10
        have ho1 := ho1.up hXw10
        have ho9 := ho9.up hXw10
        have hU0 := hU0.ext hXw10
        have hU1 := hU1.ext hXw10
        refine WL.asg rfl rfl ?_
        refine WL.nilS ?_
        refine CW.seq ?_
        refine CW.seq ?_
        refine CW.reg ?_
        refine WL.mv rfl rfl ?_
        refine WL.pure rfl rfl rfl (PV.nilCheck rfl) ?_
        refine WL.pure rfl rfl rfl ((by first | exact PV.fieldAddr T.fl178_0 rfl (by first | assumption | exact Bx.cells (by assumption)) | exact PV.fieldAddrP T.fl178_0 rfl rfl)) ?_
        refine WL.pure rfl rfl rfl ((by first | exact PV.load0 T.na2 rfl (by first | exact Cells.up (by assumption) hB | exact Bx.cells (by assumption) | assumption) (Ext.refl _) rfl | exact PV.load1 T.na2 rfl (by first | exact Cells.up (by assumption) hB | exact Bx.cells (by assumption) | assumption) (Ext.refl _) rfl)) ?_
        refine WL.mv rfl rfl ?_
        refine WL.pure rfl rfl rfl (PV.neq rfl rfl) ?_
        refine WL.mv rfl rfl ?_
        refine WL.split (t := 117) rfl (fun hc10 => ?_) (fun hc10 => ?_)
        · skip
          try simp only [nq] at hc10
          refine WL.skip rfl rfl rfl rfl rfl ?_
          refine WL.skip rfl rfl rfl rfl rfl ?_
          refine WL.pure rfl rfl rfl (PV.pickT rfl rfl) ?_
          refine WL.mv rfl rfl ?_
          refine WL.skip rfl rfl rfl rfl rfl ?_
          refine WL.skip rfl rfl rfl rfl rfl ?_
          refine WL.pure rfl rfl rfl (PV.pickT rfl rfl) ?_
          refine WL.nilS ?_
          refine CW.condT rfl ?_
          refine CW.exit ?_
          refine XQ.then ?_
          refine XQ.here ?_
          refine NQ.then ?_
          refine CW.reg ?_
          refine WL.pure rfl rfl rfl (PV.add rfl rfl (by constructor <;> omega)) ?_
          refine WL.mv rfl rfl ?_
          refine WL.nil ?_
          refine NQ.next (ρ := [(10, _), (88, _)]) ⟨rfl, rfl, rfl, rfl, rfl, rfl, rfl, rfl, rfl, rfl, rfl, rfl, rfl, trivial⟩ ?_
          exact ⟨_, ⟨v9, og9, k + 1, _, _, rfl, rfl, hU1, osE ho9 (by first | rfl | (rw [List.map_append]; rfl)), (by first | exact hg1_9 | exact OgR.weak hg1_9), osE ho1 (by rfl), (by first | omega | assumption | (simp_all; done) | (simp_all; omega)), (by first | exact hBA.put (by omega) hnx (of_decide_eq_false (by assumption)) | exact hBA.put (by omega) hnx (by assumption) | exact hBA.old (by assumption) | exact hBA.no (by first | exact nxt_n1 (by assumption) | exact nxt_n2 (sd_n (by assumption) (by omega)) | exact nxt_n3 (sd_n (by assumption) (by omega)))), (by first | exact hSN.put hW hC hqr | exact hSN)⟩, by omega⟩
        try simp only [nq] at hc10
        refine WL.pureG rfl rfl rfl rfl rfl (PV.move rfl) ?_
        refine WL.pureG rfl rfl rfl rfl rfl (PV.lss rfl rfl) ?_
        refine WL.pure rfl rfl rfl (PV.pickF rfl rfl) ?_
        refine WL.mv rfl rfl ?_
        refine WL.split (t := 121) rfl (fun hc11 => ?_) (fun hc11 => ?_)
        · skip
          try simp only [nq] at hc11
          refine WL.skip rfl rfl rfl rfl rfl ?_
          refine WL.skip rfl rfl rfl rfl rfl ?_
          refine WL.pure rfl rfl rfl (PV.pickT rfl rfl) ?_
          refine WL.nilS ?_
          refine CW.condT rfl ?_
          refine CW.exit ?_
          refine XQ.then ?_
          refine XQ.here ?_
          refine NQ.then ?_
          refine CW.reg ?_
          refine WL.pure rfl rfl rfl (PV.add rfl rfl (by constructor <;> omega)) ?_
          refine WL.mv rfl rfl ?_
          refine WL.nil ?_
          refine NQ.next (ρ := [(10, _), (88, _)]) ⟨rfl, rfl, rfl, rfl, rfl, rfl, rfl, rfl, rfl, rfl, rfl, rfl, rfl, trivial⟩ ?_
          exact ⟨_, ⟨v9, og9, k + 1, _, _, rfl, rfl, hU1, osE ho9 (by first | rfl | (rw [List.map_append]; rfl)), (by first | exact hg1_9 | exact OgR.weak hg1_9), osE ho1 (by rfl), (by first | omega | assumption | (simp_all; done) | (simp_all; omega)), (by first | exact hBA.put (by omega) hnx (of_decide_eq_false (by assumption)) | exact hBA.put (by omega) hnx (by assumption) | exact hBA.old (by assumption) | exact hBA.no (by first | exact nxt_n1 (by assumption) | exact nxt_n2 (sd_n (by assumption) (by omega)) | exact nxt_n3 (sd_n (by assumption) (by omega)))), (by first | exact hSN.put hW hC hqr | exact hSN)⟩, by omega⟩
        try simp only [nq] at hc11
        refine WL.pureG rfl rfl rfl rfl rfl (PV.move rfl) ?_
        refine WL.pureG rfl rfl rfl rfl rfl (PV.lss rfl rfl) ?_
        refine WL.pure rfl rfl rfl (PV.pickF rfl rfl) ?_
        refine WL.nilS ?_
        refine CW.cond rfl (fun hc12 => ?_) (fun hc12 => ?_)
        · skip
          try simp only [nq] at hc12
          refine CW.exit ?_
          refine XQ.then ?_
          refine XQ.here ?_
          refine NQ.then ?_
          refine CW.reg ?_
          refine WL.pure rfl rfl rfl (PV.add rfl rfl (by constructor <;> omega)) ?_
          refine WL.mv rfl rfl ?_
          refine WL.nil ?_
          refine NQ.next (ρ := [(10, _), (88, _)]) ⟨rfl, rfl, rfl, rfl, rfl, rfl, rfl, rfl, rfl, rfl, rfl, rfl, rfl, trivial⟩ ?_
          exact ⟨_, ⟨v9, og9, k + 1, _, _, rfl, rfl, hU1, osE ho9 (by first | rfl | (rw [List.map_append]; rfl)), (by first | exact hg1_9 | exact OgR.weak hg1_9), osE ho1 (by rfl), (by first | omega | assumption | (simp_all; done) | (simp_all; omega)), (by first | exact hBA.put (by omega) hnx (of_decide_eq_false (by assumption)) | exact hBA.put (by omega) hnx (by assumption) | exact hBA.old (by assumption) | exact hBA.no (by first | exact nxt_n1 (by assumption) | exact nxt_n2 (sd_n (by assumption) (by omega)) | exact nxt_n3 (sd_n (by assumption) (by omega)))), (by first | exact hSN.put hW hC hqr | exact hSN)⟩, by omega⟩
        try simp only [nq] at hc12
        refine CW.skipS ?_
        refine CW.seq ?_
        refine CW.reg ?_
        obtain ⟨hy1, he1⟩ := sd_y (xs := ins) (by omega : ¬ sdI ins p.1 (xa2.getD k (0, 0, 0, 0)).2.2.1 < 0); obtain ⟨hy2, he2⟩ := sd_y (xs := outs) (by omega : ¬ sdI outs p.2.1 (xa2.getD k (0, 0, 0, 0)).2.2.2 < 0); have hnx := nxt_y (ins := ins) (outs := outs) (p := p) (a := xa2.getD k (0, 0, 0, 0)) (by omega) hy1 hy2; have hqr := hpr.next (hva k (by omega)) hnx; have hq1 : 0 ≤ pasI p.1 (xa2.getD k (0, 0, 0, 0)).2.2.1 ∧ pasI p.1 (xa2.getD k (0, 0, 0, 0)).2.2.1 ≤ ins.length := hqr.1; have hq2 : 0 ≤ pasI p.2.1 (xa2.getD k (0, 0, 0, 0)).2.2.2 ∧ pasI p.2.1 (xa2.getD k (0, 0, 0, 0)).2.2.2 ≤ outs.length := hqr.2.1; have hq3 : 0 ≤ (xa2.getD k (0, 0, 0, 0)).2.1 ∧ (xa2.getD k (0, 0, 0, 0)).2.1 ≤ a0 - 1 := hqr.2.2; have hcq : 0 ≤ (xa2.getD k (0, 0, 0, 0)).2.1 * C + pasI p.1 (xa2.getD k (0, 0, 0, 0)).2.2.1 * W + pasI p.2.1 (xa2.getD k (0, 0, 0, 0)).2.2.2 ∧ (xa2.getD k (0, 0, 0, 0)).2.1 * C + pasI p.1 (xa2.getD k (0, 0, 0, 0)).2.2.1 * W + pasI p.2.1 (xa2.getD k (0, 0, 0, 0)).2.2.2 ≤ a0 * C - 1 := (cod_rng hW hC hqr).2; have hm1 := mul_rng (m := 8) (n := 169) (show 0 ≤ (xa2.getD k (0, 0, 0, 0)).2.1 ∧ (xa2.getD k (0, 0, 0, 0)).2.1 ≤ 8 by omega) (show 0 ≤ C ∧ C ≤ 169 by omega); have hm2 := mul_rng (m := 12) (n := 13) (show 0 ≤ pasI p.1 (xa2.getD k (0, 0, 0, 0)).2.2.1 ∧ pasI p.1 (xa2.getD k (0, 0, 0, 0)).2.2.1 ≤ 12 by omega) (show 0 ≤ W ∧ W ≤ 13 by omega); rw [he1, he2]; have hsq : sn.getD ((xa2.getD k (0, 0, 0, 0)).2.1 * C + pasI p.1 (xa2.getD k (0, 0, 0, 0)).2.2.1 * W + pasI p.2.1 (xa2.getD k (0, 0, 0, 0)).2.2.2).toNat false = decide (nxtP p (xa2.getD k (0, 0, 0, 0)) ∈ ps) := hSN.2 _ hqr
        refine WL.mv rfl rfl ?_
        refine WL.pure rfl rfl rfl (PV.nilCheck rfl) ?_
        refine WL.pure rfl rfl rfl ((by first | exact PV.fieldAddr T.fl178_1 rfl (by first | assumption | exact Bx.cells (by assumption)) | exact PV.fieldAddrP T.fl178_1 rfl rfl)) ?_
        refine WL.pure rfl rfl rfl ((by first | exact PV.load0 T.na2 rfl (by first | exact Cells.up (by assumption) hB | exact Bx.cells (by assumption) | assumption) (Ext.refl _) rfl | exact PV.load1 T.na2 rfl (by first | exact Cells.up (by assumption) hB | exact Bx.cells (by assumption) | assumption) (Ext.refl _) rfl)) ?_
        refine WL.mv rfl rfl ?_
        refine WL.pure rfl rfl rfl (PV.mul rfl rfl (by constructor <;> omega)) ?_
        refine WL.mv rfl rfl ?_
        refine WL.mv rfl rfl ?_
        refine WL.pure rfl rfl rfl (PV.mul rfl rfl (by constructor <;> omega)) ?_
        refine WL.pure rfl rfl rfl (PV.add rfl rfl (by constructor <;> omega)) ?_
        refine WL.mv rfl rfl ?_
        refine WL.pure rfl rfl rfl (PV.add rfl rfl (by constructor <;> omega)) ?_
        refine WL.asg rfl rfl ?_
        refine WL.nilS ?_
        refine CW.seq ?_
        refine CW.reg ?_
        refine WL.mv rfl rfl ?_
        refine WL.mv rfl rfl ?_
        first
          | refine WL.atO (x := .tmp 137) (y := .tmp 138) (f := VB) (false) rfl rfl ho1 (by first | omega | (simp only [List.length_set]; omega) | (simp only [List.length_append, List.length_take, List.length_replicate, List.length_drop]; omega)) (fun p9 hpp9 hcp9 => ?_)
          | refine WL.atOZ (x := .tmp 137) (y := .tmp 138) (f := VB) (false) rfl rfl ho1 (by first | omega | (simp only [List.length_set]; omega) | (simp only [List.length_append, List.length_take, List.length_replicate, List.length_drop]; omega)) (fun p9 hpp9 hzp9 hcp9 => ?_)
        refine WL.pure rfl rfl rfl ((by first | exact PV.indexAddr hpp9 rfl rfl T.sl62 | exact PV.indexAddr hpp9 rfl (by rw [← hzp9]; rfl) T.sl62)) ?_
        refine WL.pure rfl rfl rfl ((by first | exact PV.load0 T.na4 rfl (by first | exact Cells.up (by assumption) hB | exact Bx.cells (by assumption) | assumption) (Ext.refl _) rfl | exact PV.load1 T.na4 rfl (by first | exact Cells.up (by assumption) hB | exact Bx.cells (by assumption) | assumption) (Ext.refl _) rfl)) ?_
        rw [hsq]
        refine WL.pure rfl rfl rfl (PV.not rfl) ?_
        refine WL.nilS ?_
        refine CW.cond rfl (fun hc13 => ?_) (fun hc13 => ?_)
        · skip
          try simp only [nq] at hc13
          refine CW.seq ?_
          refine CW.reg ?_
          refine WL.mv rfl rfl ?_
          refine WL.mv rfl rfl ?_
          first
            | refine WL.atO (x := .tmp 142) (y := .tmp 143) (f := VB) (false) rfl rfl ho1 (by first | omega | (simp only [List.length_set]; omega) | (simp only [List.length_append, List.length_take, List.length_replicate, List.length_drop]; omega)) (fun p10 hpp10 hcp10 => ?_)
            | refine WL.atOZ (x := .tmp 142) (y := .tmp 143) (f := VB) (false) rfl rfl ho1 (by first | omega | (simp only [List.length_set]; omega) | (simp only [List.length_append, List.length_take, List.length_replicate, List.length_drop]; omega)) (fun p10 hpp10 hzp10 hcp10 => ?_)
          refine WL.pure rfl rfl rfl ((by first | exact PV.indexAddr hpp10 rfl rfl T.sl62 | exact PV.indexAddr hpp10 rfl (by rw [← hzp10]; rfl) T.sl62)) ?_
          refine WL.op rfl (OpK.storeS VB T.sz4 rfl rfl rfl hpp10 ho1 (fun w11 hXw11 ho1 => ?_))
          have hB := hB.updL hXw11 hl1
          have ho9 := ho9.updD hXw11 (Dj.symm hd1_9)
          have hU0 := hU0.step hXw11 hk0_1
          have hU1 := hU1.step hXw11 hk1_1
          refine WL.nilS ?_
          refine CW.reg ?_
          refine WL.mv rfl rfl ?_
          refine WL.mv rfl rfl ?_
          refine WL.op rfl (OpK.buildS VI (os := [.tmp 146]) [_] rfl T.sl241 rfl rfl T.zv3 rfl (by intro z hz; first | rfl | (simp only [List.mem_cons, List.not_mem_nil, or_false] at hz; subst hz; exact (by first | exact Rd.cells1 (by assumption) | exact Osl.cells1 (by assumption) | exact Osn.cells1 (by assumption) | exact Rd.cells1 (NL.rd (by assumption)) | exact Inn.cell1 (by assumption) (by omega) | assumption | rfl))) rfl (fun v11 g11 w12 hXw12 ho11 hge11 => ?_))
          have hl11 := Lo.new hB hge11
          have hd1_11 := Dj.new ho1.ltO hge11
          have hd9_11 := Dj.new ho9.ltO hge11
          have hk0_11 := OkN.new hU0 hge11
          have hg0_11 := OgR.new hU0.size hge11
          have hk1_11 := OkN.new hU1 hge11
          have hg1_11 := OgR.new hU1.size hge11
          have hB := hB.trans hXw12
          have ho1 := ho1.up hXw12
          have ho9 := ho9.up hXw12
          have hU0 := hU0.ext hXw12
          have hU1 := hU1.ext hXw12
          refine WL.op rfl (OpK.appendS (f := VI) rfl T.sl241 T.zv3 rfl rfl ho9 rfl (Osl.src ho11 (fun _ => rfl)) (by first | (simp only [List.length_cons, List.length_nil]; omega) | (simp only [List.length_map, List.length_cons, List.length_nil]; omega)) (fun v12 og12 w13 hXw13 ho12 hap12 => ?_))
          have hl12 := Lo.app hl9 hB hap12
          have hd1_12 := Dj.app hd1_9 ho1.ltO hap12
          have hd11_12 := Dj.app (Dj.symm hd9_11) ho11.ltO hap12
          have hk0_12 := OkN.app hU0 hk0_9 hap12
          have hg0_12 := OgR.app hg0_9 hU0.size hap12
          have hk1_12 := OkN.app hU1 hk1_9 hap12
          have hg1_12 := OgR.app hg1_9 hU1.size hap12
          have hB := hB.updL hXw13 hl9
          have ho1 := ho1.updD hXw13 hd1_9
          have ho11 := ho11.updD hXw13 (Dj.symm hd9_11)
          have hU0 := hU0.step hXw13 hk0_9
          have hU1 := hU1.step hXw13 hk1_9
          refine WL.asg rfl rfl ?_
          refine WL.nil ?_
          refine NQ.block ?_
          refine NQ.then ?_
          refine CW.reg ?_
          refine WL.pure rfl rfl rfl (PV.add rfl rfl (by constructor <;> omega)) ?_
          refine WL.mv rfl rfl ?_
          refine WL.nil ?_
          refine NQ.next (ρ := [(10, _), (88, _)]) ⟨rfl, rfl, rfl, rfl, rfl, rfl, rfl, rfl, rfl, rfl, rfl, rfl, rfl, trivial⟩ ?_
          exact ⟨_, ⟨v12, og12, k + 1, ps ++ [nxtP p (xa2.getD k z4)], _, rfl, rfl, hU1, osE ho12 (by first | rfl | (rw [List.map_append]; rfl)), (by first | exact hg1_12 | exact OgR.weak hg1_12), osE ho1 (by rfl), (by first | omega | assumption | (simp_all; done) | (simp_all; omega)), (by first | exact hBA.put (by omega) hnx (of_decide_eq_false (by assumption)) | exact hBA.put (by omega) hnx (by assumption) | exact hBA.old (by assumption) | exact hBA.no (by first | exact nxt_n1 (by assumption) | exact nxt_n2 (sd_n (by assumption) (by omega)) | exact nxt_n3 (sd_n (by assumption) (by omega)))), (by first | exact hSN.put hW hC hqr | exact hSN)⟩, by omega⟩
        try simp only [nq] at hc13
        refine CW.skip ?_
        refine NQ.block ?_
        refine NQ.then ?_
        refine CW.reg ?_
        refine WL.pure rfl rfl rfl (PV.add rfl rfl (by constructor <;> omega)) ?_
        refine WL.mv rfl rfl ?_
        refine WL.nil ?_
        refine NQ.next (ρ := [(10, _), (88, _)]) ⟨rfl, rfl, rfl, rfl, rfl, rfl, rfl, rfl, rfl, rfl, rfl, rfl, rfl, trivial⟩ ?_
        exact ⟨_, ⟨v9, og9, k + 1, _, _, rfl, rfl, hU1, osE ho9 (by first | rfl | (rw [List.map_append]; rfl)), (by first | exact hg1_9 | exact OgR.weak hg1_9), osE ho1 (by rfl), (by first | omega | assumption | (simp_all; done) | (simp_all; omega)), (by first | exact hBA.put (by omega) hnx (of_decide_eq_false (by assumption)) | exact hBA.put (by omega) hnx (by assumption) | exact hBA.old (by assumption) | exact hBA.no (by first | exact nxt_n1 (by assumption) | exact nxt_n2 (sd_n (by assumption) (by omega)) | exact nxt_n3 (sd_n (by assumption) (by omega)))), (by first | exact hSN.put hW hC hqr | exact hSN)⟩, by omega⟩
      try simp only [nq] at hc9
      refine CW.exit ?_
      refine XQ.then ?_
      refine XQ.then ?_
      refine XQ.here ?_
      refine NQ.block ?_
      refine NQ.then ?_
      refine CW.reg ?_
      refine WL.mv rfl rfl ?_
      refine WL.pure rfl rfl rfl (PV.add rfl rfl (by constructor <;> omega)) ?_
      refine WL.asg rfl rfl ?_
      refine WL.nil ?_
      refine NQ.next (ρ := [(10, _), (11, _)]) ⟨rfl, rfl, rfl, rfl, rfl, rfl, rfl, rfl, trivial⟩ ?_
      exact ⟨_, ⟨v9, og9, at_ + 1, _, _, rfl, rfl, hU0, osE ho9 (by rfl), (by first | exact hg0_9 | exact OgR.weak hg0_9), osE ho1 (by rfl), (by exact hBA.done (by omega)), (by exact hSN)⟩, by (have := hBA.lt; omega)⟩
    try simp only [nq] at hc8
    refine WL.pureG rfl rfl rfl rfl rfl (PV.move rfl) ?_
    refine WL.pureG rfl rfl rfl rfl rfl (PV.nilCheck rfl) ?_
    refine WL.pureG rfl rfl rfl rfl rfl ((by first | exact PV.fieldAddr T.fl88_3 rfl (by first | assumption | exact Bx.cells (by assumption)) | exact PV.fieldAddrP T.fl88_3 rfl rfl)) ?_
    refine WL.pureG rfl rfl rfl rfl rfl ((by first | exact PV.load0 T.na62 rfl (by first | exact Cells.up (by assumption) hB | exact Bx.cells (by assumption) | assumption) (Ext.refl _) rfl | exact PV.load1 T.na62 rfl (by first | exact Cells.up (by assumption) hB | exact Bx.cells (by assumption) | assumption) (Ext.refl _) rfl)) ?_
    refine WL.pureG rfl rfl rfl rfl rfl (PV.move rfl) ?_
    first
      | refine WL.at (x := .tmp 78) (y := .tmp 79) (E := EB) (false) rfl rfl (by first | assumption | exact Inn.rd (by assumption) (by omega)) (by first | omega | (simp only [List.length_set]; omega) | (simp only [List.length_append, List.length_take, List.length_replicate, List.length_drop]; omega)) (fun p11 csp11 hpp11 hcp11 hq => ?_)
      | refine WL.atZ (x := .tmp 78) (y := .tmp 79) (E := EB) (false) rfl rfl (by first | assumption | exact Inn.rd (by assumption) (by omega)) (by first | omega | (simp only [List.length_set]; omega) | (simp only [List.length_append, List.length_take, List.length_replicate, List.length_drop]; omega)) (fun p11 csp11 hpp11 hzp11 hcp11 hq => ?_)
    cases hq
    refine WL.pureG rfl rfl rfl rfl rfl ((by first | exact PV.indexAddr hpp11 rfl rfl T.sl62 | exact PV.indexAddr hpp11 rfl (by rw [← hzp11]; rfl) T.sl62)) ?_
    refine WL.pureG rfl rfl rfl rfl rfl ((by first | exact PV.load0 T.na4 rfl (by first | exact Cells.up (by assumption) hB | exact Bx.cells (by assumption) | assumption) (Ext.refl _) rfl | exact PV.load1 T.na4 rfl (by first | exact Cells.up (by assumption) hB | exact Bx.cells (by assumption) | assumption) (Ext.refl _) rfl)) ?_
    refine WL.pure rfl rfl rfl (PV.pickT rfl rfl) ?_
    refine WL.nilS ?_
    refine CW.cond rfl (fun hc14 => ?_) (fun hc14 => ?_)
    · skip
      try simp only [nq] at hc14
      refine CW.seq ?_
      refine CW.reg ?_
      refine WL.asg rfl rfl ?_
      refine WL.nilS ?_
      refine CW.ret ?_
      refine RQ.then ?_
      refine RQ.block ?_
      refine RQ.then ?_
      refine RQ.then ?_
      refine RQ.block ?_
      refine RQ.then ?_
      refine RQ.r1 rfl ?_
      refine ⟨?_, hB⟩
      first | exact bE (hBI.found (by omega) (by rw [hp]; exact (fin_y (by assumption) (by assumption) (by assumption)))) | exact bE (hBI.fail (by omega))
    try simp only [nq] at hc14
    refine CW.skipS ?_
    refine CW.seq ?_
    refine CW.reg ?_
    refine WL.mv rfl rfl ?_
    refine WL.pure rfl rfl rfl (PV.nilCheck rfl) ?_
    refine WL.pure rfl rfl rfl ((by first | exact PV.fieldAddr T.fl88_2 rfl (by first | assumption | exact Bx.cells (by assumption)) | exact PV.fieldAddrP T.fl88_2 rfl rfl)) ?_
    refine WL.pure rfl rfl rfl ((by first | exact PV.load0 T.na86 rfl (by first | exact Cells.up (by assumption) hB | exact Bx.cells (by assumption) | assumption) (Ext.refl _) rfl | exact PV.load1 T.na86 rfl (by first | exact Cells.up (by assumption) hB | exact Bx.cells (by assumption) | assumption) (Ext.refl _) rfl)) ?_
    refine WL.pure rfl rfl rfl ((by first | exact PV.len rfl (by assumption) T.sl86 | exact PV.lenOs rfl (by assumption) T.sl86 | exact PV.len rfl (NL.rd (by assumption)) T.sl86 | exact PV.len rfl (Inn.rd (by assumption) (by omega)) T.sl86)) ?_
    refine WL.mv rfl rfl ?_
    refine WL.nilS ?_
    refine CW.block ?_
    have hlt1 := ho1.ltO
    have hlt3 := ho3.ltO
    refine CW.loop (σk := [(0, _), (1, _), (2, _), (7, _), (8, _), (9, _), (11, _), (12, _), (13, _), (14, _), (87, _)]) (fun ρ wz m => ∃ (v13 : Value) (og13 : Option Nat) (k : Nat) (ps : List P3) (sn : List Bool), ρ = [(10, v13), (88, .int .i64 (k : Nat))] ∧ m = xa2.length - k ∧ UpdL [og3, (some g1)] wl1 wz ∧ Osl VI wz og13 v13 (ps.map (codP W C)) ∧ OgR wl1 og3 og13 ∧ Osl VB wz (some g1) v1 (sn) ∧ (k ≤ xa2.length) ∧ (BA xa2 ins outs xa3 at_ p k ps) ∧ (SN ins outs a0 W C sn ps)) (ρ₀ := [(10, _), (88, _)]) (m₀ := _) ⟨rfl, rfl, rfl, rfl, rfl, rfl, rfl, rfl, rfl, rfl, rfl, rfl, rfl, trivial⟩ ⟨v3, og3, 0, _, _, rfl, rfl, (UpdL.refl _ _), osE ho3 (by rfl), OgR.refl _ _, osE ho1 (by rfl), (by first | omega | rfl | (simp; done) | assumption | (simp_all; done)), (by exact hBI.arc (by omega) hp (by first | exact fin_n1 (by assumption) | exact fin_n2 (by assumption) | exact fin_n3 (by assumption))), (by exact hSN)⟩ ?_
    rintro _ wl4 _ ⟨v13, og13, k, ps, sn, rfl, rfl, hU1, ho13, ha13, ho1, hk, hBA, hSN⟩
    have hU0 := hU0.trans hU1 ⟨hk0_3, hk0_1, trivial⟩
    have hl13 := Lo.ogr hl3 hB ha13
    have hg1_13 := ha13
    have hk1_13 : OkB [og3, (some g1)] wl1 og13 := OkB.ogr (OkB.mem (by simp)) (Nat.le_refl _) ha13
    have hk0_13 := OkB.ogr hk0_3 (by first | assumption | exact UpdL.size (by assumption)) ha13
    have hg0_13 := OgR.trans hg0_3 (by first | assumption | exact UpdL.size (by assumption)) ha13
    have hd1_13 := Dj.ogr hd1_3 hlt1 ha13
    have hk1_1 : OkB [og3, (some g1)] wl1 (some g1) := OkB.mem (by simp)
    have hB := hB.loop hU1 ⟨hl3, hl1, trivial⟩
    have hsm := hBA.bi.small hv hi12 ho12; have hsl := hSN.1
    refine CW.seq ?_
    refine CW.reg ?_
    refine WL.pure rfl rfl rfl (PV.lss rfl rfl) ?_
    refine WL.nilS ?_
    refine CW.seq ?_
    refine CW.cond rfl (fun hc15 => ?_) (fun hc15 => ?_)
    · skip
      try simp only [nq] at hc15
      refine CW.skipS ?_
      refine CW.seq ?_
      refine CW.block ?_
      refine CW.seq ?_
      refine CW.reg ?_
      refine WL.mv rfl rfl ?_
      refine WL.asg rfl rfl ?_
      refine WL.nilS ?_
      refine CW.seq ?_
      refine CW.reg ?_
      refine WL.mv rfl rfl ?_
      refine WL.pure rfl rfl rfl (PV.nilCheck rfl) ?_
      refine WL.pure rfl rfl rfl ((by first | exact PV.fieldAddr T.fl88_2 rfl (by first | assumption | exact Bx.cells (by assumption)) | exact PV.fieldAddrP T.fl88_2 rfl rfl)) ?_
      refine WL.pure rfl rfl rfl ((by first | exact PV.load0 T.na86 rfl (by first | exact Cells.up (by assumption) hB | exact Bx.cells (by assumption) | assumption) (Ext.refl _) rfl | exact PV.load1 T.na86 rfl (by first | exact Cells.up (by assumption) hB | exact Bx.cells (by assumption) | assumption) (Ext.refl _) rfl)) ?_
      refine WL.mv rfl rfl ?_
      first
        | refine WL.at (x := .tmp 94) (y := .tmp 95) (E := ER) ((0, 0, 0, 0)) rfl rfl (by first | assumption | exact Inn.rd (by assumption) (by omega)) (by first | omega | (simp only [List.length_set]; omega) | (simp only [List.length_append, List.length_take, List.length_replicate, List.length_drop]; omega)) (fun p12 csp12 hpp12 hcp12 hq => ?_)
        | refine WL.atZ (x := .tmp 94) (y := .tmp 95) (E := ER) ((0, 0, 0, 0)) rfl rfl (by first | assumption | exact Inn.rd (by assumption) (by omega)) (by first | omega | (simp only [List.length_set]; omega) | (simp only [List.length_append, List.length_take, List.length_replicate, List.length_drop]; omega)) (fun p12 csp12 hpp12 hzp12 hcp12 hq => ?_)
      cases hq
      refine WL.pure rfl rfl rfl ((by first | exact PV.indexAddr hpp12 rfl rfl T.sl86 | exact PV.indexAddr hpp12 rfl (by rw [← hzp12]; rfl) T.sl86)) ?_
      refine WL.asg rfl rfl ?_
      refine WL.nilS ?_
      refine CW.seq ?_
      refine CW.reg ?_
      refine WL.mv rfl rfl ?_
      refine WL.mv rfl rfl ?_
      refine WL.mv rfl rfl ?_
      refine WL.pure rfl rfl rfl (PV.nilCheck rfl) ?_
      refine WL.pure rfl rfl rfl ((by first | exact PV.fieldAddr T.fl178_2 rfl (by first | assumption | exact Bx.cells (by assumption)) | exact PV.fieldAddrP T.fl178_2 rfl rfl)) ?_
      refine WL.pure rfl rfl rfl ((by first | exact PV.load0 T.na2 rfl (by first | exact Cells.up (by assumption) hB | exact Bx.cells (by assumption) | assumption) (Ext.refl _) rfl | exact PV.load1 T.na2 rfl (by first | exact Cells.up (by assumption) hB | exact Bx.cells (by assumption) | assumption) (Ext.refl _) rfl)) ?_
      refine WL.op rfl (OpK.callR rfl T.cf209 rfl (c_spec_l05Side (by first | assumption | exact Rd.up (by assumption) hB | exact Osl.rd (by assumption) | exact Osn.rdR (by assumption) | exact NL.rd (by assumption) | exact rdII (by assumption) (by assumption) | exact Inn.rd (by assumption) (by omega)) (by first | assumption | omega | (simp only [marks_len, marksB_len, marksR_len, sumL_marksS]; omega))) (fun w14 hXw14 => ?_))
      have hB := hB.trans hXw14
      have ho1 := ho1.up hXw14
      have ho13 := ho13.up hXw14
      have hU0 := hU0.ext hXw14
      have hU1 := hU1.ext hXw14
      refine WL.asg rfl rfl ?_
      refine WL.nilS ?_
      refine CW.seq ?_
      refine CW.reg ?_
      refine WL.mv rfl rfl ?_
      refine WL.mv rfl rfl ?_
      refine WL.mv rfl rfl ?_
      refine WL.pure rfl rfl rfl (PV.nilCheck rfl) ?_
      refine WL.pure rfl rfl rfl ((by first | exact PV.fieldAddr T.fl178_3 rfl (by first | assumption | exact Bx.cells (by assumption)) | exact PV.fieldAddrP T.fl178_3 rfl rfl)) ?_
      refine WL.pure rfl rfl rfl ((by first | exact PV.load0 T.na2 rfl (by first | exact Cells.up (by assumption) hB | exact Bx.cells (by assumption) | assumption) (Ext.refl _) rfl | exact PV.load1 T.na2 rfl (by first | exact Cells.up (by assumption) hB | exact Bx.cells (by assumption) | assumption) (Ext.refl _) rfl)) ?_
      refine WL.op rfl (OpK.callR rfl T.cf209 rfl (c_spec_l05Side (by first | assumption | exact Rd.up (by assumption) hB | exact Osl.rd (by assumption) | exact Osn.rdR (by assumption) | exact NL.rd (by assumption) | exact rdII (by assumption) (by assumption) | exact Inn.rd (by assumption) (by omega)) (by first | assumption | omega | (simp only [marks_len, marksB_len, marksR_len, sumL_marksS]; omega))) (fun w15 hXw15 => ?_))
      have hB := hB.trans hXw15
      have ho1 := ho1.up hXw15
      have ho13 := ho13.up hXw15
      have hU0 := hU0.ext hXw15
      have hU1 := hU1.ext hXw15
      refine WL.asg rfl rfl ?_
      refine WL.nilS ?_
      refine CW.seq ?_
      refine CW.seq ?_
      refine CW.reg ?_
      refine WL.mv rfl rfl ?_
      refine WL.pure rfl rfl rfl (PV.nilCheck rfl) ?_
      refine WL.pure rfl rfl rfl ((by first | exact PV.fieldAddr T.fl178_0 rfl (by first | assumption | exact Bx.cells (by assumption)) | exact PV.fieldAddrP T.fl178_0 rfl rfl)) ?_
      refine WL.pure rfl rfl rfl ((by first | exact PV.load0 T.na2 rfl (by first | exact Cells.up (by assumption) hB | exact Bx.cells (by assumption) | assumption) (Ext.refl _) rfl | exact PV.load1 T.na2 rfl (by first | exact Cells.up (by assumption) hB | exact Bx.cells (by assumption) | assumption) (Ext.refl _) rfl)) ?_
      refine WL.mv rfl rfl ?_
      refine WL.pure rfl rfl rfl (PV.neq rfl rfl) ?_
      refine WL.mv rfl rfl ?_
      refine WL.split (t := 117) rfl (fun hc16 => ?_) (fun hc16 => ?_)
      · skip
        try simp only [nq] at hc16
        refine WL.skip rfl rfl rfl rfl rfl ?_
        refine WL.skip rfl rfl rfl rfl rfl ?_
        refine WL.pure rfl rfl rfl (PV.pickT rfl rfl) ?_
        refine WL.mv rfl rfl ?_
        refine WL.skip rfl rfl rfl rfl rfl ?_
        refine WL.skip rfl rfl rfl rfl rfl ?_
        refine WL.pure rfl rfl rfl (PV.pickT rfl rfl) ?_
        refine WL.nilS ?_
        refine CW.condT rfl ?_
        refine CW.exit ?_
        refine XQ.then ?_
        refine XQ.here ?_
        refine NQ.then ?_
        refine CW.reg ?_
        refine WL.pure rfl rfl rfl (PV.add rfl rfl (by constructor <;> omega)) ?_
        refine WL.mv rfl rfl ?_
        refine WL.nil ?_
        refine NQ.next (ρ := [(10, _), (88, _)]) ⟨rfl, rfl, rfl, rfl, rfl, rfl, rfl, rfl, rfl, rfl, rfl, rfl, rfl, trivial⟩ ?_
        exact ⟨_, ⟨v13, og13, k + 1, _, _, rfl, rfl, hU1, osE ho13 (by first | rfl | (rw [List.map_append]; rfl)), (by first | exact hg1_13 | exact OgR.weak hg1_13), osE ho1 (by rfl), (by first | omega | assumption | (simp_all; done) | (simp_all; omega)), (by first | exact hBA.put (by omega) hnx (of_decide_eq_false (by assumption)) | exact hBA.put (by omega) hnx (by assumption) | exact hBA.old (by assumption) | exact hBA.no (by first | exact nxt_n1 (by assumption) | exact nxt_n2 (sd_n (by assumption) (by omega)) | exact nxt_n3 (sd_n (by assumption) (by omega)))), (by first | exact hSN.put hW hC hqr | exact hSN)⟩, by omega⟩
      try simp only [nq] at hc16
      refine WL.pureG rfl rfl rfl rfl rfl (PV.move rfl) ?_
      refine WL.pureG rfl rfl rfl rfl rfl (PV.lss rfl rfl) ?_
      refine WL.pure rfl rfl rfl (PV.pickF rfl rfl) ?_
      refine WL.mv rfl rfl ?_
      refine WL.split (t := 121) rfl (fun hc17 => ?_) (fun hc17 => ?_)
      · skip
        try simp only [nq] at hc17
        refine WL.skip rfl rfl rfl rfl rfl ?_
        refine WL.skip rfl rfl rfl rfl rfl ?_
        refine WL.pure rfl rfl rfl (PV.pickT rfl rfl) ?_
        refine WL.nilS ?_
        refine CW.condT rfl ?_
        refine CW.exit ?_
        refine XQ.then ?_
        refine XQ.here ?_
        refine NQ.then ?_
        refine CW.reg ?_
        refine WL.pure rfl rfl rfl (PV.add rfl rfl (by constructor <;> omega)) ?_
        refine WL.mv rfl rfl ?_
        refine WL.nil ?_
        refine NQ.next (ρ := [(10, _), (88, _)]) ⟨rfl, rfl, rfl, rfl, rfl, rfl, rfl, rfl, rfl, rfl, rfl, rfl, rfl, trivial⟩ ?_
        exact ⟨_, ⟨v13, og13, k + 1, _, _, rfl, rfl, hU1, osE ho13 (by first | rfl | (rw [List.map_append]; rfl)), (by first | exact hg1_13 | exact OgR.weak hg1_13), osE ho1 (by rfl), (by first | omega | assumption | (simp_all; done) | (simp_all; omega)), (by first | exact hBA.put (by omega) hnx (of_decide_eq_false (by assumption)) | exact hBA.put (by omega) hnx (by assumption) | exact hBA.old (by assumption) | exact hBA.no (by first | exact nxt_n1 (by assumption) | exact nxt_n2 (sd_n (by assumption) (by omega)) | exact nxt_n3 (sd_n (by assumption) (by omega)))), (by first | exact hSN.put hW hC hqr | exact hSN)⟩, by omega⟩
      try simp only [nq] at hc17
      refine WL.pureG rfl rfl rfl rfl rfl (PV.move rfl) ?_
      refine WL.pureG rfl rfl rfl rfl rfl (PV.lss rfl rfl) ?_
      refine WL.pure rfl rfl rfl (PV.pickF rfl rfl) ?_
      refine WL.nilS ?_
      refine CW.cond rfl (fun hc18 => ?_) (fun hc18 => ?_)
      · skip
        try simp only [nq] at hc18
        refine CW.exit ?_
        refine XQ.then ?_
        refine XQ.here ?_
        refine NQ.then ?_
        refine CW.reg ?_
        refine WL.pure rfl rfl rfl (PV.add rfl rfl (by constructor <;> omega)) ?_
        refine WL.mv rfl rfl ?_
        refine WL.nil ?_
        refine NQ.next (ρ := [(10, _), (88, _)]) ⟨rfl, rfl, rfl, rfl, rfl, rfl, rfl, rfl, rfl, rfl, rfl, rfl, rfl, trivial⟩ ?_
        exact ⟨_, ⟨v13, og13, k + 1, _, _, rfl, rfl, hU1, osE ho13 (by first | rfl | (rw [List.map_append]; rfl)), (by first | exact hg1_13 | exact OgR.weak hg1_13), osE ho1 (by rfl), (by first | omega | assumption | (simp_all; done) | (simp_all; omega)), (by first | exact hBA.put (by omega) hnx (of_decide_eq_false (by assumption)) | exact hBA.put (by omega) hnx (by assumption) | exact hBA.old (by assumption) | exact hBA.no (by first | exact nxt_n1 (by assumption) | exact nxt_n2 (sd_n (by assumption) (by omega)) | exact nxt_n3 (sd_n (by assumption) (by omega)))), (by first | exact hSN.put hW hC hqr | exact hSN)⟩, by omega⟩
      try simp only [nq] at hc18
      refine CW.skipS ?_
      refine CW.seq ?_
      refine CW.reg ?_
      obtain ⟨hy1, he1⟩ := sd_y (xs := ins) (by omega : ¬ sdI ins p.1 (xa2.getD k (0, 0, 0, 0)).2.2.1 < 0); obtain ⟨hy2, he2⟩ := sd_y (xs := outs) (by omega : ¬ sdI outs p.2.1 (xa2.getD k (0, 0, 0, 0)).2.2.2 < 0); have hnx := nxt_y (ins := ins) (outs := outs) (p := p) (a := xa2.getD k (0, 0, 0, 0)) (by omega) hy1 hy2; have hqr := hpr.next (hva k (by omega)) hnx; have hq1 : 0 ≤ pasI p.1 (xa2.getD k (0, 0, 0, 0)).2.2.1 ∧ pasI p.1 (xa2.getD k (0, 0, 0, 0)).2.2.1 ≤ ins.length := hqr.1; have hq2 : 0 ≤ pasI p.2.1 (xa2.getD k (0, 0, 0, 0)).2.2.2 ∧ pasI p.2.1 (xa2.getD k (0, 0, 0, 0)).2.2.2 ≤ outs.length := hqr.2.1; have hq3 : 0 ≤ (xa2.getD k (0, 0, 0, 0)).2.1 ∧ (xa2.getD k (0, 0, 0, 0)).2.1 ≤ a0 - 1 := hqr.2.2; have hcq : 0 ≤ (xa2.getD k (0, 0, 0, 0)).2.1 * C + pasI p.1 (xa2.getD k (0, 0, 0, 0)).2.2.1 * W + pasI p.2.1 (xa2.getD k (0, 0, 0, 0)).2.2.2 ∧ (xa2.getD k (0, 0, 0, 0)).2.1 * C + pasI p.1 (xa2.getD k (0, 0, 0, 0)).2.2.1 * W + pasI p.2.1 (xa2.getD k (0, 0, 0, 0)).2.2.2 ≤ a0 * C - 1 := (cod_rng hW hC hqr).2; have hm1 := mul_rng (m := 8) (n := 169) (show 0 ≤ (xa2.getD k (0, 0, 0, 0)).2.1 ∧ (xa2.getD k (0, 0, 0, 0)).2.1 ≤ 8 by omega) (show 0 ≤ C ∧ C ≤ 169 by omega); have hm2 := mul_rng (m := 12) (n := 13) (show 0 ≤ pasI p.1 (xa2.getD k (0, 0, 0, 0)).2.2.1 ∧ pasI p.1 (xa2.getD k (0, 0, 0, 0)).2.2.1 ≤ 12 by omega) (show 0 ≤ W ∧ W ≤ 13 by omega); rw [he1, he2]; have hsq : sn.getD ((xa2.getD k (0, 0, 0, 0)).2.1 * C + pasI p.1 (xa2.getD k (0, 0, 0, 0)).2.2.1 * W + pasI p.2.1 (xa2.getD k (0, 0, 0, 0)).2.2.2).toNat false = decide (nxtP p (xa2.getD k (0, 0, 0, 0)) ∈ ps) := hSN.2 _ hqr
      refine WL.mv rfl rfl ?_
      refine WL.pure rfl rfl rfl (PV.nilCheck rfl) ?_
      refine WL.pure rfl rfl rfl ((by first | exact PV.fieldAddr T.fl178_1 rfl (by first | assumption | exact Bx.cells (by assumption)) | exact PV.fieldAddrP T.fl178_1 rfl rfl)) ?_
      refine WL.pure rfl rfl rfl ((by first | exact PV.load0 T.na2 rfl (by first | exact Cells.up (by assumption) hB | exact Bx.cells (by assumption) | assumption) (Ext.refl _) rfl | exact PV.load1 T.na2 rfl (by first | exact Cells.up (by assumption) hB | exact Bx.cells (by assumption) | assumption) (Ext.refl _) rfl)) ?_
      refine WL.mv rfl rfl ?_
      refine WL.pure rfl rfl rfl (PV.mul rfl rfl (by constructor <;> omega)) ?_
      refine WL.mv rfl rfl ?_
      refine WL.mv rfl rfl ?_
      refine WL.pure rfl rfl rfl (PV.mul rfl rfl (by constructor <;> omega)) ?_
      refine WL.pure rfl rfl rfl (PV.add rfl rfl (by constructor <;> omega)) ?_
      refine WL.mv rfl rfl ?_
      refine WL.pure rfl rfl rfl (PV.add rfl rfl (by constructor <;> omega)) ?_
      refine WL.asg rfl rfl ?_
      refine WL.nilS ?_
      refine CW.seq ?_
      refine CW.reg ?_
      refine WL.mv rfl rfl ?_
      refine WL.mv rfl rfl ?_
      first
        | refine WL.atO (x := .tmp 137) (y := .tmp 138) (f := VB) (false) rfl rfl ho1 (by first | omega | (simp only [List.length_set]; omega) | (simp only [List.length_append, List.length_take, List.length_replicate, List.length_drop]; omega)) (fun p13 hpp13 hcp13 => ?_)
        | refine WL.atOZ (x := .tmp 137) (y := .tmp 138) (f := VB) (false) rfl rfl ho1 (by first | omega | (simp only [List.length_set]; omega) | (simp only [List.length_append, List.length_take, List.length_replicate, List.length_drop]; omega)) (fun p13 hpp13 hzp13 hcp13 => ?_)
      refine WL.pure rfl rfl rfl ((by first | exact PV.indexAddr hpp13 rfl rfl T.sl62 | exact PV.indexAddr hpp13 rfl (by rw [← hzp13]; rfl) T.sl62)) ?_
      refine WL.pure rfl rfl rfl ((by first | exact PV.load0 T.na4 rfl (by first | exact Cells.up (by assumption) hB | exact Bx.cells (by assumption) | assumption) (Ext.refl _) rfl | exact PV.load1 T.na4 rfl (by first | exact Cells.up (by assumption) hB | exact Bx.cells (by assumption) | assumption) (Ext.refl _) rfl)) ?_
      rw [hsq]
      refine WL.pure rfl rfl rfl (PV.not rfl) ?_
      refine WL.nilS ?_
      refine CW.cond rfl (fun hc19 => ?_) (fun hc19 => ?_)
      · skip
        try simp only [nq] at hc19
        refine CW.seq ?_
        refine CW.reg ?_
        refine WL.mv rfl rfl ?_
        refine WL.mv rfl rfl ?_
        first
          | refine WL.atO (x := .tmp 142) (y := .tmp 143) (f := VB) (false) rfl rfl ho1 (by first | omega | (simp only [List.length_set]; omega) | (simp only [List.length_append, List.length_take, List.length_replicate, List.length_drop]; omega)) (fun p14 hpp14 hcp14 => ?_)
          | refine WL.atOZ (x := .tmp 142) (y := .tmp 143) (f := VB) (false) rfl rfl ho1 (by first | omega | (simp only [List.length_set]; omega) | (simp only [List.length_append, List.length_take, List.length_replicate, List.length_drop]; omega)) (fun p14 hpp14 hzp14 hcp14 => ?_)
        refine WL.pure rfl rfl rfl ((by first | exact PV.indexAddr hpp14 rfl rfl T.sl62 | exact PV.indexAddr hpp14 rfl (by rw [← hzp14]; rfl) T.sl62)) ?_
        refine WL.op rfl (OpK.storeS VB T.sz4 rfl rfl rfl hpp14 ho1 (fun w16 hXw16 ho1 => ?_))
        have hB := hB.updL hXw16 hl1
        have ho13 := ho13.updD hXw16 (Dj.symm hd1_13)
        have hU0 := hU0.step hXw16 hk0_1
        have hU1 := hU1.step hXw16 hk1_1
        refine WL.nilS ?_
        refine CW.reg ?_
        refine WL.mv rfl rfl ?_
        refine WL.mv rfl rfl ?_
        refine WL.op rfl (OpK.buildS VI (os := [.tmp 146]) [_] rfl T.sl241 rfl rfl T.zv3 rfl (by intro z hz; first | rfl | (simp only [List.mem_cons, List.not_mem_nil, or_false] at hz; subst hz; exact (by first | exact Rd.cells1 (by assumption) | exact Osl.cells1 (by assumption) | exact Osn.cells1 (by assumption) | exact Rd.cells1 (NL.rd (by assumption)) | exact Inn.cell1 (by assumption) (by omega) | assumption | rfl))) rfl (fun v15 g15 w17 hXw17 ho15 hge15 => ?_))
        have hl15 := Lo.new hB hge15
        have hd1_15 := Dj.new ho1.ltO hge15
        have hd13_15 := Dj.new ho13.ltO hge15
        have hk0_15 := OkN.new hU0 hge15
        have hg0_15 := OgR.new hU0.size hge15
        have hk1_15 := OkN.new hU1 hge15
        have hg1_15 := OgR.new hU1.size hge15
        have hB := hB.trans hXw17
        have ho1 := ho1.up hXw17
        have ho13 := ho13.up hXw17
        have hU0 := hU0.ext hXw17
        have hU1 := hU1.ext hXw17
        refine WL.op rfl (OpK.appendS (f := VI) rfl T.sl241 T.zv3 rfl rfl ho13 rfl (Osl.src ho15 (fun _ => rfl)) (by first | (simp only [List.length_cons, List.length_nil]; omega) | (simp only [List.length_map, List.length_cons, List.length_nil]; omega)) (fun v16 og16 w18 hXw18 ho16 hap16 => ?_))
        have hl16 := Lo.app hl13 hB hap16
        have hd1_16 := Dj.app hd1_13 ho1.ltO hap16
        have hd15_16 := Dj.app (Dj.symm hd13_15) ho15.ltO hap16
        have hk0_16 := OkN.app hU0 hk0_13 hap16
        have hg0_16 := OgR.app hg0_13 hU0.size hap16
        have hk1_16 := OkN.app hU1 hk1_13 hap16
        have hg1_16 := OgR.app hg1_13 hU1.size hap16
        have hB := hB.updL hXw18 hl13
        have ho1 := ho1.updD hXw18 hd1_13
        have ho15 := ho15.updD hXw18 (Dj.symm hd13_15)
        have hU0 := hU0.step hXw18 hk0_13
        have hU1 := hU1.step hXw18 hk1_13
        refine WL.asg rfl rfl ?_
        refine WL.nil ?_
        refine NQ.block ?_
        refine NQ.then ?_
        refine CW.reg ?_
        refine WL.pure rfl rfl rfl (PV.add rfl rfl (by constructor <;> omega)) ?_
        refine WL.mv rfl rfl ?_
        refine WL.nil ?_
        refine NQ.next (ρ := [(10, _), (88, _)]) ⟨rfl, rfl, rfl, rfl, rfl, rfl, rfl, rfl, rfl, rfl, rfl, rfl, rfl, trivial⟩ ?_
        exact ⟨_, ⟨v16, og16, k + 1, ps ++ [nxtP p (xa2.getD k z4)], _, rfl, rfl, hU1, osE ho16 (by first | rfl | (rw [List.map_append]; rfl)), (by first | exact hg1_16 | exact OgR.weak hg1_16), osE ho1 (by rfl), (by first | omega | assumption | (simp_all; done) | (simp_all; omega)), (by first | exact hBA.put (by omega) hnx (of_decide_eq_false (by assumption)) | exact hBA.put (by omega) hnx (by assumption) | exact hBA.old (by assumption) | exact hBA.no (by first | exact nxt_n1 (by assumption) | exact nxt_n2 (sd_n (by assumption) (by omega)) | exact nxt_n3 (sd_n (by assumption) (by omega)))), (by first | exact hSN.put hW hC hqr | exact hSN)⟩, by omega⟩
      try simp only [nq] at hc19
      refine CW.skip ?_
      refine NQ.block ?_
      refine NQ.then ?_
      refine CW.reg ?_
      refine WL.pure rfl rfl rfl (PV.add rfl rfl (by constructor <;> omega)) ?_
      refine WL.mv rfl rfl ?_
      refine WL.nil ?_
      refine NQ.next (ρ := [(10, _), (88, _)]) ⟨rfl, rfl, rfl, rfl, rfl, rfl, rfl, rfl, rfl, rfl, rfl, rfl, rfl, trivial⟩ ?_
      exact ⟨_, ⟨v13, og13, k + 1, _, _, rfl, rfl, hU1, osE ho13 (by first | rfl | (rw [List.map_append]; rfl)), (by first | exact hg1_13 | exact OgR.weak hg1_13), osE ho1 (by rfl), (by first | omega | assumption | (simp_all; done) | (simp_all; omega)), (by first | exact hBA.put (by omega) hnx (of_decide_eq_false (by assumption)) | exact hBA.put (by omega) hnx (by assumption) | exact hBA.old (by assumption) | exact hBA.no (by first | exact nxt_n1 (by assumption) | exact nxt_n2 (sd_n (by assumption) (by omega)) | exact nxt_n3 (sd_n (by assumption) (by omega)))), (by first | exact hSN.put hW hC hqr | exact hSN)⟩, by omega⟩
    try simp only [nq] at hc15
    refine CW.exit ?_
    refine XQ.then ?_
    refine XQ.then ?_
    refine XQ.here ?_
    refine NQ.block ?_
    refine NQ.then ?_
    refine CW.reg ?_
    refine WL.mv rfl rfl ?_
    refine WL.pure rfl rfl rfl (PV.add rfl rfl (by constructor <;> omega)) ?_
    refine WL.asg rfl rfl ?_
    refine WL.nil ?_
    refine NQ.next (ρ := [(10, _), (11, _)]) ⟨rfl, rfl, rfl, rfl, rfl, rfl, rfl, rfl, trivial⟩ ?_
    exact ⟨_, ⟨v13, og13, at_ + 1, _, _, rfl, rfl, hU0, osE ho13 (by rfl), (by first | exact hg0_13 | exact OgR.weak hg0_13), osE ho1 (by rfl), (by exact hBA.done (by omega)), (by exact hSN)⟩, by (have := hBA.lt; omega)⟩
  try simp only [nq] at hc1
  refine CW.exit ?_
  refine XQ.then ?_
  refine XQ.then ?_
  refine XQ.here ?_
  refine NQ.then ?_
  refine CW.seq ?_
  refine CW.reg ?_
  refine WL.asg rfl rfl ?_
  refine WL.nilS ?_
  refine CW.ret ?_
  refine RQ.r1 rfl ?_
  refine ⟨?_, hB⟩
  first | exact bE (hBI.found (by omega) (by rw [hp]; exact (fin_y (by assumption) (by assumption) (by assumption)))) | exact bE (hBI.fail (by omega))
theorem c_spec_OutputsOf {w : World} {a0 : Int} {a1 : Int} {va2 : Value} {xa2 : List R4} {va3 : Value} {xa3 : List Bool} {vi : Value} {ins : List Int} {mo : Int} (ha2 : Rd ER w va2 xa2) (ha3 : Rd EB w va3 xa3) (hi : Rd EI w vi ins) : Calls Try.prog 70 #[.agg #[.int .i64 a0, .int .i64 a1, va2, va3], vi, .int .i64 mo] w (Ret1 (fun v w' => Ext w w' ∧ ∃ u og_u vs_u os_u, v = .tuple #[u, .bool (outB a0 a1 xa2 xa3 ins mo)] ∧ Osl VV w' og_u u vs_u ∧ Lo w og_u ∧ Inn w' os_u vs_u (onT (outB a0 a1 xa2 xa3 ins mo) (outL xa2 xa3 ins a1 mo)) ∧ LoI w os_u ∧ DI os_u og_u)) := by
  have hB : Ext w w := Ext.refl w
  have hla2 := ha2.leI; have hla3 := ha3.leI; have hli := hi.leI
  refine callsOf (vs := [_, _, _]) Try.func70 rfl Try.ntmps70 rfl rfl ?_
  refine CW.seq ?_
  refine CW.reg ?_
  refine WL.op rfl (OpK.box rfl rfl (by first | exact Rd.cells1 (by assumption) | exact Osl.cells1 (by assumption) | exact Osn.cells1 (by assumption) | exact Rd.cells1 (NL.rd (by assumption)) | exact Inn.cell1 (by assumption) (by omega) | assumption | rfl) (fun b1 w1 hXw1 hb1 hge1 => ?_))
  have hl1 := Lo.new hB hge1
  have hB := hB.trans hXw1
  refine WL.asg rfl rfl ?_
  refine WL.asg rfl rfl ?_
  refine WL.nilS ?_
  refine CW.seq ?_
  refine CW.seq ?_
  refine CW.reg ?_
  refine WL.op rfl (OpK.callR rfl T.cf158 rfl (c_spec_l05Sided (by first | exact Bx.cells (by assumption) | exact Cells.up (by assumption) hB | assumption | exact Cells.add (Bx.cells (by assumption)) _ | exact Cells.add (Cells.up (by assumption) hB) _) (by first | assumption | exact Rd.up (by assumption) hB | exact Osl.rd (by assumption) | exact Osn.rdR (by assumption) | exact NL.rd (by assumption) | exact rdII (by assumption) (by assumption) | exact Inn.rd (by assumption) (by omega)) (by first | assumption | exact Rd.up (by assumption) hB | exact Osl.rd (by assumption) | exact Osn.rdR (by assumption) | exact NL.rd (by assumption) | exact rdII (by assumption) (by assumption) | exact Inn.rd (by assumption) (by omega))) (fun w2 hXw2 => ?_))
  have hB := hB.trans hXw2
  have hb1 := hb1.up hXw2
  refine WL.pure rfl rfl rfl (PV.not rfl) ?_
  refine WL.mv rfl rfl ?_
  refine WL.split (t := 13) rfl (fun hc1 => ?_) (fun hc1 => ?_)
  · skip
    try simp only [nq] at hc1
    refine WL.skip rfl rfl rfl rfl rfl ?_
    refine WL.skip rfl rfl rfl rfl rfl ?_
    refine WL.skip rfl rfl rfl rfl rfl ?_
    refine WL.skip rfl rfl rfl rfl rfl ?_
    refine WL.skip rfl rfl rfl rfl rfl ?_
    refine WL.pure rfl rfl rfl (PV.pickT rfl rfl) ?_
    refine WL.mv rfl rfl ?_
    refine WL.skip rfl rfl rfl rfl rfl ?_
    refine WL.skip rfl rfl rfl rfl rfl ?_
    refine WL.skip rfl rfl rfl rfl rfl ?_
    refine WL.pure rfl rfl rfl (PV.pickT rfl rfl) ?_
    refine WL.nilS ?_
    refine CW.condT rfl ?_
    refine CW.seq ?_
    refine CW.reg ?_
    refine WL.asg rfl rfl ?_
    refine WL.asg rfl rfl ?_
    refine WL.nilS ?_
    refine CW.ret ?_
    refine RQ.then ?_
    refine RQ.r2 rfl rfl ?_
    first | (have hS : outB a0 a1 xa2 xa3 ins mo = false := (by first | exact out_n1 (by assumption) | exact out_n2 (by assumption) | exact out_n2' (by assumption) (by assumption) | exact out_n3 (by omega)); exact ⟨hB, .slice none 0 0, none, [], [], tE2 rfl (bE hS.symm), Osl.nil _ _, Lo.nl _, innE (Inn.zero _) (onT_no (by rw [hS]; decide)).symm, LoI.nl _, DI.nl _⟩) | (obtain rfl : k = (wordsP a1 (mo.toNat + 1)).length := (by omega); exact ⟨hB, _, _, _, _, tE2 rfl (bE hS.symm), ho5, hl5, innE (Inn.sel hn4 _ (Nat.le_refl _)) (onT_yes hS).symm, LoI.sel hl4 (by rw [hn4.lo]; exact Nat.le_refl _), DI.sel hd4_5 (by rw [hn4.lo]; exact Nat.le_refl _)⟩)
  try simp only [nq] at hc1
  have hv9 := (by assumption : sidedV a0 a1 xa2 xa3).2.1
  refine WL.pureG rfl rfl rfl rfl rfl (PV.move rfl) ?_
  refine WL.pureG rfl rfl rfl rfl rfl (PV.fieldAddr T.fl88_1 rfl hb1.cells) ?_
  refine WL.pureG rfl rfl rfl rfl rfl (PV.load1 T.na2 rfl hb1.cells (Ext.refl _) rfl) ?_
  refine WL.opG rfl rfl rfl (OpK.callR rfl T.cf159 rfl (c_spec_l02Word (by first | assumption | exact Rd.up (by assumption) hB | exact Osl.rd (by assumption) | exact Osn.rdR (by assumption) | exact NL.rd (by assumption) | exact rdII (by assumption) (by assumption) | exact Inn.rd (by assumption) (by omega)) (by first | assumption | omega | (simp only [marks_len, marksB_len, marksR_len, sumL_marksS]; omega))) (fun w3 hXw3 => ?_))
  have hB := hB.trans hXw3
  have hb1 := hb1.up hXw3
  refine WL.pureG rfl rfl rfl rfl rfl (PV.not rfl) ?_
  refine WL.pure rfl rfl rfl (PV.pickF rfl rfl) ?_
  refine WL.mv rfl rfl ?_
  refine WL.split (t := 20) rfl (fun hc2 => ?_) (fun hc2 => ?_)
  · skip
    try simp only [nq] at hc2
    refine WL.skip rfl rfl rfl rfl rfl ?_
    refine WL.skip rfl rfl rfl rfl rfl ?_
    refine WL.skip rfl rfl rfl rfl rfl ?_
    refine WL.pure rfl rfl rfl (PV.pickT rfl rfl) ?_
    refine WL.nilS ?_
    refine CW.condT rfl ?_
    refine CW.seq ?_
    refine CW.reg ?_
    refine WL.asg rfl rfl ?_
    refine WL.asg rfl rfl ?_
    refine WL.nilS ?_
    refine CW.ret ?_
    refine RQ.then ?_
    refine RQ.r2 rfl rfl ?_
    first | (have hS : outB a0 a1 xa2 xa3 ins mo = false := (by first | exact out_n1 (by assumption) | exact out_n2 (by assumption) | exact out_n2' (by assumption) (by assumption) | exact out_n3 (by omega)); exact ⟨hB, .slice none 0 0, none, [], [], tE2 rfl (bE hS.symm), Osl.nil _ _, Lo.nl _, innE (Inn.zero _) (onT_no (by rw [hS]; decide)).symm, LoI.nl _, DI.nl _⟩) | (obtain rfl : k = (wordsP a1 (mo.toNat + 1)).length := (by omega); exact ⟨hB, _, _, _, _, tE2 rfl (bE hS.symm), ho5, hl5, innE (Inn.sel hn4 _ (Nat.le_refl _)) (onT_yes hS).symm, LoI.sel hl4 (by rw [hn4.lo]; exact Nat.le_refl _), DI.sel hd4_5 (by rw [hn4.lo]; exact Nat.le_refl _)⟩)
  try simp only [nq] at hc2
  refine WL.pureG rfl rfl rfl rfl rfl (PV.move rfl) ?_
  refine WL.opG rfl rfl rfl (OpK.callR rfl T.cf98 rfl (c_spec_l00In) (fun w4 hXw4 => ?_))
  have hB := hB.trans hXw4
  have hb1 := hb1.up hXw4
  refine WL.pureG rfl rfl rfl rfl rfl (PV.not rfl) ?_
  refine WL.pure rfl rfl rfl (PV.pickF rfl rfl) ?_
  refine WL.nilS ?_
  refine CW.cond rfl (fun hc3 => ?_) (fun hc3 => ?_)
  · skip
    try simp only [nq] at hc3
    refine CW.seq ?_
    refine CW.reg ?_
    refine WL.asg rfl rfl ?_
    refine WL.asg rfl rfl ?_
    refine WL.nilS ?_
    refine CW.ret ?_
    refine RQ.then ?_
    refine RQ.r2 rfl rfl ?_
    first | (have hS : outB a0 a1 xa2 xa3 ins mo = false := (by first | exact out_n1 (by assumption) | exact out_n2 (by assumption) | exact out_n2' (by assumption) (by assumption) | exact out_n3 (by omega)); exact ⟨hB, .slice none 0 0, none, [], [], tE2 rfl (bE hS.symm), Osl.nil _ _, Lo.nl _, innE (Inn.zero _) (onT_no (by rw [hS]; decide)).symm, LoI.nl _, DI.nl _⟩) | (obtain rfl : k = (wordsP a1 (mo.toNat + 1)).length := (by omega); exact ⟨hB, _, _, _, _, tE2 rfl (bE hS.symm), ho5, hl5, innE (Inn.sel hn4 _ (Nat.le_refl _)) (onT_yes hS).symm, LoI.sel hl4 (by rw [hn4.lo]; exact Nat.le_refl _), DI.sel hd4_5 (by rw [hn4.lo]; exact Nat.le_refl _)⟩)
  try simp only [nq] at hc3
  refine CW.skipS ?_
  refine CW.seq ?_
  refine CW.reg ?_
  have hv := (by assumption : sidedV a0 a1 xa2 xa3); have hw9 := isW_of hv (by assumption); have hi12 := isW_12 hw9; have hL := hv.2.1; have hm4 : 0 ≤ mo ∧ mo ≤ 4 := (by first | assumption | omega); have hS := out_y hv hw9 hm4
  refine WL.op rfl (OpK.buildS VV (os := []) [] rfl T.sl25 rfl rfl T.zv28 rfl (by intro z hz; cases hz) rfl (fun v2 g2 w5 hXw5 ho2 hge2 => ?_))
  have hl2 := Lo.new hB hge2
  have hd1_2 := Dj.new hb1.ltO hge2
  have hB := hB.trans hXw5
  have hb1 := hb1.up hXw5
  refine WL.asg rfl rfl ?_
  refine WL.nilS ?_
  refine CW.seq ?_
  refine CW.reg ?_
  refine WL.pure rfl rfl rfl (PV.fieldAddr T.fl88_1 rfl hb1.cells) ?_
  refine WL.pure rfl rfl rfl (PV.load1 T.na2 rfl hb1.cells (Ext.refl _) rfl) ?_
  refine WL.mv rfl rfl ?_
  refine WL.op rfl (OpK.call rfl T.cf160 rfl (c_spec_l05Words (by first | assumption | omega | (simp only [marks_len, marksB_len, marksR_len, sumL_marksS]; omega)) (by first | assumption | omega | (simp only [marks_len, marksB_len, marksR_len, sumL_marksS]; omega))) (fun rv1 w6 hR => ?_))
  obtain ⟨hXw6, v3, og3, vs4, os4, rfl, ho3, hq3, hn4, hq4, hd3_4⟩ := hR
  have hl3 := Lo.up hq3 hB
  have hd1_3 := Dj.lo hb1.ltO hq3
  have hd2_3 := Dj.lo ho2.ltO hq3
  have hl4 := LoI.up hq4 hB
  have hlv4 := hn4.lv
  have hd1_4 := DI.lo hb1.ltO hq4
  have hd2_4 := DI.lo ho2.ltO hq4
  have hB := hB.trans hXw6
  have hb1 := hb1.up hXw6
  have ho2 := ho2.up hXw6
  refine WL.asg rfl rfl ?_
  refine WL.nilS ?_
  refine CW.seq ?_
  refine CW.seq ?_
  refine CW.reg ?_
  refine WL.mv rfl rfl ?_
  refine WL.pure rfl rfl rfl ((PV.lenOs rfl ho3 T.sl25)) ?_
  refine WL.mv rfl rfl ?_
  refine WL.nilS ?_
  refine CW.block ?_
  have hlt1 := hb1.ltO
  have hlt2 := ho2.ltO
  have hlt3 := ho3.ltO
  have hlt4 := hn4.ltO
  refine CW.loop (σk := [(1, _), (3, _), (9, _), (31, _)]) (fun ρ wz m => ∃ (v5 : Value) (og5 : Option Nat) (k : Nat), ρ = [(8, v5), (32, .int .i64 (k : Nat))] ∧ m = (wordsP a1 (mo.toNat + 1)).length - k ∧ UpdL [(some g2)] w6 wz ∧ Osl VV wz og5 v5 (sel (fun k => rdB xa2 ins ((wordsP a1 (mo.toNat + 1)).getD k []) xa3) (.slice none 0 0) vs4 k) ∧ OgR w6 (some g2) og5 ∧ (k ≤ (wordsP a1 (mo.toNat + 1)).length)) (ρ₀ := [(8, _), (32, _)]) (m₀ := _) ⟨rfl, rfl, rfl, rfl, rfl, rfl, trivial⟩ ⟨v2, (some g2), 0, rfl, rfl, (UpdL.refl _ _), osE ho2 (by exact sel_zero _ _ _), OgR.refl _ _, (by first | omega | rfl | (simp; done) | assumption | (simp_all; done))⟩ ?_
  rintro _ wl1 _ ⟨v5, og5, k, rfl, rfl, hU0, ho5, ha5, hk⟩
  have hb1 := hb1.loop hU0 ⟨hd1_2, trivial⟩
  have ho3 := ho3.loop hU0 ⟨(Dj.symm hd2_3), trivial⟩
  have hn4 := hn4.loop hU0 ⟨hd2_4, trivial⟩
  have hl5 := Lo.ogr hl2 hB ha5
  have hg0_5 := ha5
  have hk0_5 : OkB [(some g2)] w6 og5 := OkB.ogr (OkB.mem (by simp)) (Nat.le_refl _) ha5
  have hd1_5 := Dj.ogr hd1_2 hlt1 ha5
  have hd3_5 := Dj.ogr (Dj.symm hd2_3) hlt3 ha5
  have hd4_5 := DI.ogr hd2_4 hlt4 ha5
  have hB := hB.loop hU0 ⟨hl2, trivial⟩
  have hpl := wordsP_len (L := a1) (by omega) (mo.toNat + 1) (by omega); have hsl := sel_len (fun k => rdB xa2 ins ((wordsP a1 (mo.toNat + 1)).getD k []) xa3) (.slice none 0 0) vs4 k
  refine CW.seq ?_
  refine CW.reg ?_
  refine WL.pure rfl rfl rfl (PV.lss rfl rfl) ?_
  refine WL.nilS ?_
  refine CW.seq ?_
  refine CW.cond rfl (fun hc4 => ?_) (fun hc4 => ?_)
  · skip
    try simp only [nq] at hc4
    refine CW.skipS ?_
    refine CW.seq ?_
    refine CW.block ?_
    refine CW.seq ?_
    refine CW.reg ?_
    refine WL.mv rfl rfl ?_
    refine WL.asg rfl rfl ?_
    refine WL.nilS ?_
    refine CW.seq ?_
    refine CW.reg ?_
    have hw5 := wordsP_get (L := a1) (m := mo.toNat) (k := k) (by omega)
    refine WL.mv rfl rfl ?_
    refine WL.mv rfl rfl ?_
    refine WL.mv rfl rfl ?_
    first
      | refine WL.atO (x := .tmp 36) (y := .tmp 37) (f := VV) (.slice none 0 0) rfl rfl ho3 (by first | omega | (simp only [List.length_set]; omega) | (simp only [List.length_append, List.length_take, List.length_replicate, List.length_drop]; omega)) (fun p1 hpp1 hcp1 => ?_)
      | refine WL.atOZ (x := .tmp 36) (y := .tmp 37) (f := VV) (.slice none 0 0) rfl rfl ho3 (by first | omega | (simp only [List.length_set]; omega) | (simp only [List.length_append, List.length_take, List.length_replicate, List.length_drop]; omega)) (fun p1 hpp1 hzp1 hcp1 => ?_)
    refine WL.pure rfl rfl rfl ((by first | exact PV.indexAddr hpp1 rfl rfl T.sl25 | exact PV.indexAddr hpp1 rfl (by rw [← hzp1]; rfl) T.sl25)) ?_
    refine WL.pure rfl rfl rfl ((by first | exact PV.load0 T.na28 rfl (by first | exact Cells.up (by assumption) hB | exact Bx.cells (by assumption) | assumption) (Ext.refl _) rfl | exact PV.load1 T.na28 rfl (by first | exact Cells.up (by assumption) hB | exact Bx.cells (by assumption) | assumption) (Ext.refl _) rfl)) ?_
    refine WL.op rfl (OpK.callR rfl T.cf161 rfl (c_spec_l05Reads (by first | exact Bx.cells (by assumption) | exact Cells.up (by assumption) hB | assumption | exact Cells.add (Bx.cells (by assumption)) _ | exact Cells.add (Cells.up (by assumption) hB) _) (by first | assumption | exact Rd.up (by assumption) hB | exact Osl.rd (by assumption) | exact Osn.rdR (by assumption) | exact NL.rd (by assumption) | exact rdII (by assumption) (by assumption) | exact Inn.rd (by assumption) (by omega)) (by first | assumption | exact Rd.up (by assumption) hB | exact Osl.rd (by assumption) | exact Osn.rdR (by assumption) | exact NL.rd (by assumption) | exact rdII (by assumption) (by assumption) | exact Inn.rd (by assumption) (by omega)) (by first | assumption | exact Rd.up (by assumption) hB | exact Osl.rd (by assumption) | exact Osn.rdR (by assumption) | exact NL.rd (by assumption) | exact rdII (by assumption) (by assumption) | exact Inn.rd (by assumption) (by omega)) (by first | assumption | exact Rd.up (by assumption) hB | exact Osl.rd (by assumption) | exact Osn.rdR (by assumption) | exact NL.rd (by assumption) | exact rdII (by assumption) (by assumption) | exact Inn.rd (by assumption) (by omega)) (by first | assumption | omega | (simp only [marks_len, marksB_len, marksR_len, sumL_marksS]; omega)) (by first | assumption | omega | (simp only [marks_len, marksB_len, marksR_len, sumL_marksS]; omega)) (by first | assumption | omega | (simp only [marks_len, marksB_len, marksR_len, sumL_marksS]; omega))) (fun w7 hXw7 => ?_))
    have hB := hB.trans hXw7
    have hb1 := hb1.up hXw7
    have ho3 := ho3.up hXw7
    have hn4 := hn4.up hXw7
    have ho5 := ho5.up hXw7
    have hU0 := hU0.ext hXw7
    refine WL.nilS ?_
    refine CW.cond rfl (fun hc5 => ?_) (fun hc5 => ?_)
    · skip
      try simp only [nq] at hc5
      refine CW.reg ?_
      refine WL.mv rfl rfl ?_
      refine WL.mv rfl rfl ?_
      refine WL.mv rfl rfl ?_
      first
        | refine WL.atO (x := .tmp 42) (y := .tmp 43) (f := VV) (.slice none 0 0) rfl rfl ho3 (by first | omega | (simp only [List.length_set]; omega) | (simp only [List.length_append, List.length_take, List.length_replicate, List.length_drop]; omega)) (fun p2 hpp2 hcp2 => ?_)
        | refine WL.atOZ (x := .tmp 42) (y := .tmp 43) (f := VV) (.slice none 0 0) rfl rfl ho3 (by first | omega | (simp only [List.length_set]; omega) | (simp only [List.length_append, List.length_take, List.length_replicate, List.length_drop]; omega)) (fun p2 hpp2 hzp2 hcp2 => ?_)
      refine WL.pure rfl rfl rfl ((by first | exact PV.indexAddr hpp2 rfl rfl T.sl25 | exact PV.indexAddr hpp2 rfl (by rw [← hzp2]; rfl) T.sl25)) ?_
      refine WL.pure rfl rfl rfl ((by first | exact PV.load0 T.na28 rfl (by first | exact Cells.up (by assumption) hB | exact Bx.cells (by assumption) | assumption) (Ext.refl _) rfl | exact PV.load1 T.na28 rfl (by first | exact Cells.up (by assumption) hB | exact Bx.cells (by assumption) | assumption) (Ext.refl _) rfl)) ?_
      refine WL.op rfl (OpK.buildS VV (os := [.tmp 45]) [_] rfl T.sl25 rfl rfl T.zv28 rfl (by intro z hz; first | rfl | (simp only [List.mem_cons, List.not_mem_nil, or_false] at hz; subst hz; exact (by first | exact Rd.cells1 (by assumption) | exact Osl.cells1 (by assumption) | exact Osn.cells1 (by assumption) | exact Rd.cells1 (NL.rd (by assumption)) | exact Inn.cell1 (by assumption) (by omega) | assumption | rfl))) rfl (fun v6 g6 w8 hXw8 ho6 hge6 => ?_))
      have hl6 := Lo.new hB hge6
      have hd1_6 := Dj.new hb1.ltO hge6
      have hd3_6 := Dj.new ho3.ltO hge6
      have hd4_6 := DI.new hn4 hge6
      have hd5_6 := Dj.new ho5.ltO hge6
      have hk0_6 := OkN.new hU0 hge6
      have hg0_6 := OgR.new hU0.size hge6
      have hB := hB.trans hXw8
      have hb1 := hb1.up hXw8
      have ho3 := ho3.up hXw8
      have hn4 := hn4.up hXw8
      have ho5 := ho5.up hXw8
      have hU0 := hU0.ext hXw8
      refine WL.op rfl (OpK.appendS (f := VV) rfl T.sl25 T.zv28 rfl rfl ho5 rfl (Osl.srcM ho6 (one_mem (Inn.one1 hn4 (by omega)))) (by first | (simp only [List.length_cons, List.length_nil]; omega) | (simp_all; omega)) (fun v7 og7 w9 hXw9 ho7 hap7 => ?_))
      have hl7 := Lo.app hl5 hB hap7
      have hd1_7 := Dj.app hd1_5 hb1.ltO hap7
      have hd3_7 := Dj.app hd3_5 ho3.ltO hap7
      have hd4_7 := DI.app hd4_5 hn4 hap7
      have hd6_7 := Dj.app (Dj.symm hd5_6) ho6.ltO hap7
      have hk0_7 := OkN.app hU0 hk0_5 hap7
      have hg0_7 := OgR.app hg0_5 hU0.size hap7
      have hB := hB.updL hXw9 hl5
      have hb1 := hb1.updD hXw9 hd1_5
      have ho3 := ho3.updD hXw9 hd3_5
      have hn4 := hn4.updD hXw9 hd4_5
      have ho6 := ho6.updD hXw9 (Dj.symm hd5_6)
      have hU0 := hU0.step hXw9 hk0_5
      refine WL.asg rfl rfl ?_
      refine WL.nil ?_
      refine NQ.block ?_
      refine NQ.then ?_
      refine CW.reg ?_
      refine WL.pure rfl rfl rfl (PV.add rfl rfl (by constructor <;> omega)) ?_
      refine WL.mv rfl rfl ?_
      refine WL.nil ?_
      refine NQ.next (ρ := [(8, _), (32, _)]) ⟨rfl, rfl, rfl, rfl, rfl, rfl, trivial⟩ ?_
      exact ⟨_, ⟨v7, og7, k + 1, rfl, rfl, hU0, osE ho7 (by first | exact sel_put (by assumption) | exact sel_no (by assumption)), (by first | exact hg0_7 | exact OgR.weak hg0_7), (by first | omega | assumption | (simp_all; done) | (simp_all; omega))⟩, by omega⟩
    try simp only [nq] at hc5
    refine CW.skip ?_
    refine NQ.block ?_
    refine NQ.then ?_
    refine CW.reg ?_
    refine WL.pure rfl rfl rfl (PV.add rfl rfl (by constructor <;> omega)) ?_
    refine WL.mv rfl rfl ?_
    refine WL.nil ?_
    refine NQ.next (ρ := [(8, _), (32, _)]) ⟨rfl, rfl, rfl, rfl, rfl, rfl, trivial⟩ ?_
    exact ⟨_, ⟨v5, og5, k + 1, rfl, rfl, hU0, osE ho5 (by first | exact sel_put (by assumption) | exact sel_no (by assumption)), (by first | exact hg0_5 | exact OgR.weak hg0_5), (by first | omega | assumption | (simp_all; done) | (simp_all; omega))⟩, by omega⟩
  try simp only [nq] at hc4
  refine CW.exit ?_
  refine XQ.then ?_
  refine XQ.then ?_
  refine XQ.here ?_
  refine NQ.then ?_
  refine CW.seq ?_
  refine CW.reg ?_
  refine WL.mv rfl rfl ?_
  refine WL.asg rfl rfl ?_
  refine WL.asg rfl rfl ?_
  refine WL.nilS ?_
  refine CW.ret ?_
  refine RQ.r2 rfl rfl ?_
  first | (have hS : outB a0 a1 xa2 xa3 ins mo = false := (by first | exact out_n1 (by assumption) | exact out_n2 (by assumption) | exact out_n2' (by assumption) (by assumption) | exact out_n3 (by omega)); exact ⟨hB, .slice none 0 0, none, [], [], tE2 rfl (bE hS.symm), Osl.nil _ _, Lo.nl _, innE (Inn.zero _) (onT_no (by rw [hS]; decide)).symm, LoI.nl _, DI.nl _⟩) | (obtain rfl : k = (wordsP a1 (mo.toNat + 1)).length := (by omega); exact ⟨hB, _, _, _, _, tE2 rfl (bE hS.symm), ho5, hl5, innE (Inn.sel hn4 _ (Nat.le_refl _)) (onT_yes hS).symm, LoI.sel hl4 (by rw [hn4.lo]; exact Nat.le_refl _), DI.sel hd4_5 (by rw [hn4.lo]; exact Nat.le_refl _)⟩)
theorem c_slices_Equal_impl_PairArc_impl_PairArc {w : World} {va vb : Value} {xs ys : List R4} (ha : Rd ER w va xs) (hb : Rd ER w vb ys) : Calls Try.prog 162 #[va, vb] w (Ret1 (RQt (.bool (decide (xs = ys))) w)) := by
  have hB : Ext w w := Ext.refl w
  have hla := ha.leI; have hlb := hb.leI
  refine callsOf (vs := [_, _]) Try.func162 rfl Try.ntmps162 rfl rfl ?_
  refine CW.seq ?_
  refine CW.reg ?_
  refine WL.asg rfl rfl ?_
  refine WL.nilS ?_
  refine CW.seq ?_
  refine CW.seq ?_
  refine CW.reg ?_
  refine WL.mv rfl rfl ?_
  refine WL.pure rfl rfl rfl ((by first | exact PV.len rfl (by assumption) T.sl86 | exact PV.lenOs rfl (by assumption) T.sl86 | exact PV.len rfl (NL.rd (by assumption)) T.sl86 | exact PV.len rfl (Inn.rd (by assumption) (by omega)) T.sl86)) ?_
  refine WL.mv rfl rfl ?_
  refine WL.pure rfl rfl rfl ((by first | exact PV.len rfl (by assumption) T.sl86 | exact PV.lenOs rfl (by assumption) T.sl86 | exact PV.len rfl (NL.rd (by assumption)) T.sl86 | exact PV.len rfl (Inn.rd (by assumption) (by omega)) T.sl86)) ?_
  refine WL.pure rfl rfl rfl (PV.neq rfl rfl) ?_
  refine WL.nilS ?_
  refine CW.cond rfl (fun hc1 => ?_) (fun hc1 => ?_)
  · skip
    try simp only [nq] at hc1
    refine CW.seq ?_
    refine CW.reg ?_
    refine WL.asg rfl rfl ?_
    refine WL.nilS ?_
    refine CW.ret ?_
    refine RQ.then ?_
    refine RQ.r1 rfl ?_
    refine ⟨?_, hB⟩
    first | exact bT (eq_of_takes (by omega) (by omega) he) | exact bF (by rintro rfl; first | omega | exact (r4_no (by assumption)).elim)
  try simp only [nq] at hc1
  refine CW.skipS ?_
  refine CW.seq ?_
  refine CW.seq ?_
  refine CW.reg ?_
  refine WL.mv rfl rfl ?_
  refine WL.pure rfl rfl rfl ((by first | exact PV.len rfl (by assumption) T.sl86 | exact PV.lenOs rfl (by assumption) T.sl86 | exact PV.len rfl (NL.rd (by assumption)) T.sl86 | exact PV.len rfl (Inn.rd (by assumption) (by omega)) T.sl86)) ?_
  refine WL.mv rfl rfl ?_
  refine WL.nilS ?_
  refine CW.block ?_
  refine CW.loop (σk := [(0, _), (1, _), (12, _)]) (fun ρ wz m => ∃ (k : Nat), ρ = [(13, .int .i64 (k : Nat))] ∧ m = xs.length - k ∧ UpdL [] w wz ∧ (k ≤ xs.length) ∧ (xs.take k = ys.take k)) (ρ₀ := [(13, _)]) (m₀ := _) ⟨rfl, rfl, rfl, rfl, trivial⟩ ⟨0, rfl, rfl, (UpdL.refl _ _), (by first | omega | rfl | (simp; done) | assumption | (simp_all; done)), (by first | omega | rfl | (simp; done) | assumption | (simp_all; done))⟩ ?_
  rintro _ wl1 _ ⟨k, rfl, rfl, hU0, hk, he⟩
  have hB := hB.loop hU0 trivial
  refine CW.seq ?_
  refine CW.reg ?_
  refine WL.pure rfl rfl rfl (PV.lss rfl rfl) ?_
  refine WL.nilS ?_
  refine CW.seq ?_
  refine CW.cond rfl (fun hc2 => ?_) (fun hc2 => ?_)
  · skip
    try simp only [nq] at hc2
    refine CW.skipS ?_
    refine CW.seq ?_
    refine CW.block ?_
    refine CW.seq ?_
    refine CW.reg ?_
    refine WL.mv rfl rfl ?_
    refine WL.asg rfl rfl ?_
    refine WL.nilS ?_
    refine CW.seq ?_
    refine CW.draw T.mixed (by kernel_rfl) (fun _ _ _ _ _ h => h) (fun w8 w9 => Upd none w8 w9) 9 (.take 0 (.take 1 (.take 2 (.take 3 (.take 4 (.take 5 (.take 6 (.take 7 (.take 8 .done))))))))) (by kernel_rfl) (fun w1 hXd => ?_)
    have hB := hB.trans hXd
    have hU0 := hU0.ext hXd
    have hBr := hB
    have hS : Upd none w1 w1 := Ext.toUpd (Ext.refl _)
    refine HP.take rfl rfl rfl rfl hS (fun wS hS1 => PV.move rfl) ?_
    refine HP.take rfl rfl rfl rfl hS (fun wS hS1 => PV.move rfl) ?_
    first
      | refine HP.at (x := .tmp 16) (y := .tmp 17) (E := ER) ((0, 0, 0, 0)) rfl rfl (by first | assumption | exact Inn.rd (by assumption) (by omega)) (by first | omega | (simp only [List.length_set]; omega) | (simp only [List.length_append, List.length_take, List.length_replicate, List.length_drop]; omega)) (fun p1 csp1 hpp1 hcp1 hq => ?_)
      | refine HP.atZ (x := .tmp 16) (y := .tmp 17) (E := ER) ((0, 0, 0, 0)) rfl rfl (by first | assumption | exact Inn.rd (by assumption) (by omega)) (by first | omega | (simp only [List.length_set]; omega) | (simp only [List.length_append, List.length_take, List.length_replicate, List.length_drop]; omega)) (fun p1 csp1 hpp1 hzp1 hcp1 hq => ?_)
    cases hq
    refine HP.take rfl rfl rfl rfl hS (fun wS hS1 => (by first | exact PV.indexAddr hpp1 rfl rfl T.sl86 | exact PV.indexAddr hpp1 rfl (by rw [← hzp1]; rfl) T.sl86)) ?_
    refine HP.take rfl rfl rfl rfl hS (fun wS hS1 => (by first | exact PV.loadA T.ag178 rfl (by first | exact Cells.up (by assumption) (hBr.trans hS1) | exact Bx.cells (Bx.updD (by assumption) hS1 (Dj.nlR _)) | exact Cells.upd (by assumption) hS1 (by simp)) (Ext.refl _) rfl | exact PV.loadP (ds := [_, _, _, _]) T.ag178 rfl (by first | exact Cells.up (by assumption) (hBr.trans hS1) | exact Bx.cells (Bx.updD (by assumption) hS1 (Dj.nlR _)) | exact Cells.upd (by assumption) hS1 (by simp)) (Ext.refl _) rfl rfl)) ?_
    refine HP.take rfl rfl rfl rfl hS (fun wS hS1 => PV.move rfl) ?_
    refine HP.take rfl rfl rfl rfl hS (fun wS hS1 => PV.move rfl) ?_
    first
      | refine HP.at (x := .tmp 20) (y := .tmp 21) (E := ER) ((0, 0, 0, 0)) rfl rfl (by first | assumption | exact Inn.rd (by assumption) (by omega)) (by first | omega | (simp only [List.length_set]; omega) | (simp only [List.length_append, List.length_take, List.length_replicate, List.length_drop]; omega)) (fun p2 csp2 hpp2 hcp2 hq => ?_)
      | refine HP.atZ (x := .tmp 20) (y := .tmp 21) (E := ER) ((0, 0, 0, 0)) rfl rfl (by first | assumption | exact Inn.rd (by assumption) (by omega)) (by first | omega | (simp only [List.length_set]; omega) | (simp only [List.length_append, List.length_take, List.length_replicate, List.length_drop]; omega)) (fun p2 csp2 hpp2 hzp2 hcp2 hq => ?_)
    cases hq
    refine HP.take rfl rfl rfl rfl hS (fun wS hS1 => (by first | exact PV.indexAddr hpp2 rfl rfl T.sl86 | exact PV.indexAddr hpp2 rfl (by rw [← hzp2]; rfl) T.sl86)) ?_
    refine HP.take rfl rfl rfl rfl hS (fun wS hS1 => (by first | exact PV.loadA T.ag178 rfl (by first | exact Cells.up (by assumption) (hBr.trans hS1) | exact Bx.cells (Bx.updD (by assumption) hS1 (Dj.nlR _)) | exact Cells.upd (by assumption) hS1 (by simp)) (Ext.refl _) rfl | exact PV.loadP (ds := [_, _, _, _]) T.ag178 rfl (by first | exact Cells.up (by assumption) (hBr.trans hS1) | exact Bx.cells (Bx.updD (by assumption) hS1 (Dj.nlR _)) | exact Cells.upd (by assumption) hS1 (by simp)) (Ext.refl _) rfl rfl)) ?_
    refine HP.take rfl rfl rfl rfl hS (fun wS hS1 => PV.neq4 T.s4178 rfl rfl) ?_
    refine HP.doneS ?_
    refine CW.cond rfl (fun hc3 => ?_) (fun hc3 => ?_)
    · skip
      try simp only [nq] at hc3
      refine CW.seq ?_
      refine CW.reg ?_
      refine WL.asg rfl rfl ?_
      refine WL.nilS ?_
      refine CW.ret ?_
      refine RQ.block ?_
      refine RQ.then ?_
      refine RQ.then ?_
      refine RQ.block ?_
      refine RQ.then ?_
      refine RQ.r1 rfl ?_
      refine ⟨?_, hB⟩
      first | exact bT (eq_of_takes (by omega) (by omega) he) | exact bF (by rintro rfl; first | omega | exact (r4_no (by assumption)).elim)
    try simp only [nq] at hc3
    refine CW.skip ?_
    refine NQ.block ?_
    refine NQ.then ?_
    refine CW.reg ?_
    refine WL.pure rfl rfl rfl (PV.add rfl rfl (by constructor <;> omega)) ?_
    refine WL.mv rfl rfl ?_
    refine WL.nil ?_
    refine NQ.next (ρ := [(13, _)]) ⟨rfl, rfl, rfl, rfl, trivial⟩ ?_
    exact ⟨_, ⟨k + 1, rfl, rfl, hU0, (by first | omega | assumption | (simp_all; done) | (simp_all; omega)), (by exact take_eq_succ (by omega) (by omega) he (r4_ext (by assumption)))⟩, by omega⟩
  try simp only [nq] at hc2
  refine CW.exit ?_
  refine XQ.then ?_
  refine XQ.then ?_
  refine XQ.here ?_
  refine NQ.then ?_
  refine CW.seq ?_
  refine CW.reg ?_
  refine WL.asg rfl rfl ?_
  refine WL.nilS ?_
  refine CW.ret ?_
  refine RQ.r1 rfl ?_
  refine ⟨?_, hB⟩
  first | exact bT (eq_of_takes (by omega) (by omega) he) | exact bF (by rintro rfl; first | omega | exact (r4_no (by assumption)).elim)
theorem c_slices_Equal_bool_bool {w : World} {va vb : Value} {xs ys : List Bool} (ha : Rd EB w va xs) (hb : Rd EB w vb ys) : Calls Try.prog 143 #[va, vb] w (Ret1 (RQt (.bool (decide (xs = ys))) w)) := by
  have hB : Ext w w := Ext.refl w
  have hla := ha.leI; have hlb := hb.leI
  refine callsOf (vs := [_, _]) Try.func143 rfl Try.ntmps143 rfl rfl ?_
  refine CW.seq ?_
  refine CW.reg ?_
  refine WL.asg rfl rfl ?_
  refine WL.nilS ?_
  refine CW.seq ?_
  refine CW.seq ?_
  refine CW.reg ?_
  refine WL.mv rfl rfl ?_
  refine WL.pure rfl rfl rfl ((by first | exact PV.len rfl (by assumption) T.sl62 | exact PV.lenOs rfl (by assumption) T.sl62 | exact PV.len rfl (NL.rd (by assumption)) T.sl62 | exact PV.len rfl (Inn.rd (by assumption) (by omega)) T.sl62)) ?_
  refine WL.mv rfl rfl ?_
  refine WL.pure rfl rfl rfl ((by first | exact PV.len rfl (by assumption) T.sl62 | exact PV.lenOs rfl (by assumption) T.sl62 | exact PV.len rfl (NL.rd (by assumption)) T.sl62 | exact PV.len rfl (Inn.rd (by assumption) (by omega)) T.sl62)) ?_
  refine WL.pure rfl rfl rfl (PV.neq rfl rfl) ?_
  refine WL.nilS ?_
  refine CW.cond rfl (fun hc1 => ?_) (fun hc1 => ?_)
  · skip
    try simp only [nq] at hc1
    refine CW.seq ?_
    refine CW.reg ?_
    refine WL.asg rfl rfl ?_
    refine WL.nilS ?_
    refine CW.ret ?_
    refine RQ.then ?_
    refine RQ.r1 rfl ?_
    refine ⟨?_, hB⟩
    first | exact bT (eq_of_takes (by omega) (by omega) he) | exact bF (by rintro rfl; simp_all)
  try simp only [nq] at hc1
  refine CW.skipS ?_
  refine CW.seq ?_
  refine CW.seq ?_
  refine CW.reg ?_
  refine WL.mv rfl rfl ?_
  refine WL.pure rfl rfl rfl ((by first | exact PV.len rfl (by assumption) T.sl62 | exact PV.lenOs rfl (by assumption) T.sl62 | exact PV.len rfl (NL.rd (by assumption)) T.sl62 | exact PV.len rfl (Inn.rd (by assumption) (by omega)) T.sl62)) ?_
  refine WL.mv rfl rfl ?_
  refine WL.nilS ?_
  refine CW.block ?_
  refine CW.loop (σk := [(0, _), (1, _), (12, _)]) (fun ρ wz m => ∃ (k : Nat), ρ = [(13, .int .i64 (k : Nat))] ∧ m = xs.length - k ∧ UpdL [] w wz ∧ (k ≤ xs.length) ∧ (xs.take k = ys.take k)) (ρ₀ := [(13, _)]) (m₀ := _) ⟨rfl, rfl, rfl, rfl, trivial⟩ ⟨0, rfl, rfl, (UpdL.refl _ _), (by first | omega | rfl | (simp; done) | assumption | (simp_all; done)), (by first | omega | rfl | (simp; done) | assumption | (simp_all; done))⟩ ?_
  rintro _ wl1 _ ⟨k, rfl, rfl, hU0, hk, he⟩
  have hB := hB.loop hU0 trivial
  refine CW.seq ?_
  refine CW.reg ?_
  refine WL.pure rfl rfl rfl (PV.lss rfl rfl) ?_
  refine WL.nilS ?_
  refine CW.seq ?_
  refine CW.cond rfl (fun hc2 => ?_) (fun hc2 => ?_)
  · skip
    try simp only [nq] at hc2
    refine CW.skipS ?_
    refine CW.seq ?_
    refine CW.block ?_
    refine CW.seq ?_
    refine CW.reg ?_
    refine WL.mv rfl rfl ?_
    refine WL.asg rfl rfl ?_
    refine WL.nilS ?_
    refine CW.seq ?_
    refine CW.draw T.mixed (by kernel_rfl) (fun _ _ _ _ _ h => h) (fun w8 w9 => Upd none w8 w9) 9 (.take 0 (.take 1 (.take 2 (.take 3 (.take 4 (.take 5 (.take 6 (.take 7 (.take 8 .done))))))))) (by kernel_rfl) (fun w1 hXd => ?_)
    have hB := hB.trans hXd
    have hU0 := hU0.ext hXd
    have hBr := hB
    have hS : Upd none w1 w1 := Ext.toUpd (Ext.refl _)
    refine HP.take rfl rfl rfl rfl hS (fun wS hS1 => PV.move rfl) ?_
    refine HP.take rfl rfl rfl rfl hS (fun wS hS1 => PV.move rfl) ?_
    first
      | refine HP.at (x := .tmp 16) (y := .tmp 17) (E := EB) (false) rfl rfl (by first | assumption | exact Inn.rd (by assumption) (by omega)) (by first | omega | (simp only [List.length_set]; omega) | (simp only [List.length_append, List.length_take, List.length_replicate, List.length_drop]; omega)) (fun p1 csp1 hpp1 hcp1 hq => ?_)
      | refine HP.atZ (x := .tmp 16) (y := .tmp 17) (E := EB) (false) rfl rfl (by first | assumption | exact Inn.rd (by assumption) (by omega)) (by first | omega | (simp only [List.length_set]; omega) | (simp only [List.length_append, List.length_take, List.length_replicate, List.length_drop]; omega)) (fun p1 csp1 hpp1 hzp1 hcp1 hq => ?_)
    cases hq
    refine HP.take rfl rfl rfl rfl hS (fun wS hS1 => (by first | exact PV.indexAddr hpp1 rfl rfl T.sl62 | exact PV.indexAddr hpp1 rfl (by rw [← hzp1]; rfl) T.sl62)) ?_
    refine HP.take rfl rfl rfl rfl hS (fun wS hS1 => (by first | exact PV.load0 T.na4 rfl (by first | exact Cells.up (by assumption) (hBr.trans hS1) | exact Bx.cells (Bx.updD (by assumption) hS1 (Dj.nlR _)) | exact Cells.upd (by assumption) hS1 (by simp)) (Ext.refl _) rfl | exact PV.load1 T.na4 rfl (by first | exact Cells.up (by assumption) (hBr.trans hS1) | exact Bx.cells (Bx.updD (by assumption) hS1 (Dj.nlR _)) | exact Cells.upd (by assumption) hS1 (by simp)) (Ext.refl _) rfl)) ?_
    refine HP.take rfl rfl rfl rfl hS (fun wS hS1 => PV.move rfl) ?_
    refine HP.take rfl rfl rfl rfl hS (fun wS hS1 => PV.move rfl) ?_
    first
      | refine HP.at (x := .tmp 20) (y := .tmp 21) (E := EB) (false) rfl rfl (by first | assumption | exact Inn.rd (by assumption) (by omega)) (by first | omega | (simp only [List.length_set]; omega) | (simp only [List.length_append, List.length_take, List.length_replicate, List.length_drop]; omega)) (fun p2 csp2 hpp2 hcp2 hq => ?_)
      | refine HP.atZ (x := .tmp 20) (y := .tmp 21) (E := EB) (false) rfl rfl (by first | assumption | exact Inn.rd (by assumption) (by omega)) (by first | omega | (simp only [List.length_set]; omega) | (simp only [List.length_append, List.length_take, List.length_replicate, List.length_drop]; omega)) (fun p2 csp2 hpp2 hzp2 hcp2 hq => ?_)
    cases hq
    refine HP.take rfl rfl rfl rfl hS (fun wS hS1 => (by first | exact PV.indexAddr hpp2 rfl rfl T.sl62 | exact PV.indexAddr hpp2 rfl (by rw [← hzp2]; rfl) T.sl62)) ?_
    refine HP.take rfl rfl rfl rfl hS (fun wS hS1 => (by first | exact PV.load0 T.na4 rfl (by first | exact Cells.up (by assumption) (hBr.trans hS1) | exact Bx.cells (Bx.updD (by assumption) hS1 (Dj.nlR _)) | exact Cells.upd (by assumption) hS1 (by simp)) (Ext.refl _) rfl | exact PV.load1 T.na4 rfl (by first | exact Cells.up (by assumption) (hBr.trans hS1) | exact Bx.cells (Bx.updD (by assumption) hS1 (Dj.nlR _)) | exact Cells.upd (by assumption) hS1 (by simp)) (Ext.refl _) rfl)) ?_
    refine HP.take rfl rfl rfl rfl hS (fun wS hS1 => PV.neqB T.bl4 rfl rfl) ?_
    refine HP.doneS ?_
    refine CW.cond rfl (fun hc3 => ?_) (fun hc3 => ?_)
    · skip
      try simp only [nq] at hc3
      refine CW.seq ?_
      refine CW.reg ?_
      refine WL.asg rfl rfl ?_
      refine WL.nilS ?_
      refine CW.ret ?_
      refine RQ.block ?_
      refine RQ.then ?_
      refine RQ.then ?_
      refine RQ.block ?_
      refine RQ.then ?_
      refine RQ.r1 rfl ?_
      refine ⟨?_, hB⟩
      first | exact bT (eq_of_takes (by omega) (by omega) he) | exact bF (by rintro rfl; simp_all)
    try simp only [nq] at hc3
    refine CW.skip ?_
    refine NQ.block ?_
    refine NQ.then ?_
    refine CW.reg ?_
    refine WL.pure rfl rfl rfl (PV.add rfl rfl (by constructor <;> omega)) ?_
    refine WL.mv rfl rfl ?_
    refine WL.nil ?_
    refine NQ.next (ρ := [(13, _)]) ⟨rfl, rfl, rfl, rfl, trivial⟩ ?_
    exact ⟨_, ⟨k + 1, rfl, rfl, hU0, (by first | omega | assumption | (simp_all; done) | (simp_all; omega)), (by exact take_eq_succ (by omega) (by omega) he (by assumption))⟩, by omega⟩
  try simp only [nq] at hc2
  refine CW.exit ?_
  refine XQ.then ?_
  refine XQ.then ?_
  refine XQ.here ?_
  refine NQ.then ?_
  refine CW.seq ?_
  refine CW.reg ?_
  refine WL.asg rfl rfl ?_
  refine WL.nilS ?_
  refine CW.ret ?_
  refine RQ.r1 rfl ?_
  refine ⟨?_, hB⟩
  first | exact bT (eq_of_takes (by omega) (by omega) he) | exact bF (by rintro rfl; simp_all)
theorem c_impl_SameSided {w : World} {a0 : Int} {a1 : Int} {va2 : Value} {xa2 : List R4} {va3 : Value} {xa3 : List Bool} {b0 : Int} {b1 : Int} {vb2 : Value} {xb2 : List R4} {vb3 : Value} {xb3 : List Bool}  (ha2 : Rd ER w va2 xa2) (ha3 : Rd EB w va3 xa3) (hb2 : Rd ER w vb2 xb2) (hb3 : Rd EB w vb3 xb3) : Calls Try.prog 72 #[.agg #[.int .i64 a0, .int .i64 a1, va2, va3], .agg #[.int .i64 b0, .int .i64 b1, vb2, vb3]] w (Ret1 (RQt (.bool (decide (a0 = b0 ∧ a1 = b1 ∧ xa2 = xb2 ∧ xa3 = xb3))) w)) := by
  have hB : Ext w w := Ext.refl w
  have hla2 := ha2.leI; have hla3 := ha3.leI; have hlb2 := hb2.leI; have hlb3 := hb3.leI
  refine callsOf (vs := [_, _]) Try.func72 rfl Try.ntmps72 rfl rfl ?_
  refine CW.seq ?_
  refine CW.reg ?_
  refine WL.op rfl (OpK.box rfl rfl (by first | exact Rd.cells1 (by assumption) | exact Osl.cells1 (by assumption) | exact Osn.cells1 (by assumption) | exact Rd.cells1 (NL.rd (by assumption)) | exact Inn.cell1 (by assumption) (by omega) | assumption | rfl) (fun b1 w1 hXw1 hb1 hge1 => ?_))
  have hl1 := Lo.new hB hge1
  have hB := hB.trans hXw1
  refine WL.op rfl (OpK.box rfl rfl (by first | exact Rd.cells1 (by assumption) | exact Osl.cells1 (by assumption) | exact Osn.cells1 (by assumption) | exact Rd.cells1 (NL.rd (by assumption)) | exact Inn.cell1 (by assumption) (by omega) | assumption | rfl) (fun b2 w2 hXw2 hb2 hge2 => ?_))
  have hl2 := Lo.new hB hge2
  have hd1_2 := Dj.new hb1.ltO hge2
  have hB := hB.trans hXw2
  have hb1 := hb1.up hXw2
  refine WL.asg rfl rfl ?_
  refine WL.nilS ?_
  refine CW.seq ?_
  refine CW.reg ?_
  refine WL.pure rfl rfl rfl (PV.fieldAddr T.fl88_0 rfl hb1.cells) ?_
  refine WL.pure rfl rfl rfl (PV.load1 T.na2 rfl hb1.cells (Ext.refl _) rfl) ?_
  refine WL.pure rfl rfl rfl (PV.fieldAddr T.fl88_0 rfl hb2.cells) ?_
  refine WL.pure rfl rfl rfl (PV.load1 T.na2 rfl hb2.cells (Ext.refl _) rfl) ?_
  refine WL.pure rfl rfl rfl (PV.eql rfl rfl) ?_
  refine WL.mv rfl rfl ?_
  refine WL.split (t := 10) rfl (fun hc1 => ?_) (fun hc1 => ?_)
  rotate_left
  · skip
    try simp only [nq] at hc1
    refine WL.skip rfl rfl rfl rfl rfl ?_
    refine WL.skip rfl rfl rfl rfl rfl ?_
    refine WL.skip rfl rfl rfl rfl rfl ?_
    refine WL.skip rfl rfl rfl rfl rfl ?_
    refine WL.skip rfl rfl rfl rfl rfl ?_
    refine WL.pure rfl rfl rfl (PV.pickF rfl rfl) ?_
    refine WL.mv rfl rfl ?_
    refine WL.skip rfl rfl rfl rfl rfl ?_
    refine WL.skip rfl rfl rfl rfl rfl ?_
    refine WL.skip rfl rfl rfl rfl rfl ?_
    refine WL.skip rfl rfl rfl rfl rfl ?_
    refine WL.skip rfl rfl rfl rfl rfl ?_
    refine WL.pure rfl rfl rfl (PV.pickF rfl rfl) ?_
    refine WL.mv rfl rfl ?_
    refine WL.skip rfl rfl rfl rfl rfl ?_
    refine WL.skip rfl rfl rfl rfl rfl ?_
    refine WL.skip rfl rfl rfl rfl rfl ?_
    refine WL.skip rfl rfl rfl rfl rfl ?_
    refine WL.skip rfl rfl rfl rfl rfl ?_
    refine WL.pure rfl rfl rfl (PV.pickF rfl rfl) ?_
    refine WL.asg rfl rfl ?_
    refine WL.nilS ?_
    refine CW.ret ?_
    refine RQ.r1 rfl ?_
    refine ⟨?_, hB⟩
    first | rfl | exact bT (by omega) | exact bF (by omega) | exact bD (by omega) | exact iE (by omega) | (simp_all; done) | (simp_all; omega) | (simp_all; intros; omega)
  try simp only [nq] at hc1
  refine WL.pureG rfl rfl rfl rfl rfl (PV.fieldAddr T.fl88_1 rfl hb1.cells) ?_
  refine WL.pureG rfl rfl rfl rfl rfl (PV.load1 T.na2 rfl hb1.cells (Ext.refl _) rfl) ?_
  refine WL.pureG rfl rfl rfl rfl rfl (PV.fieldAddr T.fl88_1 rfl hb2.cells) ?_
  refine WL.pureG rfl rfl rfl rfl rfl (PV.load1 T.na2 rfl hb2.cells (Ext.refl _) rfl) ?_
  refine WL.pureG rfl rfl rfl rfl rfl (PV.eql rfl rfl) ?_
  refine WL.pure rfl rfl rfl (PV.pickT rfl rfl) ?_
  refine WL.mv rfl rfl ?_
  refine WL.split (t := 17) rfl (fun hc2 => ?_) (fun hc2 => ?_)
  rotate_left
  · skip
    try simp only [nq] at hc2
    refine WL.skip rfl rfl rfl rfl rfl ?_
    refine WL.skip rfl rfl rfl rfl rfl ?_
    refine WL.skip rfl rfl rfl rfl rfl ?_
    refine WL.skip rfl rfl rfl rfl rfl ?_
    refine WL.skip rfl rfl rfl rfl rfl ?_
    refine WL.pure rfl rfl rfl (PV.pickF rfl rfl) ?_
    refine WL.mv rfl rfl ?_
    refine WL.skip rfl rfl rfl rfl rfl ?_
    refine WL.skip rfl rfl rfl rfl rfl ?_
    refine WL.skip rfl rfl rfl rfl rfl ?_
    refine WL.skip rfl rfl rfl rfl rfl ?_
    refine WL.skip rfl rfl rfl rfl rfl ?_
    refine WL.pure rfl rfl rfl (PV.pickF rfl rfl) ?_
    refine WL.asg rfl rfl ?_
    refine WL.nilS ?_
    refine CW.ret ?_
    refine RQ.r1 rfl ?_
    refine ⟨?_, hB⟩
    first | rfl | exact bT (by omega) | exact bF (by omega) | exact bD (by omega) | exact iE (by omega) | (simp_all; done) | (simp_all; omega) | (simp_all; intros; omega)
  try simp only [nq] at hc2
  refine WL.pureG rfl rfl rfl rfl rfl (PV.fieldAddr T.fl88_2 rfl hb1.cells) ?_
  refine WL.pureG rfl rfl rfl rfl rfl (PV.load1 T.na86 rfl hb1.cells (Ext.refl _) rfl) ?_
  refine WL.pureG rfl rfl rfl rfl rfl (PV.fieldAddr T.fl88_2 rfl hb2.cells) ?_
  refine WL.pureG rfl rfl rfl rfl rfl (PV.load1 T.na86 rfl hb2.cells (Ext.refl _) rfl) ?_
  refine WL.opG rfl rfl rfl (OpK.callR rfl T.cf162 rfl (c_slices_Equal_impl_PairArc_impl_PairArc (by first | assumption | exact Rd.up (by assumption) hB | exact Osl.rd (by assumption) | exact Osn.rdR (by assumption) | exact NL.rd (by assumption) | exact rdII (by assumption) (by assumption) | exact Inn.rd (by assumption) (by omega)) (by first | assumption | exact Rd.up (by assumption) hB | exact Osl.rd (by assumption) | exact Osn.rdR (by assumption) | exact NL.rd (by assumption) | exact rdII (by assumption) (by assumption) | exact Inn.rd (by assumption) (by omega))) (fun w3 hXw3 => ?_))
  have hB := hB.trans hXw3
  have hb1 := hb1.up hXw3
  have hb2 := hb2.up hXw3
  refine WL.pure rfl rfl rfl (PV.pickT rfl rfl) ?_
  refine WL.mv rfl rfl ?_
  refine WL.split (t := 24) rfl (fun hc3 => ?_) (fun hc3 => ?_)
  rotate_left
  · skip
    try simp only [nq] at hc3
    refine WL.skip rfl rfl rfl rfl rfl ?_
    refine WL.skip rfl rfl rfl rfl rfl ?_
    refine WL.skip rfl rfl rfl rfl rfl ?_
    refine WL.skip rfl rfl rfl rfl rfl ?_
    refine WL.skip rfl rfl rfl rfl rfl ?_
    refine WL.pure rfl rfl rfl (PV.pickF rfl rfl) ?_
    refine WL.asg rfl rfl ?_
    refine WL.nilS ?_
    refine CW.ret ?_
    refine RQ.r1 rfl ?_
    refine ⟨?_, hB⟩
    first | rfl | exact bT (by omega) | exact bF (by omega) | exact bD (by omega) | exact iE (by omega) | (simp_all; done) | (simp_all; omega) | (simp_all; intros; omega)
  try simp only [nq] at hc3
  refine WL.pureG rfl rfl rfl rfl rfl (PV.fieldAddr T.fl88_3 rfl hb1.cells) ?_
  refine WL.pureG rfl rfl rfl rfl rfl (PV.load1 T.na62 rfl hb1.cells (Ext.refl _) rfl) ?_
  refine WL.pureG rfl rfl rfl rfl rfl (PV.fieldAddr T.fl88_3 rfl hb2.cells) ?_
  refine WL.pureG rfl rfl rfl rfl rfl (PV.load1 T.na62 rfl hb2.cells (Ext.refl _) rfl) ?_
  refine WL.opG rfl rfl rfl (OpK.callR rfl T.cf143 rfl (c_slices_Equal_bool_bool (by first | assumption | exact Rd.up (by assumption) hB | exact Osl.rd (by assumption) | exact Osn.rdR (by assumption) | exact NL.rd (by assumption) | exact rdII (by assumption) (by assumption) | exact Inn.rd (by assumption) (by omega)) (by first | assumption | exact Rd.up (by assumption) hB | exact Osl.rd (by assumption) | exact Osn.rdR (by assumption) | exact NL.rd (by assumption) | exact rdII (by assumption) (by assumption) | exact Inn.rd (by assumption) (by omega))) (fun w4 hXw4 => ?_))
  have hB := hB.trans hXw4
  have hb1 := hb1.up hXw4
  have hb2 := hb2.up hXw4
  refine WL.pure rfl rfl rfl (PV.pickT rfl rfl) ?_
  refine WL.asg rfl rfl ?_
  refine WL.nilS ?_
  refine CW.ret ?_
  refine RQ.r1 rfl ?_
  refine ⟨?_, hB⟩
  first | rfl | exact bT (by omega) | exact bF (by omega) | exact bD (by omega) | exact iE (by omega) | (simp_all; done) | (simp_all; omega) | (simp_all; intros; omega)
theorem c_spec_SameSided {w : World} {a0 : Int} {a1 : Int} {va2 : Value} {xa2 : List R4} {va3 : Value} {xa3 : List Bool} {vb2 vb3 : Value} (ha2 : Rd ER w va2 xa2) (ha3 : Rd EB w va3 xa3) (hb2 : Rd ER w vb2 xa2) (hb3 : Rd EB w vb3 xa3) : Calls Try.prog 73 #[.agg #[.int .i64 a0, .int .i64 a1, va2, va3], .agg #[.int .i64 a0, .int .i64 a1, vb2, vb3]] w (Ret1 (RQt (.bool true) w)) := by
  have hB : Ext w w := Ext.refl w
  have hla2 := ha2.leI; have hla3 := ha3.leI
  refine callsOf (vs := [_, _]) Try.func73 rfl Try.ntmps73 rfl rfl ?_
  refine CW.seq ?_
  refine CW.reg ?_
  refine WL.op rfl (OpK.box rfl rfl (by first | exact Rd.cells1 (by assumption) | exact Osl.cells1 (by assumption) | exact Osn.cells1 (by assumption) | exact Rd.cells1 (NL.rd (by assumption)) | exact Inn.cell1 (by assumption) (by omega) | assumption | rfl) (fun b1 w1 hXw1 hb1 hge1 => ?_))
  have hl1 := Lo.new hB hge1
  have hB := hB.trans hXw1
  refine WL.op rfl (OpK.box rfl rfl (by first | exact Rd.cells1 (by assumption) | exact Osl.cells1 (by assumption) | exact Osn.cells1 (by assumption) | exact Rd.cells1 (NL.rd (by assumption)) | exact Inn.cell1 (by assumption) (by omega) | assumption | rfl) (fun b2 w2 hXw2 hb2 hge2 => ?_))
  have hl2 := Lo.new hB hge2
  have hd1_2 := Dj.new hb1.ltO hge2
  have hB := hB.trans hXw2
  have hb1 := hb1.up hXw2
  refine WL.asg rfl rfl ?_
  refine WL.nilS ?_
  refine CW.seq ?_
  refine CW.seq ?_
  refine CW.reg ?_
  refine WL.pure rfl rfl rfl (PV.fieldAddr T.fl88_0 rfl hb1.cells) ?_
  refine WL.pure rfl rfl rfl (PV.load1 T.na2 rfl hb1.cells (Ext.refl _) rfl) ?_
  refine WL.pure rfl rfl rfl (PV.fieldAddr T.fl88_0 rfl hb2.cells) ?_
  refine WL.pure rfl rfl rfl (PV.load1 T.na2 rfl hb2.cells (Ext.refl _) rfl) ?_
  refine WL.pure rfl rfl rfl (PV.neq rfl rfl) ?_
  refine WL.mv rfl rfl ?_
  refine WL.split (t := 12) rfl (fun hc1 => ?_) (fun hc1 => ?_)
  · skip
    try simp only [nq] at hc1
    exfalso; revert hc1; simp
  try simp only [nq] at hc1
  refine WL.pureG rfl rfl rfl rfl rfl (PV.fieldAddr T.fl88_1 rfl hb1.cells) ?_
  refine WL.pureG rfl rfl rfl rfl rfl (PV.load1 T.na2 rfl hb1.cells (Ext.refl _) rfl) ?_
  refine WL.pureG rfl rfl rfl rfl rfl (PV.fieldAddr T.fl88_1 rfl hb2.cells) ?_
  refine WL.pureG rfl rfl rfl rfl rfl (PV.load1 T.na2 rfl hb2.cells (Ext.refl _) rfl) ?_
  refine WL.pureG rfl rfl rfl rfl rfl (PV.neq rfl rfl) ?_
  refine WL.pure rfl rfl rfl (PV.pickF rfl rfl) ?_
  refine WL.mv rfl rfl ?_
  refine WL.split (t := 19) rfl (fun hc2 => ?_) (fun hc2 => ?_)
  · skip
    try simp only [nq] at hc2
    exfalso; revert hc2; simp
  try simp only [nq] at hc2
  refine WL.pureG rfl rfl rfl rfl rfl (PV.fieldAddr T.fl88_2 rfl hb1.cells) ?_
  refine WL.pureG rfl rfl rfl rfl rfl (PV.load1 T.na86 rfl hb1.cells (Ext.refl _) rfl) ?_
  refine WL.pureG rfl rfl rfl rfl rfl ((by first | exact PV.len rfl (by assumption) T.sl86 | exact PV.lenOs rfl (by assumption) T.sl86 | exact PV.len rfl (NL.rd (by assumption)) T.sl86 | exact PV.len rfl (Inn.rd (by assumption) (by omega)) T.sl86)) ?_
  refine WL.pureG rfl rfl rfl rfl rfl (PV.fieldAddr T.fl88_2 rfl hb2.cells) ?_
  refine WL.pureG rfl rfl rfl rfl rfl (PV.load1 T.na86 rfl hb2.cells (Ext.refl _) rfl) ?_
  refine WL.pureG rfl rfl rfl rfl rfl ((by first | exact PV.len rfl (by assumption) T.sl86 | exact PV.lenOs rfl (by assumption) T.sl86 | exact PV.len rfl (NL.rd (by assumption)) T.sl86 | exact PV.len rfl (Inn.rd (by assumption) (by omega)) T.sl86)) ?_
  refine WL.pureG rfl rfl rfl rfl rfl (PV.neq rfl rfl) ?_
  refine WL.pure rfl rfl rfl (PV.pickF rfl rfl) ?_
  refine WL.mv rfl rfl ?_
  refine WL.split (t := 28) rfl (fun hc3 => ?_) (fun hc3 => ?_)
  · skip
    try simp only [nq] at hc3
    exfalso; revert hc3; simp
  try simp only [nq] at hc3
  refine WL.pureG rfl rfl rfl rfl rfl (PV.fieldAddr T.fl88_3 rfl hb1.cells) ?_
  refine WL.pureG rfl rfl rfl rfl rfl (PV.load1 T.na62 rfl hb1.cells (Ext.refl _) rfl) ?_
  refine WL.pureG rfl rfl rfl rfl rfl ((by first | exact PV.len rfl (by assumption) T.sl62 | exact PV.lenOs rfl (by assumption) T.sl62 | exact PV.len rfl (NL.rd (by assumption)) T.sl62 | exact PV.len rfl (Inn.rd (by assumption) (by omega)) T.sl62)) ?_
  refine WL.pureG rfl rfl rfl rfl rfl (PV.fieldAddr T.fl88_3 rfl hb2.cells) ?_
  refine WL.pureG rfl rfl rfl rfl rfl (PV.load1 T.na62 rfl hb2.cells (Ext.refl _) rfl) ?_
  refine WL.pureG rfl rfl rfl rfl rfl ((by first | exact PV.len rfl (by assumption) T.sl62 | exact PV.lenOs rfl (by assumption) T.sl62 | exact PV.len rfl (NL.rd (by assumption)) T.sl62 | exact PV.len rfl (Inn.rd (by assumption) (by omega)) T.sl62)) ?_
  refine WL.pureG rfl rfl rfl rfl rfl (PV.neq rfl rfl) ?_
  refine WL.pure rfl rfl rfl (PV.pickF rfl rfl) ?_
  refine WL.nilS ?_
  refine CW.cond rfl (fun hc4 => ?_) (fun hc4 => ?_)
  · skip
    try simp only [nq] at hc4
    exfalso; revert hc4; simp
  try simp only [nq] at hc4
  refine CW.skipS ?_
  refine CW.seq ?_
  refine CW.seq ?_
  refine CW.reg ?_
  refine WL.pure rfl rfl rfl (PV.fieldAddr T.fl88_2 rfl hb1.cells) ?_
  refine WL.pure rfl rfl rfl (PV.load1 T.na86 rfl hb1.cells (Ext.refl _) rfl) ?_
  refine WL.pure rfl rfl rfl ((by first | exact PV.len rfl (by assumption) T.sl86 | exact PV.lenOs rfl (by assumption) T.sl86 | exact PV.len rfl (NL.rd (by assumption)) T.sl86 | exact PV.len rfl (Inn.rd (by assumption) (by omega)) T.sl86)) ?_
  refine WL.mv rfl rfl ?_
  refine WL.nilS ?_
  refine CW.block ?_
  refine CW.loop (σk := [(2, _), (3, _), (39, _)]) (fun ρ wz m => ∃ (k : Nat), ρ = [(40, .int .i64 (k : Nat))] ∧ m = xa2.length - k ∧ UpdL [] w2 wz ∧ (k ≤ xa2.length)) (ρ₀ := [(40, _)]) (m₀ := _) ⟨rfl, rfl, rfl, rfl, trivial⟩ ⟨0, rfl, rfl, (UpdL.refl _ _), (by first | omega | rfl | (simp; done) | assumption | (simp_all; done))⟩ ?_
  rintro _ wl1 _ ⟨k, rfl, rfl, hU0, hk⟩
  have hb1 := hb1.loop hU0 trivial
  have hb2 := hb2.loop hU0 trivial
  have hB := hB.loop hU0 trivial
  refine CW.seq ?_
  refine CW.reg ?_
  refine WL.pure rfl rfl rfl (PV.lss rfl rfl) ?_
  refine WL.nilS ?_
  refine CW.seq ?_
  refine CW.cond rfl (fun hc5 => ?_) (fun hc5 => ?_)
  · skip
    try simp only [nq] at hc5
    refine CW.skipS ?_
    refine CW.seq ?_
    refine CW.block ?_
    refine CW.seq ?_
    refine CW.reg ?_
    refine WL.mv rfl rfl ?_
    refine WL.asg rfl rfl ?_
    refine WL.nilS ?_
    refine CW.seq ?_
    refine CW.draw T.mixed (by kernel_rfl) (fun _ _ _ _ _ h => h) (fun w8 w9 => Upd none w8 w9) 11 (.take 0 (.take 1 (.take 2 (.take 3 (.take 4 (.take 5 (.take 6 (.take 7 (.take 8 (.take 9 (.take 10 .done))))))))))) (by kernel_rfl) (fun w3 hXd => ?_)
    have hB := hB.trans hXd
    have hb1 := hb1.up hXd
    have hb2 := hb2.up hXd
    have hU0 := hU0.ext hXd
    have hBr := hB
    have hS : Upd none w3 w3 := Ext.toUpd (Ext.refl _)
    refine HP.take rfl rfl rfl rfl hS (fun wS hS1 => PV.fieldAddr T.fl88_2 rfl hb1.cells) ?_
    refine HP.take rfl rfl rfl rfl hS (fun wS hS1 => PV.load1 T.na86 rfl (Bx.cells (Bx.updD (by assumption) hS1 (Dj.nlR _))) (Ext.refl _) rfl) ?_
    refine HP.take rfl rfl rfl rfl hS (fun wS hS1 => PV.move rfl) ?_
    first
      | refine HP.at (x := .tmp 44) (y := .tmp 45) (E := ER) ((0, 0, 0, 0)) rfl rfl (by first | assumption | exact Inn.rd (by assumption) (by omega)) (by first | omega | (simp only [List.length_set]; omega) | (simp only [List.length_append, List.length_take, List.length_replicate, List.length_drop]; omega)) (fun p1 csp1 hpp1 hcp1 hq => ?_)
      | refine HP.atZ (x := .tmp 44) (y := .tmp 45) (E := ER) ((0, 0, 0, 0)) rfl rfl (by first | assumption | exact Inn.rd (by assumption) (by omega)) (by first | omega | (simp only [List.length_set]; omega) | (simp only [List.length_append, List.length_take, List.length_replicate, List.length_drop]; omega)) (fun p1 csp1 hpp1 hzp1 hcp1 hq => ?_)
    cases hq
    refine HP.take rfl rfl rfl rfl hS (fun wS hS1 => (by first | exact PV.indexAddr hpp1 rfl rfl T.sl86 | exact PV.indexAddr hpp1 rfl (by rw [← hzp1]; rfl) T.sl86)) ?_
    refine HP.take rfl rfl rfl rfl hS (fun wS hS1 => (by first | exact PV.loadA T.ag178 rfl (by first | exact Cells.up (by assumption) (hBr.trans hS1) | exact Bx.cells (Bx.updD (by assumption) hS1 (Dj.nlR _)) | exact Cells.upd (by assumption) hS1 (by simp)) (Ext.refl _) rfl | exact PV.loadP (ds := [_, _, _, _]) T.ag178 rfl (by first | exact Cells.up (by assumption) (hBr.trans hS1) | exact Bx.cells (Bx.updD (by assumption) hS1 (Dj.nlR _)) | exact Cells.upd (by assumption) hS1 (by simp)) (Ext.refl _) rfl rfl)) ?_
    refine HP.take rfl rfl rfl rfl hS (fun wS hS1 => PV.fieldAddr T.fl88_2 rfl hb2.cells) ?_
    refine HP.take rfl rfl rfl rfl hS (fun wS hS1 => PV.load1 T.na86 rfl (Bx.cells (Bx.updD (by assumption) hS1 (Dj.nlR _))) (Ext.refl _) rfl) ?_
    refine HP.take rfl rfl rfl rfl hS (fun wS hS1 => PV.move rfl) ?_
    first
      | refine HP.at (x := .tmp 49) (y := .tmp 50) (E := ER) ((0, 0, 0, 0)) rfl rfl (by first | assumption | exact Inn.rd (by assumption) (by omega)) (by first | omega | (simp only [List.length_set]; omega) | (simp only [List.length_append, List.length_take, List.length_replicate, List.length_drop]; omega)) (fun p2 csp2 hpp2 hcp2 hq => ?_)
      | refine HP.atZ (x := .tmp 49) (y := .tmp 50) (E := ER) ((0, 0, 0, 0)) rfl rfl (by first | assumption | exact Inn.rd (by assumption) (by omega)) (by first | omega | (simp only [List.length_set]; omega) | (simp only [List.length_append, List.length_take, List.length_replicate, List.length_drop]; omega)) (fun p2 csp2 hpp2 hzp2 hcp2 hq => ?_)
    cases hq
    refine HP.take rfl rfl rfl rfl hS (fun wS hS1 => (by first | exact PV.indexAddr hpp2 rfl rfl T.sl86 | exact PV.indexAddr hpp2 rfl (by rw [← hzp2]; rfl) T.sl86)) ?_
    refine HP.take rfl rfl rfl rfl hS (fun wS hS1 => (by first | exact PV.loadA T.ag178 rfl (by first | exact Cells.up (by assumption) (hBr.trans hS1) | exact Bx.cells (Bx.updD (by assumption) hS1 (Dj.nlR _)) | exact Cells.upd (by assumption) hS1 (by simp)) (Ext.refl _) rfl | exact PV.loadP (ds := [_, _, _, _]) T.ag178 rfl (by first | exact Cells.up (by assumption) (hBr.trans hS1) | exact Bx.cells (Bx.updD (by assumption) hS1 (Dj.nlR _)) | exact Cells.upd (by assumption) hS1 (by simp)) (Ext.refl _) rfl rfl)) ?_
    refine HP.take rfl rfl rfl rfl hS (fun wS hS1 => PV.neq4 T.s4178 rfl rfl) ?_
    refine HP.doneS ?_
    refine CW.cond rfl (fun hc6 => ?_) (fun hc6 => ?_)
    · skip
      try simp only [nq] at hc6
      exfalso; revert hc6; simp
    try simp only [nq] at hc6
    refine CW.skip ?_
    refine NQ.block ?_
    refine NQ.then ?_
    refine CW.reg ?_
    refine WL.pure rfl rfl rfl (PV.add rfl rfl (by constructor <;> omega)) ?_
    refine WL.mv rfl rfl ?_
    refine WL.nil ?_
    refine NQ.next (ρ := [(40, _)]) ⟨rfl, rfl, rfl, rfl, trivial⟩ ?_
    exact ⟨_, ⟨k + 1, rfl, rfl, hU0, (by first | omega | assumption | (simp_all; done) | (simp_all; omega))⟩, by omega⟩
  try simp only [nq] at hc5
  refine CW.exit ?_
  refine XQ.then ?_
  refine XQ.then ?_
  refine XQ.here ?_
  refine NQ.then ?_
  refine CW.seq ?_
  refine CW.seq ?_
  refine CW.reg ?_
  refine WL.pure rfl rfl rfl (PV.fieldAddr T.fl88_3 rfl hb1.cells) ?_
  refine WL.pure rfl rfl rfl (PV.load1 T.na62 rfl hb1.cells (Ext.refl _) rfl) ?_
  refine WL.pure rfl rfl rfl ((by first | exact PV.len rfl (by assumption) T.sl62 | exact PV.lenOs rfl (by assumption) T.sl62 | exact PV.len rfl (NL.rd (by assumption)) T.sl62 | exact PV.len rfl (Inn.rd (by assumption) (by omega)) T.sl62)) ?_
  refine WL.mv rfl rfl ?_
  refine WL.nilS ?_
  refine CW.block ?_
  refine CW.loop (σk := [(2, _), (3, _), (57, _)]) (fun ρ wz m => ∃ (k : Nat), ρ = [(58, .int .i64 (k : Nat))] ∧ m = xa3.length - k ∧ UpdL [] wl1 wz ∧ (k ≤ xa3.length)) (ρ₀ := [(58, _)]) (m₀ := _) ⟨rfl, rfl, rfl, rfl, trivial⟩ ⟨0, rfl, rfl, (UpdL.refl _ _), (by first | omega | rfl | (simp; done) | assumption | (simp_all; done))⟩ ?_
  rintro _ wl2 _ ⟨k, rfl, rfl, hU1, hk⟩
  have hb1 := hb1.loop hU1 trivial
  have hb2 := hb2.loop hU1 trivial
  have hB := hB.loop hU1 trivial
  refine CW.seq ?_
  refine CW.reg ?_
  refine WL.pure rfl rfl rfl (PV.lss rfl rfl) ?_
  refine WL.nilS ?_
  refine CW.seq ?_
  refine CW.cond rfl (fun hc7 => ?_) (fun hc7 => ?_)
  · skip
    try simp only [nq] at hc7
    refine CW.skipS ?_
    refine CW.seq ?_
    refine CW.block ?_
    refine CW.seq ?_
    refine CW.reg ?_
    refine WL.mv rfl rfl ?_
    refine WL.asg rfl rfl ?_
    refine WL.nilS ?_
    refine CW.seq ?_
    refine CW.draw T.mixed (by kernel_rfl) (fun _ _ _ _ _ h => h) (fun w8 w9 => Upd none w8 w9) 11 (.take 0 (.take 1 (.take 2 (.take 3 (.take 4 (.take 5 (.take 6 (.take 7 (.take 8 (.take 9 (.take 10 .done))))))))))) (by kernel_rfl) (fun w4 hXd => ?_)
    have hB := hB.trans hXd
    have hb1 := hb1.up hXd
    have hb2 := hb2.up hXd
    have hU1 := hU1.ext hXd
    have hBr := hB
    have hS : Upd none w4 w4 := Ext.toUpd (Ext.refl _)
    refine HP.take rfl rfl rfl rfl hS (fun wS hS1 => PV.fieldAddr T.fl88_3 rfl hb1.cells) ?_
    refine HP.take rfl rfl rfl rfl hS (fun wS hS1 => PV.load1 T.na62 rfl (Bx.cells (Bx.updD (by assumption) hS1 (Dj.nlR _))) (Ext.refl _) rfl) ?_
    refine HP.take rfl rfl rfl rfl hS (fun wS hS1 => PV.move rfl) ?_
    first
      | refine HP.at (x := .tmp 62) (y := .tmp 63) (E := EB) (false) rfl rfl (by first | assumption | exact Inn.rd (by assumption) (by omega)) (by first | omega | (simp only [List.length_set]; omega) | (simp only [List.length_append, List.length_take, List.length_replicate, List.length_drop]; omega)) (fun p3 csp3 hpp3 hcp3 hq => ?_)
      | refine HP.atZ (x := .tmp 62) (y := .tmp 63) (E := EB) (false) rfl rfl (by first | assumption | exact Inn.rd (by assumption) (by omega)) (by first | omega | (simp only [List.length_set]; omega) | (simp only [List.length_append, List.length_take, List.length_replicate, List.length_drop]; omega)) (fun p3 csp3 hpp3 hzp3 hcp3 hq => ?_)
    cases hq
    refine HP.take rfl rfl rfl rfl hS (fun wS hS1 => (by first | exact PV.indexAddr hpp3 rfl rfl T.sl62 | exact PV.indexAddr hpp3 rfl (by rw [← hzp3]; rfl) T.sl62)) ?_
    refine HP.take rfl rfl rfl rfl hS (fun wS hS1 => (by first | exact PV.load0 T.na4 rfl (by first | exact Cells.up (by assumption) (hBr.trans hS1) | exact Bx.cells (Bx.updD (by assumption) hS1 (Dj.nlR _)) | exact Cells.upd (by assumption) hS1 (by simp)) (Ext.refl _) rfl | exact PV.load1 T.na4 rfl (by first | exact Cells.up (by assumption) (hBr.trans hS1) | exact Bx.cells (Bx.updD (by assumption) hS1 (Dj.nlR _)) | exact Cells.upd (by assumption) hS1 (by simp)) (Ext.refl _) rfl)) ?_
    refine HP.take rfl rfl rfl rfl hS (fun wS hS1 => PV.fieldAddr T.fl88_3 rfl hb2.cells) ?_
    refine HP.take rfl rfl rfl rfl hS (fun wS hS1 => PV.load1 T.na62 rfl (Bx.cells (Bx.updD (by assumption) hS1 (Dj.nlR _))) (Ext.refl _) rfl) ?_
    refine HP.take rfl rfl rfl rfl hS (fun wS hS1 => PV.move rfl) ?_
    first
      | refine HP.at (x := .tmp 67) (y := .tmp 68) (E := EB) (false) rfl rfl (by first | assumption | exact Inn.rd (by assumption) (by omega)) (by first | omega | (simp only [List.length_set]; omega) | (simp only [List.length_append, List.length_take, List.length_replicate, List.length_drop]; omega)) (fun p4 csp4 hpp4 hcp4 hq => ?_)
      | refine HP.atZ (x := .tmp 67) (y := .tmp 68) (E := EB) (false) rfl rfl (by first | assumption | exact Inn.rd (by assumption) (by omega)) (by first | omega | (simp only [List.length_set]; omega) | (simp only [List.length_append, List.length_take, List.length_replicate, List.length_drop]; omega)) (fun p4 csp4 hpp4 hzp4 hcp4 hq => ?_)
    cases hq
    refine HP.take rfl rfl rfl rfl hS (fun wS hS1 => (by first | exact PV.indexAddr hpp4 rfl rfl T.sl62 | exact PV.indexAddr hpp4 rfl (by rw [← hzp4]; rfl) T.sl62)) ?_
    refine HP.take rfl rfl rfl rfl hS (fun wS hS1 => (by first | exact PV.load0 T.na4 rfl (by first | exact Cells.up (by assumption) (hBr.trans hS1) | exact Bx.cells (Bx.updD (by assumption) hS1 (Dj.nlR _)) | exact Cells.upd (by assumption) hS1 (by simp)) (Ext.refl _) rfl | exact PV.load1 T.na4 rfl (by first | exact Cells.up (by assumption) (hBr.trans hS1) | exact Bx.cells (Bx.updD (by assumption) hS1 (Dj.nlR _)) | exact Cells.upd (by assumption) hS1 (by simp)) (Ext.refl _) rfl)) ?_
    refine HP.take rfl rfl rfl rfl hS (fun wS hS1 => PV.neqB T.bl4 rfl rfl) ?_
    refine HP.doneS ?_
    refine CW.cond rfl (fun hc8 => ?_) (fun hc8 => ?_)
    · skip
      try simp only [nq] at hc8
      exfalso; revert hc8; simp
    try simp only [nq] at hc8
    refine CW.skip ?_
    refine NQ.block ?_
    refine NQ.then ?_
    refine CW.reg ?_
    refine WL.pure rfl rfl rfl (PV.add rfl rfl (by constructor <;> omega)) ?_
    refine WL.mv rfl rfl ?_
    refine WL.nil ?_
    refine NQ.next (ρ := [(58, _)]) ⟨rfl, rfl, rfl, rfl, trivial⟩ ?_
    exact ⟨_, ⟨k + 1, rfl, rfl, hU1, (by first | omega | assumption | (simp_all; done) | (simp_all; omega))⟩, by omega⟩
  try simp only [nq] at hc7
  refine CW.exit ?_
  refine XQ.then ?_
  refine XQ.then ?_
  refine XQ.here ?_
  refine NQ.then ?_
  refine CW.seq ?_
  refine CW.reg ?_
  refine WL.asg rfl rfl ?_
  refine WL.nilS ?_
  refine CW.ret ?_
  refine RQ.r1 rfl ?_
  refine ⟨?_, hB⟩
  first | rfl | exact bT (by omega) | exact bF (by omega) | exact bD (by omega) | exact iE (by omega) | (simp_all; done) | (simp_all; omega) | (simp_all; intros; omega)
theorem c_impl_ReadsPair {w : World} {a0 : Int} {a1 : Int} {va2 : Value} {xa2 : List R4} {va3 : Value} {xa3 : List Bool} {vi vo : Value} {ins outs : List Int}  (ha2 : Rd ER w va2 xa2) (ha3 : Rd EB w va3 xa3) (hi : Rd EI w vi ins) (ho : Rd EI w vo outs) (hv : sidedV a0 a1 xa2 xa3) (hw1 : isWordB ins a1 = true) (hw2 : isWordB outs a1 = true) : Calls Try.prog 74 #[.agg #[.int .i64 a0, .int .i64 a1, va2, va3], vi, vo] w (Ret1 (RQt (.tuple #[.bool (rdB xa2 ins outs xa3), .bool true]) w)) := by
  have hB : Ext w w := Ext.refl w
  have hla2 := ha2.leI; have hla3 := ha3.leI; have hli := hi.leI; have hlo := ho.leI; have h12 := isW_12 hw1; have h12o := isW_12 hw2
  refine callsOf (vs := [_, _, _]) Try.func74 rfl Try.ntmps74 rfl rfl ?_
  refine CW.seq ?_
  refine CW.reg ?_
  refine WL.op rfl (OpK.box rfl rfl (by first | exact Rd.cells1 (by assumption) | exact Osl.cells1 (by assumption) | exact Osn.cells1 (by assumption) | exact Rd.cells1 (NL.rd (by assumption)) | exact Inn.cell1 (by assumption) (by omega) | assumption | rfl) (fun b1 w1 hXw1 hb1 hge1 => ?_))
  have hl1 := Lo.new hB hge1
  have hB := hB.trans hXw1
  refine WL.asg rfl rfl ?_
  refine WL.asg rfl rfl ?_
  refine WL.nilS ?_
  refine CW.seq ?_
  refine CW.seq ?_
  refine CW.reg ?_
  refine WL.pure rfl rfl rfl (PV.loadA T.ag88 rfl hb1.cells (Ext.refl _) rfl) ?_
  refine WL.op rfl (OpK.callR rfl T.cf71 rfl (c_impl_ValidSided (by first | assumption | exact Rd.up (by assumption) hB | exact Osl.rd (by assumption) | exact Osn.rdR (by assumption) | exact NL.rd (by assumption) | exact rdII (by assumption) (by assumption) | exact Inn.rd (by assumption) (by omega)) (by first | assumption | exact Rd.up (by assumption) hB | exact Osl.rd (by assumption) | exact Osn.rdR (by assumption) | exact NL.rd (by assumption) | exact rdII (by assumption) (by assumption) | exact Inn.rd (by assumption) (by omega))) (fun w2 hXw2 => ?_))
  have hB := hB.trans hXw2
  have hb1 := hb1.up hXw2
  refine WL.pure rfl rfl rfl (PV.not rfl) ?_
  refine WL.mv rfl rfl ?_
  refine WL.split (t := 11) rfl (fun hc1 => ?_) (fun hc1 => ?_)
  · skip
    try simp only [nq] at hc1
    exfalso; first | exact absurd hv (by assumption) | (revert hc1; rw [hw1]; decide) | (revert hc1; rw [hw2]; decide)
  try simp only [nq] at hc1
  refine WL.pureG rfl rfl rfl rfl rfl (PV.move rfl) ?_
  refine WL.pureG rfl rfl rfl rfl rfl (PV.fieldAddr T.fl88_1 rfl hb1.cells) ?_
  refine WL.pureG rfl rfl rfl rfl rfl (PV.load1 T.na2 rfl hb1.cells (Ext.refl _) rfl) ?_
  refine WL.opG rfl rfl rfl (OpK.callR rfl T.cf124 rfl (c_impl_IsWord (by first | assumption | exact Rd.up (by assumption) hB | exact Osl.rd (by assumption) | exact Osn.rdR (by assumption) | exact NL.rd (by assumption) | exact rdII (by assumption) (by assumption) | exact Inn.rd (by assumption) (by omega))) (fun w3 hXw3 => ?_))
  have hB := hB.trans hXw3
  have hb1 := hb1.up hXw3
  refine WL.pureG rfl rfl rfl rfl rfl (PV.not rfl) ?_
  refine WL.pure rfl rfl rfl (PV.pickF rfl rfl) ?_
  refine WL.mv rfl rfl ?_
  refine WL.split (t := 18) rfl (fun hc2 => ?_) (fun hc2 => ?_)
  · skip
    try simp only [nq] at hc2
    exfalso; first | exact absurd hv (by assumption) | (revert hc2; rw [hw1]; decide) | (revert hc2; rw [hw2]; decide)
  try simp only [nq] at hc2
  refine WL.pureG rfl rfl rfl rfl rfl (PV.move rfl) ?_
  refine WL.pureG rfl rfl rfl rfl rfl (PV.fieldAddr T.fl88_1 rfl hb1.cells) ?_
  refine WL.pureG rfl rfl rfl rfl rfl (PV.load1 T.na2 rfl hb1.cells (Ext.refl _) rfl) ?_
  refine WL.opG rfl rfl rfl (OpK.callR rfl T.cf124 rfl (c_impl_IsWord (by first | assumption | exact Rd.up (by assumption) hB | exact Osl.rd (by assumption) | exact Osn.rdR (by assumption) | exact NL.rd (by assumption) | exact rdII (by assumption) (by assumption) | exact Inn.rd (by assumption) (by omega))) (fun w4 hXw4 => ?_))
  have hB := hB.trans hXw4
  have hb1 := hb1.up hXw4
  refine WL.pureG rfl rfl rfl rfl rfl (PV.not rfl) ?_
  refine WL.pure rfl rfl rfl (PV.pickF rfl rfl) ?_
  refine WL.nilS ?_
  refine CW.cond rfl (fun hc3 => ?_) (fun hc3 => ?_)
  · skip
    try simp only [nq] at hc3
    exfalso; first | exact absurd hv (by assumption) | simp_all
  try simp only [nq] at hc3
  refine CW.skipS ?_
  refine CW.seq ?_
  refine CW.reg ?_
  refine WL.pure rfl rfl rfl (PV.loadA T.ag88 rfl hb1.cells (Ext.refl _) rfl) ?_
  refine WL.mv rfl rfl ?_
  refine WL.mv rfl rfl ?_
  refine WL.op rfl (OpK.callR rfl T.cf157 rfl (c_impl_Sided_readsPair (by first | assumption | exact Rd.up (by assumption) hB | exact Osl.rd (by assumption) | exact Osn.rdR (by assumption) | exact NL.rd (by assumption) | exact rdII (by assumption) (by assumption) | exact Inn.rd (by assumption) (by omega)) (by first | assumption | exact Rd.up (by assumption) hB | exact Osl.rd (by assumption) | exact Osn.rdR (by assumption) | exact NL.rd (by assumption) | exact rdII (by assumption) (by assumption) | exact Inn.rd (by assumption) (by omega)) (by first | assumption | exact Rd.up (by assumption) hB | exact Osl.rd (by assumption) | exact Osn.rdR (by assumption) | exact NL.rd (by assumption) | exact rdII (by assumption) (by assumption) | exact Inn.rd (by assumption) (by omega)) (by first | assumption | exact Rd.up (by assumption) hB | exact Osl.rd (by assumption) | exact Osn.rdR (by assumption) | exact NL.rd (by assumption) | exact rdII (by assumption) (by assumption) | exact Inn.rd (by assumption) (by omega)) (by first | assumption | omega | (simp only [marks_len, marksB_len, marksR_len, sumL_marksS]; omega)) (by first | assumption | omega | (simp only [marks_len, marksB_len, marksR_len, sumL_marksS]; omega)) (by first | assumption | omega | (simp only [marks_len, marksB_len, marksR_len, sumL_marksS]; omega))) (fun w5 hXw5 => ?_))
  have hB := hB.trans hXw5
  have hb1 := hb1.up hXw5
  refine WL.asg rfl rfl ?_
  refine WL.asg rfl rfl ?_
  refine WL.nilS ?_
  refine CW.ret ?_
  refine RQ.r2 rfl rfl ?_
  refine ⟨?_, hB⟩
  rfl
theorem c_laws_b10Ints {w : World} {va vb : Value} {xs ys : List Int} (ha : Rd EI w va xs) (hb : Rd EI w vb ys) : Calls Try.prog 75 #[va, vb] w (Ret1 (RQt (.bool (decide (xs = ys))) w)) := by
  have hB : Ext w w := Ext.refl w
  have hla := ha.leI; have hlb := hb.leI
  refine callsOf (vs := [_, _]) Try.func75 rfl Try.ntmps75 rfl rfl ?_
  refine CW.seq ?_
  refine CW.reg ?_
  refine WL.asg rfl rfl ?_
  refine WL.nilS ?_
  refine CW.seq ?_
  refine CW.seq ?_
  refine CW.reg ?_
  refine WL.mv rfl rfl ?_
  refine WL.pure rfl rfl rfl ((by first | exact PV.len rfl (by assumption) T.sl28 | exact PV.lenOs rfl (by assumption) T.sl28 | exact PV.len rfl (NL.rd (by assumption)) T.sl28 | exact PV.len rfl (Inn.rd (by assumption) (by omega)) T.sl28)) ?_
  refine WL.mv rfl rfl ?_
  refine WL.pure rfl rfl rfl ((by first | exact PV.len rfl (by assumption) T.sl28 | exact PV.lenOs rfl (by assumption) T.sl28 | exact PV.len rfl (NL.rd (by assumption)) T.sl28 | exact PV.len rfl (Inn.rd (by assumption) (by omega)) T.sl28)) ?_
  refine WL.pure rfl rfl rfl (PV.neq rfl rfl) ?_
  refine WL.nilS ?_
  refine CW.cond rfl (fun hc1 => ?_) (fun hc1 => ?_)
  · skip
    try simp only [nq] at hc1
    refine CW.seq ?_
    refine CW.reg ?_
    refine WL.asg rfl rfl ?_
    refine WL.nilS ?_
    refine CW.ret ?_
    refine RQ.then ?_
    refine RQ.r1 rfl ?_
    refine ⟨?_, hB⟩
    first | exact bT (eq_of_takes (by omega) (by omega) he) | exact bF (by rintro rfl; simp_all)
  try simp only [nq] at hc1
  refine CW.skipS ?_
  refine CW.seq ?_
  refine CW.seq ?_
  refine CW.reg ?_
  refine WL.mv rfl rfl ?_
  refine WL.pure rfl rfl rfl ((by first | exact PV.len rfl (by assumption) T.sl28 | exact PV.lenOs rfl (by assumption) T.sl28 | exact PV.len rfl (NL.rd (by assumption)) T.sl28 | exact PV.len rfl (Inn.rd (by assumption) (by omega)) T.sl28)) ?_
  refine WL.mv rfl rfl ?_
  refine WL.nilS ?_
  refine CW.block ?_
  refine CW.loop (σk := [(0, _), (1, _), (12, _)]) (fun ρ wz m => ∃ (k : Nat), ρ = [(13, .int .i64 (k : Nat))] ∧ m = xs.length - k ∧ UpdL [] w wz ∧ (k ≤ xs.length) ∧ (xs.take k = ys.take k)) (ρ₀ := [(13, _)]) (m₀ := _) ⟨rfl, rfl, rfl, rfl, trivial⟩ ⟨0, rfl, rfl, (UpdL.refl _ _), (by first | omega | rfl | (simp; done) | assumption | (simp_all; done)), (by first | omega | rfl | (simp; done) | assumption | (simp_all; done))⟩ ?_
  rintro _ wl1 _ ⟨k, rfl, rfl, hU0, hk, he⟩
  have hB := hB.loop hU0 trivial
  refine CW.seq ?_
  refine CW.reg ?_
  refine WL.pure rfl rfl rfl (PV.lss rfl rfl) ?_
  refine WL.nilS ?_
  refine CW.seq ?_
  refine CW.cond rfl (fun hc2 => ?_) (fun hc2 => ?_)
  · skip
    try simp only [nq] at hc2
    refine CW.skipS ?_
    refine CW.seq ?_
    refine CW.block ?_
    refine CW.seq ?_
    refine CW.reg ?_
    refine WL.mv rfl rfl ?_
    refine WL.asg rfl rfl ?_
    refine WL.nilS ?_
    refine CW.seq ?_
    refine CW.draw T.mixed (by kernel_rfl) (fun _ _ _ _ _ h => h) (fun w8 w9 => Upd none w8 w9) 9 (.take 0 (.take 1 (.take 2 (.take 3 (.take 4 (.take 5 (.take 6 (.take 7 (.take 8 .done))))))))) (by kernel_rfl) (fun w1 hXd => ?_)
    have hB := hB.trans hXd
    have hU0 := hU0.ext hXd
    have hBr := hB
    have hS : Upd none w1 w1 := Ext.toUpd (Ext.refl _)
    refine HP.take rfl rfl rfl rfl hS (fun wS hS1 => PV.move rfl) ?_
    refine HP.take rfl rfl rfl rfl hS (fun wS hS1 => PV.move rfl) ?_
    first
      | refine HP.at (x := .tmp 16) (y := .tmp 17) (E := EI) (0) rfl rfl (by first | assumption | exact Inn.rd (by assumption) (by omega)) (by first | omega | (simp only [List.length_set]; omega) | (simp only [List.length_append, List.length_take, List.length_replicate, List.length_drop]; omega)) (fun p1 csp1 hpp1 hcp1 hq => ?_)
      | refine HP.atZ (x := .tmp 16) (y := .tmp 17) (E := EI) (0) rfl rfl (by first | assumption | exact Inn.rd (by assumption) (by omega)) (by first | omega | (simp only [List.length_set]; omega) | (simp only [List.length_append, List.length_take, List.length_replicate, List.length_drop]; omega)) (fun p1 csp1 hpp1 hzp1 hcp1 hq => ?_)
    cases hq
    refine HP.take rfl rfl rfl rfl hS (fun wS hS1 => (by first | exact PV.indexAddr hpp1 rfl rfl T.sl28 | exact PV.indexAddr hpp1 rfl (by rw [← hzp1]; rfl) T.sl28)) ?_
    refine HP.take rfl rfl rfl rfl hS (fun wS hS1 => (by first | exact PV.load0 T.na2 rfl (by first | exact Cells.up (by assumption) (hBr.trans hS1) | exact Bx.cells (Bx.updD (by assumption) hS1 (Dj.nlR _)) | exact Cells.upd (by assumption) hS1 (by simp)) (Ext.refl _) rfl | exact PV.load1 T.na2 rfl (by first | exact Cells.up (by assumption) (hBr.trans hS1) | exact Bx.cells (Bx.updD (by assumption) hS1 (Dj.nlR _)) | exact Cells.upd (by assumption) hS1 (by simp)) (Ext.refl _) rfl)) ?_
    refine HP.take rfl rfl rfl rfl hS (fun wS hS1 => PV.move rfl) ?_
    refine HP.take rfl rfl rfl rfl hS (fun wS hS1 => PV.move rfl) ?_
    first
      | refine HP.at (x := .tmp 20) (y := .tmp 21) (E := EI) (0) rfl rfl (by first | assumption | exact Inn.rd (by assumption) (by omega)) (by first | omega | (simp only [List.length_set]; omega) | (simp only [List.length_append, List.length_take, List.length_replicate, List.length_drop]; omega)) (fun p2 csp2 hpp2 hcp2 hq => ?_)
      | refine HP.atZ (x := .tmp 20) (y := .tmp 21) (E := EI) (0) rfl rfl (by first | assumption | exact Inn.rd (by assumption) (by omega)) (by first | omega | (simp only [List.length_set]; omega) | (simp only [List.length_append, List.length_take, List.length_replicate, List.length_drop]; omega)) (fun p2 csp2 hpp2 hzp2 hcp2 hq => ?_)
    cases hq
    refine HP.take rfl rfl rfl rfl hS (fun wS hS1 => (by first | exact PV.indexAddr hpp2 rfl rfl T.sl28 | exact PV.indexAddr hpp2 rfl (by rw [← hzp2]; rfl) T.sl28)) ?_
    refine HP.take rfl rfl rfl rfl hS (fun wS hS1 => (by first | exact PV.load0 T.na2 rfl (by first | exact Cells.up (by assumption) (hBr.trans hS1) | exact Bx.cells (Bx.updD (by assumption) hS1 (Dj.nlR _)) | exact Cells.upd (by assumption) hS1 (by simp)) (Ext.refl _) rfl | exact PV.load1 T.na2 rfl (by first | exact Cells.up (by assumption) (hBr.trans hS1) | exact Bx.cells (Bx.updD (by assumption) hS1 (Dj.nlR _)) | exact Cells.upd (by assumption) hS1 (by simp)) (Ext.refl _) rfl)) ?_
    refine HP.take rfl rfl rfl rfl hS (fun wS hS1 => PV.neq rfl rfl) ?_
    refine HP.doneS ?_
    refine CW.cond rfl (fun hc3 => ?_) (fun hc3 => ?_)
    · skip
      try simp only [nq] at hc3
      refine CW.seq ?_
      refine CW.reg ?_
      refine WL.asg rfl rfl ?_
      refine WL.nilS ?_
      refine CW.ret ?_
      refine RQ.block ?_
      refine RQ.then ?_
      refine RQ.then ?_
      refine RQ.block ?_
      refine RQ.then ?_
      refine RQ.r1 rfl ?_
      refine ⟨?_, hB⟩
      first | exact bT (eq_of_takes (by omega) (by omega) he) | exact bF (by rintro rfl; simp_all)
    try simp only [nq] at hc3
    refine CW.skip ?_
    refine NQ.block ?_
    refine NQ.then ?_
    refine CW.reg ?_
    refine WL.pure rfl rfl rfl (PV.add rfl rfl (by constructor <;> omega)) ?_
    refine WL.mv rfl rfl ?_
    refine WL.nil ?_
    refine NQ.next (ρ := [(13, _)]) ⟨rfl, rfl, rfl, rfl, trivial⟩ ?_
    exact ⟨_, ⟨k + 1, rfl, rfl, hU0, (by first | omega | assumption | (simp_all; done) | (simp_all; omega)), (by exact take_eq_succ (by omega) (by omega) he (by assumption))⟩, by omega⟩
  try simp only [nq] at hc2
  refine CW.exit ?_
  refine XQ.then ?_
  refine XQ.then ?_
  refine XQ.here ?_
  refine NQ.then ?_
  refine CW.seq ?_
  refine CW.reg ?_
  refine WL.asg rfl rfl ?_
  refine WL.nilS ?_
  refine CW.ret ?_
  refine RQ.r1 rfl ?_
  refine ⟨?_, hB⟩
  first | exact bT (eq_of_takes (by omega) (by omega) he) | exact bF (by rintro rfl; simp_all)

end Go.Proofs.Ythemmoceomdccaa
