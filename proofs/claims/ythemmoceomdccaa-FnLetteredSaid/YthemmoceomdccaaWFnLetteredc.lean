/- Walks of the functions that the law FnLettered reaches: each says what its function computes. No condition. -/
import Derived.Test.YthemmoceomdccaaProg
import Derived.Test.YthemmoceomdccaaLibM
import Derived.Test.YthemmoceomdccaaPlA
import Derived.Test.YthemmoceomdccaaLibT
import Derived.Test.YthemmoceomdccaaLibV
import Derived.Test.YthemmoceomdccaaPlK
import Derived.Test.YthemmoceomdccaaPlQ
import Derived.Test.YthemmoceomdccaaPlL
import Derived.Test.YthemmoceomdccaaPlO
import Derived.Test.YthemmoceomdccaaPlG
import Derived.Test.YthemmoceomdccaaLibW
import Derived.Test.YthemmoceomdccaaPlSo
import Derived.Test.YthemmoceomdccaaPlFc
import Derived.Test.YthemmoceomdccaaPlDr
import Derived.Test.YthemmoceomdccaaPlFs
import Derived.Test.YthemmoceomdccaaPlFl
import Derived.Test.YthemmoceomdccaaWFnLetteredb
namespace Go.Proofs.Ythemmoceomdccaa
open Go Go.WX Go.Proofs
set_option linter.unusedSimpArgs false
set_option linter.unusedVariables false

theorem c_impl_leadingTo_impl_BackLiterate_1 {w : World} {va vw vl : Value} {pl : Addr} {vs : List Value} {xss : List (List Int)} {xs : List Int} {cs : List C4}  (ha : Rd EV w va vs) (hlv : vs.length = xss.length) (hxx : ∀ k : Nat, k < xss.length → Rd EI w (vs.getD k (.slice none 0 0)) (xss.getD k [])) (h1c : ∀ k : Nat, k < xss.length → (vs.getD k (.slice none 0 0)).oneCell' = true) (hw : Rd EI w vw xs) (hbl : Cells w pl [vl]) (hcl : Rd ECh w vl cs) (h24 : ∀ k : Nat, k < xss.length → (xss.getD k []).length ≤ 24) (hx9 : xss.length ≤ 1365) (hoks : ∀ k : Nat, k < cs.length → okC (cs.getD k d4)) (hpn : ∀ k : Nat, k < cs.length → (cs.getD k d4).1 = [] ∧ (cs.getD k d4).2.2.2 = []) : Calls Try.prog 170 #[va, vw, .func (.func 171) #[] #[.pointer (some pl)]] w (Ret1 (fun v w' => Ext w w' ∧ ∃ u og_u, v = u ∧ Osl VV w' og_u u (sel (leadP (traF cs) xs xss) (.slice none 0 0) vs xss.length) ∧ Lo w og_u)) := by
  have hB : Ext w w := Ext.refl w
  have hlw := hw.leI; have hlva := ha.leI
  refine callsOf (vs := [_, _, _]) Try.func170 rfl Try.ntmps170 rfl rfl ?_
  refine CW.seq ?_
  refine CW.reg ?_
  refine WL.pure rfl rfl rfl (PV.assign rfl) ?_
  refine WL.nilS ?_
  refine CW.seq ?_
  refine CW.reg ?_
  refine WL.op rfl (OpK.buildS VV (os := []) [] rfl T.sl25 rfl rfl T.zv28 rfl (by intro z hz; cases hz) rfl (fun v1 g1 w1 hXw1 ho1 hge1 => ?_))
  have hl1 := Lo.new hB hge1
  have hB := hB.trans hXw1
  refine WL.pure rfl rfl rfl (PV.assign rfl) ?_
  refine WL.nilS ?_
  refine CW.seq ?_
  refine CW.seq ?_
  refine CW.reg ?_
  refine WL.pure rfl rfl rfl (PV.move rfl) ?_
  refine WL.pure rfl rfl rfl ((by first | exact PV.len rfl (by assumption) T.sl25 | exact PV.lenOs rfl (by assumption) T.sl25 | exact PV.len rfl (NL.rd (by assumption)) T.sl25 | exact PV.len rfl (Inn.rd (by assumption) (by omega)) T.sl25)) ?_
  refine WL.pure rfl rfl rfl (PV.move rfl) ?_
  refine WL.nilS ?_
  refine CW.block ?_
  have hlt1 := ho1.ltO
  refine CW.loop (σk := [(1, _), (2, _), (13, _), (14, _)]) (fun ρ wz m => ∃ (v2 : Value) (og2 : Option Nat) (k : Nat), ρ = [(7, v2), (15, .int .i64 (k : Nat))] ∧ m = xss.length - k ∧ UpdL [(some g1)] w1 wz ∧ Osl VV wz og2 v2 (sel (leadP (traF cs) xs xss) (.slice none 0 0) vs k) ∧ OgR w1 (some g1) og2 ∧ (k ≤ xss.length)) (ρ₀ := [(7, _), (15, _)]) (m₀ := _) ⟨rfl, rfl, rfl, rfl, rfl, rfl, trivial⟩ ⟨v1, (some g1), 0, rfl, rfl, (UpdL.refl _ _), osE ho1 (by exact sel_zero _ _ _), OgR.refl _ _, (by first | omega | rfl | (simp; done) | assumption | (simp_all; done))⟩ ?_
  rintro _ wl1 _ ⟨v2, og2, k, rfl, rfl, hU0, ho2, ha2, hk⟩
  have hl2 := Lo.ogr hl1 hB ha2
  have hg0_2 := ha2
  have hk0_2 : OkB [(some g1)] w1 og2 := OkB.ogr (OkB.mem (by simp)) (Nat.le_refl _) ha2
  have hB := hB.loop hU0 ⟨hl1, trivial⟩
  have hsl := sel_len (leadP (traF cs) xs xss) (.slice none 0 0) vs k
  refine CW.seq ?_
  refine CW.reg ?_
  refine WL.pure rfl rfl rfl (PV.lss rfl rfl) ?_
  refine WL.nilS ?_
  refine CW.seq ?_
  refine CW.cond rfl (fun hc1 => ?_) (fun hc1 => ?_)
  · skip
    try simp only [decide_eq_true_eq, decide_eq_false_iff_not, Bool.not_eq_true', Bool.not_eq_false', Bool.not_eq_eq_eq_not, Bool.not_true, Bool.not_false, Int.not_lt, Int.not_le, Classical.not_not, beq_iff_eq, beq_eq_false_iff_ne] at hc1
    refine CW.skipS ?_
    refine CW.seq ?_
    refine CW.block ?_
    refine CW.seq ?_
    refine CW.reg ?_
    first
      | refine WL.at (x := .tmp 13) (y := .tmp 15) (E := EV) ((.slice none 0 0)) rfl rfl (by first | assumption | exact Inn.rd (by assumption) (by omega)) (by first | omega | (simp only [List.length_set]; omega) | (simp only [List.length_append, List.length_take, List.length_replicate, List.length_drop]; omega)) (fun p1 csp1 hpp1 hcp1 hq => ?_)
      | refine WL.atZ (x := .tmp 13) (y := .tmp 15) (E := EV) ((.slice none 0 0)) rfl rfl (by first | assumption | exact Inn.rd (by assumption) (by omega)) (by first | omega | (simp only [List.length_set]; omega) | (simp only [List.length_append, List.length_take, List.length_replicate, List.length_drop]; omega)) (fun p1 csp1 hpp1 hzp1 hcp1 hq => ?_)
    cases hq
    refine WL.pure rfl rfl rfl ((by first | exact PV.indexAddr hpp1 rfl rfl T.sl25 | exact PV.indexAddr hpp1 rfl (by rw [← hzp1]; rfl) T.sl25)) ?_
    refine WL.pure rfl rfl rfl ((by first | exact PV.load0 T.na28 rfl (by first | exact Cells.up (by assumption) hB | exact Bx.cells (by assumption) | assumption) (Ext.refl _) rfl | exact PV.load1 T.na28 rfl (by first | exact Cells.up (by assumption) hB | exact Bx.cells (by assumption) | assumption) (Ext.refl _) rfl)) ?_
    refine WL.pure rfl rfl rfl (PV.assign rfl) ?_
    refine WL.nilS ?_
    refine CW.seq ?_
    refine CW.reg ?_
    have hxk := hxx k (by omega); have h2k := h24 k (by omega); have h1k := h1c k (by omega)
    refine WL.pure rfl rfl rfl (PV.move rfl) ?_
    refine WL.pure rfl rfl rfl (PV.move rfl) ?_
    refine WL.op rfl (OpK.callC rfl T.cf171 rfl rfl (c_impl_BackLiterate_1 (by first | exact Bx.cells (by assumption) | exact Cells.up (by assumption) hB | assumption | exact Cells.add (Bx.cells (by assumption)) _ | exact Cells.add (Cells.up (by assumption) hB) _) (by first | assumption | exact Rd.up (by assumption) hB | exact rdCh (by assumption) (by assumption)) (by first | assumption | exact Rd.up (by assumption) hB | exact Osl.rd (by assumption) | exact Osn.rdR (by assumption) | exact NL.rd (by assumption) | exact rdII (by assumption) (by assumption) | exact Inn.rd (by assumption) (by omega)) (by first | assumption | omega | (simp only [marks_len, marksB_len, marksR_len, sumL_marksS]; omega)) (by first | assumption | (intro k9 h9; simp only [List.length_cons, List.length_nil] at h9; rcases (show k9 = 0 ∨ k9 = 1 by omega) with rfl | rfl <;> first | assumption | (exfalso; omega))) (by first | assumption | omega | (simp only [marks_len, marksB_len, marksR_len, sumL_marksS]; omega))) (fun rv1 w2 hR => ?_))
    obtain ⟨hXw2, v3, og3, rfl, ho3, hq3⟩ := hR
    have hl3 := Lo.up hq3 hB
    have hd2_3 := Dj.lo ho2.ltO hq3
    have hk0_3 := OkN.lo hU0 hq3
    have hg0_3 := OgR.lo hU0.size hq3
    have hB := hB.trans hXw2
    have ho2 := ho2.up hXw2
    have hU0 := hU0.ext hXw2
    refine WL.pure rfl rfl rfl (PV.move rfl) ?_
    refine WL.pure rfl rfl rfl (PV.extract rfl rfl) ?_
    refine WL.pure rfl rfl rfl (PV.extract rfl rfl) ?_
    refine WL.pure rfl rfl rfl (PV.assign rfl) ?_
    refine WL.pure rfl rfl rfl (PV.assign rfl) ?_
    refine WL.nilS ?_
    refine CW.seq ?_
    refine CW.reg ?_
    refine WL.pure rfl rfl rfl (PV.move rfl) ?_
    refine WL.pure rfl rfl rfl (PV.move rfl) ?_
    refine WL.split (t := 26) rfl (fun hc2 => ?_) (fun hc2 => ?_)
    rotate_left
    · skip
      try simp only [decide_eq_true_eq, decide_eq_false_iff_not, Bool.not_eq_true', Bool.not_eq_false', Bool.not_eq_eq_eq_not, Bool.not_true, Bool.not_false, Int.not_lt, Int.not_le, Classical.not_not, beq_iff_eq, beq_eq_false_iff_ne] at hc2
      refine WL.skip rfl rfl rfl rfl rfl ?_
      refine WL.skip rfl rfl rfl rfl rfl ?_
      refine WL.skip rfl rfl rfl rfl rfl ?_
      refine WL.pure rfl rfl rfl (PV.pickF rfl rfl) ?_
      refine WL.nilS ?_
      refine CW.condF rfl ?_
      refine CW.skip ?_
      refine NQ.block ?_
      refine NQ.then ?_
      refine CW.reg ?_
      refine WL.pure rfl rfl rfl (PV.add rfl rfl (by constructor <;> omega)) ?_
      refine WL.pure rfl rfl rfl (PV.move rfl) ?_
      refine WL.nil ?_
      refine NQ.next (ρ := [(7, _), (15, _)]) ⟨rfl, rfl, rfl, rfl, rfl, rfl, trivial⟩ ?_
      exact ⟨_, ⟨v2, og2, k + 1, rfl, rfl, hU0, osE ho2 (by first | exact sel_put (leadP_y (by assumption) (by assumption)) | exact sel_no (leadP_n1 (by assumption)) | exact sel_no (leadP_n2 (by assumption))), (by first | exact hg0_2 | exact OgR.weak hg0_2), (by first | omega | assumption | (simp_all; done) | (simp_all; omega))⟩, by omega⟩
    try simp only [decide_eq_true_eq, decide_eq_false_iff_not, Bool.not_eq_true', Bool.not_eq_false', Bool.not_eq_eq_eq_not, Bool.not_true, Bool.not_false, Int.not_lt, Int.not_le, Classical.not_not, beq_iff_eq, beq_eq_false_iff_ne] at hc2
    refine WL.pureG rfl rfl rfl rfl rfl (PV.move rfl) ?_
    refine WL.pureG rfl rfl rfl rfl rfl (PV.move rfl) ?_
    refine WL.opG rfl rfl rfl (OpK.callR rfl T.cf142 rfl (c_slices_Equal_int64_int64 (by first | assumption | exact Rd.up (by assumption) hB | exact Osl.rd (by assumption) | exact Osn.rdR (by assumption) | exact NL.rd (by assumption) | exact rdII (by assumption) (by assumption) | exact Inn.rd (by assumption) (by omega)) (by first | assumption | exact Rd.up (by assumption) hB | exact Osl.rd (by assumption) | exact Osn.rdR (by assumption) | exact NL.rd (by assumption) | exact rdII (by assumption) (by assumption) | exact Inn.rd (by assumption) (by omega))) (fun w3 hXw3 => ?_))
    have hB := hB.trans hXw3
    have ho2 := ho2.up hXw3
    have ho3 := ho3.up hXw3
    have hU0 := hU0.ext hXw3
    refine WL.pure rfl rfl rfl (PV.pickT rfl rfl) ?_
    refine WL.nilS ?_
    refine CW.cond rfl (fun hc3 => ?_) (fun hc3 => ?_)
    · skip
      try simp only [decide_eq_true_eq, decide_eq_false_iff_not, Bool.not_eq_true', Bool.not_eq_false', Bool.not_eq_eq_eq_not, Bool.not_true, Bool.not_false, Int.not_lt, Int.not_le, Classical.not_not, beq_iff_eq, beq_eq_false_iff_ne] at hc3
      refine CW.reg ?_
      refine WL.pure rfl rfl rfl (PV.move rfl) ?_
      refine WL.pure rfl rfl rfl (PV.move rfl) ?_
      refine WL.op rfl (OpK.buildS VV (os := [.tmp 32]) [_] rfl T.sl25 rfl rfl T.zv28 rfl (by intro z hz; first | rfl | (simp only [List.mem_cons, List.not_mem_nil, or_false] at hz; subst hz; exact (by first | exact Rd.cells1 (by assumption) | exact Osl.cells1 (by assumption) | exact Osn.cells1 (by assumption) | exact Rd.cells1 (NL.rd (by assumption)) | exact Inn.cell1 (by assumption) (by omega) | assumption | rfl))) rfl (fun v4 g4 w4 hXw4 ho4 hge4 => ?_))
      have hl4 := Lo.new hB hge4
      have hd2_4 := Dj.new ho2.ltO hge4
      have hd3_4 := Dj.new ho3.ltO hge4
      have hk0_4 := OkN.new hU0 hge4
      have hg0_4 := OgR.new hU0.size hge4
      have hB := hB.trans hXw4
      have ho2 := ho2.up hXw4
      have ho3 := ho3.up hXw4
      have hU0 := hU0.ext hXw4
      refine WL.op rfl (OpK.appendS (f := VV) rfl T.sl25 T.zv28 rfl rfl ho2 rfl (Osl.srcM ho4 (one_mem (h1k))) (by first | (simp only [List.length_cons, List.length_nil]; omega) | (simp_all; omega)) (fun v5 og5 w5 hXw5 ho5 hap5 => ?_))
      have hl5 := Lo.app hl2 hB hap5
      have hd3_5 := Dj.app (Dj.symm hd2_3) ho3.ltO hap5
      have hd4_5 := Dj.app (Dj.symm hd2_4) ho4.ltO hap5
      have hk0_5 := OkN.app hU0 hk0_2 hap5
      have hg0_5 := OgR.app hg0_2 hU0.size hap5
      have hB := hB.updL hXw5 hl2
      have ho3 := ho3.updD hXw5 (Dj.symm hd2_3)
      have ho4 := ho4.updD hXw5 (Dj.symm hd2_4)
      have hU0 := hU0.step hXw5 hk0_2
      refine WL.pure rfl rfl rfl (PV.assign rfl) ?_
      refine WL.nil ?_
      refine NQ.block ?_
      refine NQ.then ?_
      refine CW.reg ?_
      refine WL.pure rfl rfl rfl (PV.add rfl rfl (by constructor <;> omega)) ?_
      refine WL.pure rfl rfl rfl (PV.move rfl) ?_
      refine WL.nil ?_
      refine NQ.next (ρ := [(7, _), (15, _)]) ⟨rfl, rfl, rfl, rfl, rfl, rfl, trivial⟩ ?_
      exact ⟨_, ⟨v5, og5, k + 1, rfl, rfl, hU0, osE ho5 (by first | exact sel_put (leadP_y (by assumption) (by assumption)) | exact sel_no (leadP_n1 (by assumption)) | exact sel_no (leadP_n2 (by assumption))), (by first | exact hg0_5 | exact OgR.weak hg0_5), (by first | omega | assumption | (simp_all; done) | (simp_all; omega))⟩, by omega⟩
    try simp only [decide_eq_true_eq, decide_eq_false_iff_not, Bool.not_eq_true', Bool.not_eq_false', Bool.not_eq_eq_eq_not, Bool.not_true, Bool.not_false, Int.not_lt, Int.not_le, Classical.not_not, beq_iff_eq, beq_eq_false_iff_ne] at hc3
    refine CW.skip ?_
    refine NQ.block ?_
    refine NQ.then ?_
    refine CW.reg ?_
    refine WL.pure rfl rfl rfl (PV.add rfl rfl (by constructor <;> omega)) ?_
    refine WL.pure rfl rfl rfl (PV.move rfl) ?_
    refine WL.nil ?_
    refine NQ.next (ρ := [(7, _), (15, _)]) ⟨rfl, rfl, rfl, rfl, rfl, rfl, trivial⟩ ?_
    exact ⟨_, ⟨v2, og2, k + 1, rfl, rfl, hU0, osE ho2 (by first | exact sel_put (leadP_y (by assumption) (by assumption)) | exact sel_no (leadP_n1 (by assumption)) | exact sel_no (leadP_n2 (by assumption))), (by first | exact hg0_2 | exact OgR.weak hg0_2), (by first | omega | assumption | (simp_all; done) | (simp_all; omega))⟩, by omega⟩
  try simp only [decide_eq_true_eq, decide_eq_false_iff_not, Bool.not_eq_true', Bool.not_eq_false', Bool.not_eq_eq_eq_not, Bool.not_true, Bool.not_false, Int.not_lt, Int.not_le, Classical.not_not, beq_iff_eq, beq_eq_false_iff_ne] at hc1
  refine CW.exit ?_
  refine XQ.then ?_
  refine XQ.then ?_
  refine XQ.here ?_
  refine NQ.then ?_
  refine CW.seq ?_
  refine CW.reg ?_
  refine WL.pure rfl rfl rfl (PV.move rfl) ?_
  refine WL.pure rfl rfl rfl (PV.assign rfl) ?_
  refine WL.nilS ?_
  refine CW.ret ?_
  refine RQ.r1 rfl ?_
  refine ⟨hB, v2, og2, ?_, osE ho2 ?_, hl2⟩
  · skip
    rfl
  · skip
    rw [show k = xss.length from (by omega)]
theorem c_impl_BackLiterate {w : World} {va : Value} {cs : List C4} {vw : Value} {xs : List Int} {L : Int} (ha : Rd ECh w va cs) (hw : Rd EI w vw xs) : Calls Try.prog 79 #[va, vw, .int .i64 L] w (Ret1 (fun v w' => Ext w w' ∧ ∃ u og_u vs_u os_u, v = .tuple #[u, .bool (bckB cs xs L)] ∧ Osl VV w' og_u u vs_u ∧ Lo w og_u ∧ Inn w' os_u vs_u (onT (bckB cs xs L) (srcL (traF cs) xs L 5)) ∧ LoI w os_u ∧ DI os_u og_u)) := by
  have hB : Ext w w := Ext.refl w
  have hla := ha.leI; have hlw := hw.leI
  refine callsOf (vs := [_, _, _]) Try.func79 rfl Try.ntmps79 rfl rfl ?_
  refine CW.seq ?_
  refine CW.reg ?_
  refine WL.op rfl (OpK.box rfl rfl (by first | exact Rd.cells1 (by assumption) | exact Osl.cells1 (by assumption) | exact Osn.cells1 (by assumption) | exact Rd.cells1 (NL.rd (by assumption)) | exact Inn.cell1 (by assumption) (by omega) | assumption | rfl) (fun b1 w1 hXw1 hb1 hge1 => ?_))
  have hl1 := Lo.new hB hge1
  have hB := hB.trans hXw1
  refine WL.pure rfl rfl rfl (PV.assign rfl) ?_
  refine WL.pure rfl rfl rfl (PV.assign rfl) ?_
  refine WL.nilS ?_
  refine CW.seq ?_
  refine CW.seq ?_
  refine CW.reg ?_
  refine WL.pure rfl rfl rfl ((by first | exact PV.load0 T.na98 rfl (by first | exact Cells.up (by assumption) hB | exact Bx.cells (by assumption) | assumption) (Ext.refl _) rfl | exact PV.load1 T.na98 rfl (by first | exact Cells.up (by assumption) hB | exact Bx.cells (by assumption) | assumption) (Ext.refl _) rfl)) ?_
  refine WL.pure rfl rfl rfl (PV.move rfl) ?_
  refine WL.op rfl (OpK.callR rfl T.cf164 rfl (c_impl_arePlain (by first | assumption | exact Rd.up (by assumption) hB | exact rdCh (by assumption) (by assumption))) (fun w2 hXw2 => ?_))
  have hB := hB.trans hXw2
  have hb1 := hb1.up hXw2
  refine WL.pure rfl rfl rfl (PV.not rfl) ?_
  refine WL.pure rfl rfl rfl (PV.move rfl) ?_
  refine WL.split (t := 12) rfl (fun hc1 => ?_) (fun hc1 => ?_)
  · skip
    try simp only [decide_eq_true_eq, decide_eq_false_iff_not, Bool.not_eq_true', Bool.not_eq_false', Bool.not_eq_eq_eq_not, Bool.not_true, Bool.not_false, Int.not_lt, Int.not_le, Classical.not_not, beq_iff_eq, beq_eq_false_iff_ne] at hc1
    refine WL.skip rfl rfl rfl rfl rfl ?_
    refine WL.skip rfl rfl rfl rfl rfl ?_
    refine WL.skip rfl rfl rfl rfl rfl ?_
    refine WL.skip rfl rfl rfl rfl rfl ?_
    refine WL.pure rfl rfl rfl (PV.pickT rfl rfl) ?_
    refine WL.nilS ?_
    refine CW.condT rfl ?_
    refine CW.seq ?_
    refine CW.reg ?_
    refine WL.pure rfl rfl rfl (PV.assign rfl) ?_
    refine WL.pure rfl rfl rfl (PV.assign rfl) ?_
    refine WL.nilS ?_
    refine CW.ret ?_
    refine RQ.then ?_
    refine RQ.r2 rfl rfl ?_
    first | (have hS : bckB cs xs L = false := (by first | exact bck_n1 (by assumption) | exact bck_n2 (by assumption)); exact ⟨hB, .slice none 0 0, none, [], [], tE2 rfl (bE hS.symm), Osl.nil _ _, Lo.nl _, innE (Inn.zero _) (onT_no (by rw [hS]; decide)).symm, LoI.nl _, DI.nl _⟩) | exact ⟨hB, _, _, _, _, tE2 rfl (bE hS.symm), ho4, hl4, innE (Inn.sel hn3 _ (Nat.le_refl _)) (onT_yes hS).symm, LoI.sel hl3 (by rw [hn3.lo]; exact Nat.le_refl _), DI.sel hd3_4 (by rw [hn3.lo]; exact Nat.le_refl _)⟩
  try simp only [decide_eq_true_eq, decide_eq_false_iff_not, Bool.not_eq_true', Bool.not_eq_false', Bool.not_eq_eq_eq_not, Bool.not_true, Bool.not_false, Int.not_lt, Int.not_le, Classical.not_not, beq_iff_eq, beq_eq_false_iff_ne] at hc1
  refine WL.pureG rfl rfl rfl rfl rfl (PV.move rfl) ?_
  refine WL.pureG rfl rfl rfl rfl rfl (PV.move rfl) ?_
  refine WL.opG rfl rfl rfl (OpK.callR rfl T.cf165 rfl (c_impl_IsLongWord (by first | assumption | exact Rd.up (by assumption) hB | exact Osl.rd (by assumption) | exact Osn.rdR (by assumption) | exact NL.rd (by assumption) | exact rdII (by assumption) (by assumption) | exact Inn.rd (by assumption) (by omega))) (fun w3 hXw3 => ?_))
  have hB := hB.trans hXw3
  have hb1 := hb1.up hXw3
  refine WL.pureG rfl rfl rfl rfl rfl (PV.not rfl) ?_
  refine WL.pure rfl rfl rfl (PV.pickF rfl rfl) ?_
  refine WL.nilS ?_
  refine CW.cond rfl (fun hc2 => ?_) (fun hc2 => ?_)
  · skip
    try simp only [decide_eq_true_eq, decide_eq_false_iff_not, Bool.not_eq_true', Bool.not_eq_false', Bool.not_eq_eq_eq_not, Bool.not_true, Bool.not_false, Int.not_lt, Int.not_le, Classical.not_not, beq_iff_eq, beq_eq_false_iff_ne] at hc2
    refine CW.seq ?_
    refine CW.reg ?_
    refine WL.pure rfl rfl rfl (PV.assign rfl) ?_
    refine WL.pure rfl rfl rfl (PV.assign rfl) ?_
    refine WL.nilS ?_
    refine CW.ret ?_
    refine RQ.then ?_
    refine RQ.r2 rfl rfl ?_
    first | (have hS : bckB cs xs L = false := (by first | exact bck_n1 (by assumption) | exact bck_n2 (by assumption)); exact ⟨hB, .slice none 0 0, none, [], [], tE2 rfl (bE hS.symm), Osl.nil _ _, Lo.nl _, innE (Inn.zero _) (onT_no (by rw [hS]; decide)).symm, LoI.nl _, DI.nl _⟩) | exact ⟨hB, _, _, _, _, tE2 rfl (bE hS.symm), ho4, hl4, innE (Inn.sel hn3 _ (Nat.le_refl _)) (onT_yes hS).symm, LoI.sel hl3 (by rw [hn3.lo]; exact Nat.le_refl _), DI.sel hd3_4 (by rw [hn3.lo]; exact Nat.le_refl _)⟩
  try simp only [decide_eq_true_eq, decide_eq_false_iff_not, Bool.not_eq_true', Bool.not_eq_false', Bool.not_eq_eq_eq_not, Bool.not_true, Bool.not_false, Int.not_lt, Int.not_le, Classical.not_not, beq_iff_eq, beq_eq_false_iff_ne] at hc2
  refine CW.skipS ?_
  refine CW.seq ?_
  refine CW.reg ?_
  have hpb := pln_y (by assumption : plnB cs L = true); have hlb := listB_y hpb.1; have hoks := hlb.2.2.2; have hlg := longB_y (by assumption : longB xs L = true); have hx24 := hlg.2.1; have hpn := hpb.2; have hL := hlg.1; have hS := bck_y (by assumption : plnB cs L = true) (by assumption : longB xs L = true)
  refine WL.pure rfl rfl rfl (PV.move rfl) ?_
  refine WL.op rfl (OpK.call rfl T.cf156 rfl (c_impl_wordsUpTo (by first | assumption | omega | (simp only [marks_len, marksB_len, marksR_len, sumL_marksS]; omega)) (by first | assumption | omega | (simp only [marks_len, marksB_len, marksR_len, sumL_marksS]; omega))) (fun rv1 w4 hR => ?_))
  obtain ⟨hXw4, v2, og2, vs3, os3, rfl, ho2, hq2, hn3, hq3, hd2_3⟩ := hR
  have hl2 := Lo.up hq2 hB
  have hd1_2 := Dj.lo hb1.ltO hq2
  have hl3 := LoI.up hq3 hB
  have hlv3 := hn3.lv
  have hd1_3 := DI.lo hb1.ltO hq3
  have hB := hB.trans hXw4
  have hb1 := hb1.up hXw4
  refine WL.pure rfl rfl rfl (PV.move rfl) ?_
  refine WL.pure rfl rfl rfl (PV.makeFunc (fs := []) (cs := [.tmp 3]) rfl rfl) ?_
  refine WL.op rfl (OpK.call rfl T.cf170 rfl (c_impl_leadingTo_impl_BackLiterate_1 (by first | assumption | exact Rd.up (by assumption) hB | exact Osl.rd (by assumption) | exact Osn.rdR (by assumption) | exact NL.rd (by assumption) | exact rdII (by assumption) (by assumption) | exact Inn.rd (by assumption) (by omega)) (by exact Inn.lv (by assumption)) (by intro k h; exact Inn.rd (by assumption) h) (by intro k h; exact Inn.one1 (by assumption) h) (by first | assumption | exact Rd.up (by assumption) hB | exact Osl.rd (by assumption) | exact Osn.rdR (by assumption) | exact NL.rd (by assumption) | exact rdII (by assumption) (by assumption) | exact Inn.rd (by assumption) (by omega)) (by first | exact Bx.cells (by assumption) | exact Cells.up (by assumption) hB | assumption | exact Cells.add (Bx.cells (by assumption)) _ | exact Cells.add (Cells.up (by assumption) hB) _) (by first | assumption | exact Rd.up (by assumption) hB | exact rdCh (by assumption) (by assumption)) (by intro k9 h9; have h8 := wordsP_get (L := L) (m := (5 : Int).toNat) (k := k9) h9; omega) (by exact wordsP_len (L := L) (by omega) _ (by omega)) (by first | assumption | (intro k9 h9; simp only [List.length_cons, List.length_nil] at h9; rcases (show k9 = 0 ∨ k9 = 1 by omega) with rfl | rfl <;> first | assumption | (exfalso; omega))) (by first | assumption | omega | (simp only [marks_len, marksB_len, marksR_len, sumL_marksS]; omega))) (fun rv2 w5 hR => ?_))
  obtain ⟨hXw5, v4, og4, rfl, ho4, hq4⟩ := hR
  have hl4 := Lo.up hq4 hB
  have hd1_4 := Dj.lo hb1.ltO hq4
  have hd2_4 := Dj.lo ho2.ltO hq4
  have hd3_4 := DI.fresh hn3 hq4
  have hB := hB.trans hXw5
  have hb1 := hb1.up hXw5
  have ho2 := ho2.up hXw5
  have hn3 := hn3.up hXw5
  refine WL.pure rfl rfl rfl (PV.assign rfl) ?_
  refine WL.pure rfl rfl rfl (PV.assign rfl) ?_
  refine WL.nilS ?_
  refine CW.ret ?_
  refine RQ.r2 rfl rfl ?_
  first | (have hS : bckB cs xs L = false := (by first | exact bck_n1 (by assumption) | exact bck_n2 (by assumption)); exact ⟨hB, .slice none 0 0, none, [], [], tE2 rfl (bE hS.symm), Osl.nil _ _, Lo.nl _, innE (Inn.zero _) (onT_no (by rw [hS]; decide)).symm, LoI.nl _, DI.nl _⟩) | exact ⟨hB, _, _, _, _, tE2 rfl (bE hS.symm), ho4, hl4, innE (Inn.sel hn3 _ (Nat.le_refl _)) (onT_yes hS).symm, LoI.sel hl3 (by rw [hn3.lo]; exact Nat.le_refl _), DI.sel hd3_4 (by rw [hn3.lo]; exact Nat.le_refl _)⟩
theorem c_spec_l05Words {w : World} {L n : Int} (hL : 1 ≤ L ∧ L ≤ 4) (hn : 0 ≤ n ∧ n ≤ 5) : Calls Try.prog 160 #[.int .i64 L, .int .i64 n] w (Ret1 (fun v w' => Ext w w' ∧ ∃ u og_u vs_u os_u, v = u ∧ Osl VV w' og_u u vs_u ∧ Lo w og_u ∧ Inn w' os_u vs_u (wordsP L (n.toNat + 1)) ∧ LoI w os_u ∧ DI os_u og_u)) := by
  have hB : Ext w w := Ext.refl w
  refine callsOf (vs := [_, _]) Try.func160 rfl Try.ntmps160 rfl rfl ?_
  refine CW.seq ?_
  refine CW.reg ?_
  refine WL.pure rfl rfl rfl (PV.assign rfl) ?_
  refine WL.nilS ?_
  refine CW.seq ?_
  refine CW.reg ?_
  refine WL.op rfl (OpK.buildS VI (os := []) [] rfl T.sl28 rfl rfl T.zv2 rfl (by intro z hz; cases hz) rfl (fun v1 g1 w1 hXw1 ho1 hge1 => ?_))
  have hl1 := Lo.new hB hge1
  have hB := hB.trans hXw1
  refine WL.op rfl (OpK.buildS VV (os := [.tmp 10]) [_] rfl T.sl25 rfl rfl T.zv28 rfl (by intro z hz; first | rfl | (simp only [List.mem_cons, List.not_mem_nil, or_false] at hz; subst hz; exact (by first | exact Rd.cells1 (by assumption) | exact Osl.cells1 (by assumption) | exact Osn.cells1 (by assumption) | exact Rd.cells1 (NL.rd (by assumption)) | exact Inn.cell1 (by assumption) (by omega) | assumption | rfl))) rfl (fun v2 g2 w2 hXw2 ho2 hge2 => ?_))
  have hl2 := Lo.new hB hge2
  have hd1_2 := Dj.new ho1.ltO hge2
  have hB := hB.trans hXw2
  have ho1 := ho1.up hXw2
  refine WL.pure rfl rfl rfl (PV.assign rfl) ?_
  refine WL.nilS ?_
  refine CW.seq ?_
  refine CW.reg ?_
  refine WL.pure rfl rfl rfl (PV.assign rfl) ?_
  refine WL.nilS ?_
  refine CW.seq ?_
  refine CW.block ?_
  have hn3 := Inn.one ho1
  have hl3 := LoI.one hl1
  have hd2_3 := DI.one hd1_2
  have hlt2 := ho2.ltO
  have hlt3 := hn3.ltO
  refine CW.loop (σk := [(0, _)]) (fun ρ wz m => ∃ (v4 : Value) (og4 : Option Nat) (vs4 : List Value) (os4 : List (Option Nat)) (r : Nat), ρ = [(1, .int .i64 (n - (r : Nat))), (5, v4), (6, .int .i64 ((wordsP L r).length : Nat))] ∧ m = n.toNat - r ∧ UpdL [(some g2)] w2 wz ∧ Osl VV wz og4 v4 (vs4) ∧ OgR w2 (some g2) og4 ∧ Inn wz os4 vs4 (wordsP L (r + 1)) ∧ BlR w2 [(some g1)] os4 ∧ DI os4 og4 ∧ ((r : Int) ≤ n)) (ρ₀ := [(1, _), (5, _), (6, _)]) (m₀ := _) ⟨rfl, rfl, rfl, rfl, trivial⟩ ⟨v2, (some g2), _, [(some g1)], 0, (by simp [wordsP]), rfl, (UpdL.refl _ _), ho2, OgR.refl _ _, innE hn3 (by exact wordsP_one _), BlR.refl _ _, hd2_3, (by first | omega | rfl | (simp; done) | assumption | (simp_all; done))⟩ ?_
  rintro _ wl1 _ ⟨v4, og4, vs4, os4, r, rfl, rfl, hU0, ho4, ha4, hn5, hy5, hd4_5, hr⟩
  have hl4 := Lo.ogr hl2 hB ha4
  have hg0_4 := ha4
  have hk0_4 : OkB [(some g2)] w2 og4 := OkB.ogr (OkB.mem (by simp)) (Nat.le_refl _) ha4
  have hBpre0 := hB
  have hB := hB.loop hU0 ⟨hl2, trivial⟩
  have hlv5 := hn5.lv
  have hz0_5 := hy5
  have hl5 := LoI.blr hl3 hBpre0 hy5
  have hps := wordsP_lenS L r; have hpl := wordsP_len (L := L) (by omega) (r + 1) (by omega)
  refine CW.seq ?_
  refine CW.seq ?_
  refine CW.reg ?_
  refine WL.pure rfl rfl rfl (PV.move rfl) ?_
  refine WL.pure rfl rfl rfl (PV.gtr rfl rfl) ?_
  refine WL.nilS ?_
  refine CW.cond rfl (fun hc1 => ?_) (fun hc1 => ?_)
  · skip
    try simp only [decide_eq_true_eq, decide_eq_false_iff_not, Bool.not_eq_true', Bool.not_eq_false', Bool.not_eq_eq_eq_not, Bool.not_true, Bool.not_false, Int.not_lt, Int.not_le, Classical.not_not, beq_iff_eq, beq_eq_false_iff_ne] at hc1
    refine CW.skipS ?_
    refine CW.seq ?_
    refine CW.block ?_
    refine CW.seq ?_
    refine CW.reg ?_
    refine WL.pure rfl rfl rfl (PV.move rfl) ?_
    refine WL.pure rfl rfl rfl ((PV.lenOs rfl ho4 T.sl25)) ?_
    refine WL.pure rfl rfl rfl (PV.assign rfl) ?_
    refine WL.nilS ?_
    refine CW.seq ?_
    refine CW.seq ?_
    refine CW.reg ?_
    rw [hlv5]
    refine WL.pure rfl rfl rfl (PV.move rfl) ?_
    refine WL.pure rfl rfl rfl (PV.assign rfl) ?_
    refine WL.nilS ?_
    refine CW.block ?_
    have hlt5 := hn5.ltO
    have hlt4 := ho4.ltO
    refine CW.loop (σk := [(0, _), (1, _), (7, _)]) (fun ρ wz m => ∃ (v6 : Value) (og6 : Option Nat) (vs6 : List Value) (os6 : List (Option Nat)) (i : Nat), ρ = [(5, v6), (8, .int .i64 (((wordsP L r).length + i : Nat) : Int))] ∧ m = (wordsL L r).length - i ∧ UpdL [og4] wl1 wz ∧ Osl VV wz og6 v6 (vs6) ∧ OgR wl1 og4 og6 ∧ Inn wz os6 vs6 (wQ L r i 0) ∧ BlR wl1 os4 os6 ∧ DI os6 og6 ∧ (i ≤ (wordsL L r).length)) (ρ₀ := [(5, _), (8, _)]) (m₀ := _) ⟨rfl, rfl, rfl, rfl, rfl, trivial⟩ ⟨v4, og4, _, os4, 0, (by rfl), rfl, (UpdL.refl _ _), ho4, OgR.refl _ _, innE hn5 (by exact wQ_zero _ _), BlR.refl _ _, hd4_5, (by first | omega | rfl | (simp; done) | assumption | (simp_all; done))⟩ ?_
    rintro _ wl2 _ ⟨v6, og6, vs6, os6, i, rfl, rfl, hU1, ho6, ha6, hn7, hy7, hd6_7, hi2⟩
    have hU0 := hU0.trans hU1 ⟨hk0_4, trivial⟩
    have hl6 := Lo.ogr hl4 hB ha6
    have hg1_6 := ha6
    have hk1_6 : OkB [og4] wl1 og6 := OkB.ogr (OkB.mem (by simp)) (Nat.le_refl _) ha6
    have hk0_6 := OkB.ogr hk0_4 (by first | assumption | exact UpdL.size (by assumption)) ha6
    have hg0_6 := OgR.trans hg0_4 (by first | assumption | exact UpdL.size (by assumption)) ha6
    have hBpre1 := hB
    have hB := hB.loop hU1 ⟨hl4, trivial⟩
    have hlv7 := hn7.lv
    have hz1_7 := hy7
    have hz0_7 := BlR.trans hz0_5 (by first | assumption | exact UpdL.size (by assumption)) hy7
    have hl7 := LoI.blr hl5 hBpre1 hy7
    have hql := wQ_len (L := L) (r := r) (i := i) (l := 0) (by omega) (by omega) (by omega); have h256 := fun h : (r : Int) < n => wordsL_256 (L := L) (n := r) (by omega) (by omega)
    refine CW.seq ?_
    refine CW.seq ?_
    refine CW.reg ?_
    refine WL.pure rfl rfl rfl (PV.move rfl) ?_
    refine WL.pure rfl rfl rfl (PV.move rfl) ?_
    refine WL.pure rfl rfl rfl (PV.lss rfl rfl) ?_
    refine WL.nilS ?_
    refine CW.cond rfl (fun hc2 => ?_) (fun hc2 => ?_)
    · skip
      try simp only [decide_eq_true_eq, decide_eq_false_iff_not, Bool.not_eq_true', Bool.not_eq_false', Bool.not_eq_eq_eq_not, Bool.not_true, Bool.not_false, Int.not_lt, Int.not_le, Classical.not_not, beq_iff_eq, beq_eq_false_iff_ne] at hc2
      refine CW.skipS ?_
      refine CW.seq ?_
      refine CW.block ?_
      refine CW.seq ?_
      refine CW.reg ?_
      refine WL.pure rfl rfl rfl (PV.assign rfl) ?_
      refine WL.nilS ?_
      refine CW.block ?_
      have hlt7 := hn7.ltO
      have hlt6 := ho6.ltO
      refine CW.loop (σk := [(0, _), (1, _), (7, _), (8, _)]) (fun ρ wz m => ∃ (v8 : Value) (og8 : Option Nat) (vs8 : List Value) (os8 : List (Option Nat)) (l : Nat), ρ = [(5, v8), (9, .int .i64 (l : Nat))] ∧ m = L.toNat - l ∧ UpdL [og6] wl2 wz ∧ Osl VV wz og8 v8 (vs8) ∧ OgR wl2 og6 og8 ∧ Inn wz os8 vs8 (wQ L r i l) ∧ BlR wl2 os6 os8 ∧ DI os8 og8 ∧ ((l : Int) ≤ L)) (ρ₀ := [(5, _), (9, _)]) (m₀ := _) ⟨rfl, rfl, rfl, rfl, rfl, rfl, trivial⟩ ⟨v6, og6, _, os6, 0, rfl, rfl, (UpdL.refl _ _), ho6, OgR.refl _ _, innE hn7 (by rfl), BlR.refl _ _, hd6_7, (by first | omega | rfl | (simp; done) | assumption | (simp_all; done))⟩ ?_
      rintro _ wl3 _ ⟨v8, og8, vs8, os8, l, rfl, rfl, hU2, ho8, ha8, hn9, hy9, hd8_9, hl⟩
      have hU0 := hU0.trans hU2 ⟨hk0_6, trivial⟩
      have hU1 := hU1.trans hU2 ⟨hk1_6, trivial⟩
      have hl8 := Lo.ogr hl6 hB ha8
      have hg2_8 := ha8
      have hk2_8 : OkB [og6] wl2 og8 := OkB.ogr (OkB.mem (by simp)) (Nat.le_refl _) ha8
      have hk0_8 := OkB.ogr hk0_6 (by first | assumption | exact UpdL.size (by assumption)) ha8
      have hg0_8 := OgR.trans hg0_6 (by first | assumption | exact UpdL.size (by assumption)) ha8
      have hk1_8 := OkB.ogr hk1_6 (by first | assumption | exact UpdL.size (by assumption)) ha8
      have hg1_8 := OgR.trans hg1_6 (by first | assumption | exact UpdL.size (by assumption)) ha8
      have hBpre2 := hB
      have hB := hB.loop hU2 ⟨hl6, trivial⟩
      have hlv9 := hn9.lv
      have hz2_9 := hy9
      have hz0_9 := BlR.trans hz0_7 (by first | assumption | exact UpdL.size (by assumption)) hy9
      have hz1_9 := BlR.trans hz1_7 (by first | assumption | exact UpdL.size (by assumption)) hy9
      have hl9 := LoI.blr hl7 hBpre2 hy9
      have hql2 := wQ_len (L := L) (r := r) (i := i) (l := l) (by omega) (by omega) (by omega)
      refine CW.seq ?_
      refine CW.seq ?_
      refine CW.reg ?_
      refine WL.pure rfl rfl rfl (PV.move rfl) ?_
      refine WL.pure rfl rfl rfl (PV.move rfl) ?_
      refine WL.pure rfl rfl rfl (PV.lss rfl rfl) ?_
      refine WL.nilS ?_
      refine CW.cond rfl (fun hc3 => ?_) (fun hc3 => ?_)
      · skip
        try simp only [decide_eq_true_eq, decide_eq_false_iff_not, Bool.not_eq_true', Bool.not_eq_false', Bool.not_eq_eq_eq_not, Bool.not_true, Bool.not_false, Int.not_lt, Int.not_le, Classical.not_not, beq_iff_eq, beq_eq_false_iff_ne] at hc3
        refine CW.skipS ?_
        refine CW.seq ?_
        refine CW.block ?_
        refine CW.reg ?_
        refine WL.pure rfl rfl rfl (PV.move rfl) ?_
        refine WL.op rfl (OpK.buildS VI (os := []) [] rfl T.sl28 rfl rfl T.zv2 rfl (by intro z hz; cases hz) rfl (fun v10 g10 w3 hXw3 ho10 hge10 => ?_))
        have hl10 := Lo.new hB hge10
        have hd9_10 := DI.new hn9 hge10
        have hd8_10 := Dj.new ho8.ltO hge10
        have hk0_10 := OkN.new hU0 hge10
        have hg0_10 := OgR.new hU0.size hge10
        have hk1_10 := OkN.new hU1 hge10
        have hg1_10 := OgR.new hU1.size hge10
        have hk2_10 := OkN.new hU2 hge10
        have hg2_10 := OgR.new hU2.size hge10
        have hB := hB.trans hXw3
        have hn9 := hn9.up hXw3
        have ho8 := ho8.up hXw3
        have hU0 := hU0.ext hXw3
        have hU1 := hU1.ext hXw3
        have hU2 := hU2.ext hXw3
        refine WL.pure rfl rfl rfl (PV.move rfl) ?_
        refine WL.pure rfl rfl rfl (PV.move rfl) ?_
        have hwa := congrArg List.length (wQ_at (L := L) (r := r) (i := i) (l := l) (by omega) rfl); have hwg := wordsL_get (L := L) (n := r) (k := i) (by omega); have h2 := h256 (by omega); have hps2 : (wordsP L (r + 1)).length ≤ (wQ L r i l).length := (by unfold wQ; rw [List.length_append]; omega)
        first
          | refine WL.atO (x := .tmp 31) (y := .tmp 32) (f := VV) (.slice none 0 0) rfl rfl ho8 (by first | omega | (simp only [List.length_set]; omega) | (simp only [List.length_append, List.length_take, List.length_replicate, List.length_drop]; omega)) (fun p1 hpp1 hcp1 => ?_)
          | refine WL.atOZ (x := .tmp 31) (y := .tmp 32) (f := VV) (.slice none 0 0) rfl rfl ho8 (by first | omega | (simp only [List.length_set]; omega) | (simp only [List.length_append, List.length_take, List.length_replicate, List.length_drop]; omega)) (fun p1 hpp1 hzp1 hcp1 => ?_)
        refine WL.pure rfl rfl rfl ((by first | exact PV.indexAddr hpp1 rfl rfl T.sl25 | exact PV.indexAddr hpp1 rfl (by rw [← hzp1]; rfl) T.sl25)) ?_
        refine WL.pure rfl rfl rfl ((by first | exact PV.load0 T.na28 rfl (by first | exact Cells.up (by assumption) hB | exact Bx.cells (by assumption) | assumption) (Ext.refl _) rfl | exact PV.load1 T.na28 rfl (by first | exact Cells.up (by assumption) hB | exact Bx.cells (by assumption) | assumption) (Ext.refl _) rfl)) ?_
        refine WL.op rfl (OpK.appendS (f := VI) rfl T.sl28 T.zv2 rfl rfl ho10 rfl (Rd.src (by first | assumption | exact Rd.up (by assumption) hB | exact Inn.rd (by assumption) (by omega)) (fun _ => rfl)) (by first | (simp only [List.length_cons, List.length_nil]; omega) | (simp only [List.length_append, List.length_cons, List.length_nil]; omega)) (fun v11 og11 w4 hXw4 ho11 hap11 => ?_))
        have hl11 := Lo.app hl10 hB hap11
        have hd9_11 := DI.app hd9_10 hn9 hap11
        have hd8_11 := Dj.app hd8_10 ho8.ltO hap11
        have hk0_11 := OkN.app hU0 hk0_10 hap11
        have hg0_11 := OgR.app hg0_10 hU0.size hap11
        have hk1_11 := OkN.app hU1 hk1_10 hap11
        have hg1_11 := OgR.app hg1_10 hU1.size hap11
        have hk2_11 := OkN.app hU2 hk2_10 hap11
        have hg2_11 := OgR.app hg2_10 hU2.size hap11
        have hB := hB.updL hXw4 hl10
        have hn9 := hn9.updD hXw4 hd9_10
        have ho8 := ho8.updD hXw4 hd8_10
        have hU0 := hU0.step hXw4 hk0_10
        have hU1 := hU1.step hXw4 hk1_10
        have hU2 := hU2.step hXw4 hk2_10
        refine WL.pure rfl rfl rfl (PV.move rfl) ?_
        refine WL.op rfl (OpK.buildS VI (os := [.tmp 36]) [_] rfl T.sl28 rfl rfl T.zv2 rfl (by intro z hz; first | rfl | (simp only [List.mem_cons, List.not_mem_nil, or_false] at hz; subst hz; exact (by first | exact Rd.cells1 (by assumption) | exact Osl.cells1 (by assumption) | exact Osn.cells1 (by assumption) | exact Rd.cells1 (NL.rd (by assumption)) | exact Inn.cell1 (by assumption) (by omega) | assumption | rfl))) rfl (fun v12 g12 w5 hXw5 ho12 hge12 => ?_))
        have hl12 := Lo.new hB hge12
        have hd9_12 := DI.new hn9 hge12
        have hd8_12 := Dj.new ho8.ltO hge12
        have hd11_12 := Dj.new ho11.ltO hge12
        have hk0_12 := OkN.new hU0 hge12
        have hg0_12 := OgR.new hU0.size hge12
        have hk1_12 := OkN.new hU1 hge12
        have hg1_12 := OgR.new hU1.size hge12
        have hk2_12 := OkN.new hU2 hge12
        have hg2_12 := OgR.new hU2.size hge12
        have hB := hB.trans hXw5
        have hn9 := hn9.up hXw5
        have ho8 := ho8.up hXw5
        have ho11 := ho11.up hXw5
        have hU0 := hU0.ext hXw5
        have hU1 := hU1.ext hXw5
        have hU2 := hU2.ext hXw5
        refine WL.op rfl (OpK.appendS (f := VI) rfl T.sl28 T.zv2 rfl rfl ho11 rfl (Osl.src ho12 (fun _ => rfl)) (by first | (simp only [List.length_cons, List.length_nil]; omega) | (simp only [List.length_append, List.length_cons, List.length_nil]; omega)) (fun v13 og13 w6 hXw6 ho13 hap13 => ?_))
        have hl13 := Lo.app hl11 hB hap13
        have hd9_13 := DI.app hd9_11 hn9 hap13
        have hd8_13 := Dj.app hd8_11 ho8.ltO hap13
        have hd12_13 := Dj.app (Dj.symm hd11_12) ho12.ltO hap13
        have hk0_13 := OkN.app hU0 hk0_11 hap13
        have hg0_13 := OgR.app hg0_11 hU0.size hap13
        have hk1_13 := OkN.app hU1 hk1_11 hap13
        have hg1_13 := OgR.app hg1_11 hU1.size hap13
        have hk2_13 := OkN.app hU2 hk2_11 hap13
        have hg2_13 := OgR.app hg2_11 hU2.size hap13
        have hB := hB.updL hXw6 hl11
        have hn9 := hn9.updD hXw6 hd9_11
        have ho8 := ho8.updD hXw6 hd8_11
        have ho12 := ho12.updD hXw6 (Dj.symm hd11_12)
        have hU0 := hU0.step hXw6 hk0_11
        have hU1 := hU1.step hXw6 hk1_11
        have hU2 := hU2.step hXw6 hk2_11
        refine WL.op rfl (OpK.buildS VV (os := [.tmp 38]) [_] rfl T.sl25 rfl rfl T.zv28 rfl (by intro z hz; first | rfl | (simp only [List.mem_cons, List.not_mem_nil, or_false] at hz; subst hz; exact (by first | exact Rd.cells1 (by assumption) | exact Osl.cells1 (by assumption) | exact Osn.cells1 (by assumption) | exact Rd.cells1 (NL.rd (by assumption)) | exact Inn.cell1 (by assumption) (by omega) | assumption | rfl))) rfl (fun v14 g14 w7 hXw7 ho14 hge14 => ?_))
        have hl14 := Lo.new hB hge14
        have hd9_14 := DI.new hn9 hge14
        have hd8_14 := Dj.new ho8.ltO hge14
        have hd12_14 := Dj.new ho12.ltO hge14
        have hd13_14 := Dj.new ho13.ltO hge14
        have hk0_14 := OkN.new hU0 hge14
        have hg0_14 := OgR.new hU0.size hge14
        have hk1_14 := OkN.new hU1 hge14
        have hg1_14 := OgR.new hU1.size hge14
        have hk2_14 := OkN.new hU2 hge14
        have hg2_14 := OgR.new hU2.size hge14
        have hB := hB.trans hXw7
        have hn9 := hn9.up hXw7
        have ho8 := ho8.up hXw7
        have ho12 := ho12.up hXw7
        have ho13 := ho13.up hXw7
        have hU0 := hU0.ext hXw7
        have hU1 := hU1.ext hXw7
        have hU2 := hU2.ext hXw7
        refine WL.op rfl (OpK.appendS (f := VV) rfl T.sl25 T.zv28 rfl rfl ho8 rfl (Osl.srcM ho14 (one_mem (Osl.oneCell ho13))) (by first | (simp only [List.length_cons, List.length_nil]; omega) | (simp only [List.length_append, List.length_cons, List.length_nil]; omega)) (fun v15 og15 w8 hXw8 ho15 hap15 => ?_))
        have hn16 := Inn.put hn9 ho13 hd9_13
        have hl16 := LoI.put hl9 hl13
        have hz0_16 := BlR.put hz0_9 hg0_13
        have hz1_16 := BlR.put hz1_9 hg1_13
        have hz2_16 := BlR.put hz2_9 hg2_13
        have hd8_16 := DI.put hd8_9 (Dj.symm hd8_13)
        have hd12_16 := DI.put hd9_12 (Dj.symm hd12_13)
        have hd14_16 := DI.put hd9_14 hd13_14
        have hnp16 := hn16
        have hl15 := Lo.app hl8 hB hap15
        have hd12_15 := Dj.app (Dj.symm hd8_12) ho12.ltO hap15
        have hd14_15 := Dj.app (Dj.symm hd8_14) ho14.ltO hap15
        have hd15_16 := DI.app hd8_16 hn16 hap15
        have hk0_15 := OkN.app hU0 hk0_8 hap15
        have hg0_15 := OgR.app hg0_8 hU0.size hap15
        have hk1_15 := OkN.app hU1 hk1_8 hap15
        have hg1_15 := OgR.app hg1_8 hU1.size hap15
        have hk2_15 := OkN.app hU2 hk2_8 hap15
        have hg2_15 := OgR.app hg2_8 hU2.size hap15
        have hB := hB.updL hXw8 hl8
        have ho12 := ho12.updD hXw8 (Dj.symm hd8_12)
        have ho14 := ho14.updD hXw8 (Dj.symm hd8_14)
        have hn16 := hn16.updD hXw8 hd8_16
        have hU0 := hU0.step hXw8 hk0_8
        have hU1 := hU1.step hXw8 hk1_8
        have hU2 := hU2.step hXw8 hk2_8
        refine WL.pure rfl rfl rfl (PV.assign rfl) ?_
        refine WL.nil ?_
        refine NQ.block ?_
        refine NQ.then ?_
        refine CW.reg ?_
        refine WL.pure rfl rfl rfl (PV.move rfl) ?_
        refine WL.pure rfl rfl rfl (PV.add rfl rfl (by constructor <;> omega)) ?_
        refine WL.pure rfl rfl rfl (PV.assign rfl) ?_
        refine WL.nil ?_
        refine NQ.next (ρ := [(5, _), (9, _)]) ⟨rfl, rfl, rfl, rfl, rfl, rfl, trivial⟩ ?_
        exact ⟨_, ⟨v15, og15, _, (os8 ++ [og13]), l + 1, rfl, rfl, hU2, ho15, (by first | exact hg2_15 | exact OgR.weak hg2_15), innE hn16 (by exact wQ_put (by omega) rfl), (by first | exact hz2_16 | exact BlR.weak hz2_16), hd15_16, (by first | omega | assumption | (simp_all; done) | (simp_all; omega))⟩, by omega⟩
      try simp only [decide_eq_true_eq, decide_eq_false_iff_not, Bool.not_eq_true', Bool.not_eq_false', Bool.not_eq_eq_eq_not, Bool.not_true, Bool.not_false, Int.not_lt, Int.not_le, Classical.not_not, beq_iff_eq, beq_eq_false_iff_ne] at hc3
      refine CW.exit ?_
      refine XQ.then ?_
      refine XQ.then ?_
      refine XQ.here ?_
      refine NQ.block ?_
      refine NQ.then ?_
      refine CW.reg ?_
      refine WL.pure rfl rfl rfl (PV.move rfl) ?_
      refine WL.pure rfl rfl rfl (PV.add rfl rfl (by constructor <;> omega)) ?_
      refine WL.pure rfl rfl rfl (PV.assign rfl) ?_
      refine WL.nil ?_
      refine NQ.next (ρ := [(5, _), (8, _)]) ⟨rfl, rfl, rfl, rfl, rfl, trivial⟩ ?_
      exact ⟨_, ⟨v8, og8, _, os8, i + 1, (by congr 3), rfl, hU1, ho8, (by first | exact hg1_8 | exact OgR.weak hg1_8), innE hn9 (by rw [show l = L.toNat from (by omega)]; exact wQ_next (by omega)), (by first | exact hz1_9 | exact BlR.weak hz1_9), hd8_9, (by first | omega | assumption | (simp_all; done) | (simp_all; omega))⟩, by omega⟩
    try simp only [decide_eq_true_eq, decide_eq_false_iff_not, Bool.not_eq_true', Bool.not_eq_false', Bool.not_eq_eq_eq_not, Bool.not_true, Bool.not_false, Int.not_lt, Int.not_le, Classical.not_not, beq_iff_eq, beq_eq_false_iff_ne] at hc2
    refine CW.exit ?_
    refine XQ.then ?_
    refine XQ.then ?_
    refine XQ.here ?_
    refine NQ.then ?_
    refine CW.reg ?_
    refine WL.pure rfl rfl rfl (PV.move rfl) ?_
    refine WL.pure rfl rfl rfl (PV.assign rfl) ?_
    refine WL.nil ?_
    refine NQ.block ?_
    refine NQ.then ?_
    refine CW.reg ?_
    refine WL.pure rfl rfl rfl (PV.move rfl) ?_
    refine WL.pure rfl rfl rfl (PV.sub rfl rfl (by constructor <;> omega)) ?_
    refine WL.pure rfl rfl rfl (PV.assign rfl) ?_
    refine WL.nil ?_
    refine NQ.next (ρ := [(1, _), (5, _), (6, _)]) ⟨rfl, rfl, rfl, rfl, trivial⟩ ?_
    exact ⟨_, ⟨v6, og6, _, os6, r + 1, (by rw [show n - ((r + 1 : Nat) : Int) = n - (r : Int) - 1 from (by omega)]), rfl, hU0, ho6, (by first | exact hg0_6 | exact OgR.weak hg0_6), innE hn7 (by rw [show i = (wordsL L r).length from (by omega)]; exact wQ_done (Nat.le_refl _)), (by first | exact hz0_7 | exact BlR.weak hz0_7), hd6_7, (by first | omega | assumption | (simp_all; done) | (simp_all; omega))⟩, by omega⟩
  try simp only [decide_eq_true_eq, decide_eq_false_iff_not, Bool.not_eq_true', Bool.not_eq_false', Bool.not_eq_eq_eq_not, Bool.not_true, Bool.not_false, Int.not_lt, Int.not_le, Classical.not_not, beq_iff_eq, beq_eq_false_iff_ne] at hc1
  refine CW.exit ?_
  refine XQ.then ?_
  refine XQ.then ?_
  refine XQ.here ?_
  refine NQ.then ?_
  refine CW.seq ?_
  refine CW.reg ?_
  refine WL.pure rfl rfl rfl (PV.move rfl) ?_
  refine WL.pure rfl rfl rfl (PV.assign rfl) ?_
  refine WL.nilS ?_
  refine CW.ret ?_
  refine RQ.r1 rfl ?_
  refine ⟨hB, v4, og4, _ , os4, ?_, ho4, hl4, innE hn5 ?_, hl5, hd4_5⟩
  · skip
    rfl
  · skip
    rw [show r = n.toNat from (by omega)]
theorem c_spec_BackLiterate {w : World} {va : Value} {cs : List C4} {vw : Value} {xs : List Int} {L : Int} (ha : Rd ECh w va cs) (hw : Rd EI w vw xs) : Calls Try.prog 80 #[va, vw, .int .i64 L] w (Ret1 (fun v w' => Ext w w' ∧ ∃ u og_u vs_u os_u, v = .tuple #[u, .bool (bckB cs xs L)] ∧ Osl VV w' og_u u vs_u ∧ Lo w og_u ∧ Inn w' os_u vs_u (onT (bckB cs xs L) (srcL (traF cs) xs L 5)) ∧ LoI w os_u ∧ DI os_u og_u)) := by
  have hB : Ext w w := Ext.refl w
  have hla := ha.leI; have hlw := hw.leI
  refine callsOf (vs := [_, _, _]) Try.func80 rfl Try.ntmps80 rfl rfl ?_
  refine CW.seq ?_
  refine CW.reg ?_
  refine WL.pure rfl rfl rfl (PV.assign rfl) ?_
  refine WL.pure rfl rfl rfl (PV.assign rfl) ?_
  refine WL.nilS ?_
  refine CW.seq ?_
  refine CW.seq ?_
  refine CW.reg ?_
  refine WL.pure rfl rfl rfl (PV.move rfl) ?_
  refine WL.pure rfl rfl rfl (PV.move rfl) ?_
  refine WL.op rfl (OpK.callR rfl T.cf167 rfl (c_spec_l05Plain (by first | assumption | exact Rd.up (by assumption) hB | exact rdCh (by assumption) (by assumption))) (fun w1 hXw1 => ?_))
  have hB := hB.trans hXw1
  refine WL.pure rfl rfl rfl (PV.not rfl) ?_
  refine WL.pure rfl rfl rfl (PV.move rfl) ?_
  refine WL.split (t := 17) rfl (fun hc1 => ?_) (fun hc1 => ?_)
  · skip
    try simp only [decide_eq_true_eq, decide_eq_false_iff_not, Bool.not_eq_true', Bool.not_eq_false', Bool.not_eq_eq_eq_not, Bool.not_true, Bool.not_false, Int.not_lt, Int.not_le, Classical.not_not, beq_iff_eq, beq_eq_false_iff_ne] at hc1
    refine WL.skip rfl rfl rfl rfl rfl ?_
    refine WL.skip rfl rfl rfl rfl rfl ?_
    refine WL.skip rfl rfl rfl rfl rfl ?_
    refine WL.skip rfl rfl rfl rfl rfl ?_
    refine WL.pure rfl rfl rfl (PV.pickT rfl rfl) ?_
    refine WL.nilS ?_
    refine CW.condT rfl ?_
    refine CW.seq ?_
    refine CW.reg ?_
    refine WL.pure rfl rfl rfl (PV.assign rfl) ?_
    refine WL.pure rfl rfl rfl (PV.assign rfl) ?_
    refine WL.nilS ?_
    refine CW.ret ?_
    refine RQ.then ?_
    refine RQ.r2 rfl rfl ?_
    first | (have hS : bckB cs xs L = false := (by first | exact bck_n1 (by assumption) | exact bck_n2 (by assumption)); exact ⟨hB, .slice none 0 0, none, [], [], tE2 rfl (bE hS.symm), Osl.nil _ _, Lo.nl _, innE (Inn.zero _) (onT_no (by rw [hS]; decide)).symm, LoI.nl _, DI.nl _⟩) | (obtain rfl : k = (wordsP L ((5 : Int).toNat + 1)).length := (by omega); exact ⟨hB, _, _, _, _, tE2 rfl (bE hS.symm), ho4, hl4, innE (Inn.sel hn3 _ (Nat.le_refl _)) (onT_yes hS).symm, LoI.sel hl3 (by rw [hn3.lo]; exact Nat.le_refl _), DI.sel hd3_4 (by rw [hn3.lo]; exact Nat.le_refl _)⟩)
  try simp only [decide_eq_true_eq, decide_eq_false_iff_not, Bool.not_eq_true', Bool.not_eq_false', Bool.not_eq_eq_eq_not, Bool.not_true, Bool.not_false, Int.not_lt, Int.not_le, Classical.not_not, beq_iff_eq, beq_eq_false_iff_ne] at hc1
  refine WL.pureG rfl rfl rfl rfl rfl (PV.move rfl) ?_
  refine WL.pureG rfl rfl rfl rfl rfl (PV.move rfl) ?_
  refine WL.opG rfl rfl rfl (OpK.callR rfl T.cf168 rfl (c_spec_l05Long (by first | assumption | exact Rd.up (by assumption) hB | exact Osl.rd (by assumption) | exact Osn.rdR (by assumption) | exact NL.rd (by assumption) | exact rdII (by assumption) (by assumption) | exact Inn.rd (by assumption) (by omega))) (fun w2 hXw2 => ?_))
  have hB := hB.trans hXw2
  refine WL.pureG rfl rfl rfl rfl rfl (PV.not rfl) ?_
  refine WL.pure rfl rfl rfl (PV.pickF rfl rfl) ?_
  refine WL.nilS ?_
  refine CW.cond rfl (fun hc2 => ?_) (fun hc2 => ?_)
  · skip
    try simp only [decide_eq_true_eq, decide_eq_false_iff_not, Bool.not_eq_true', Bool.not_eq_false', Bool.not_eq_eq_eq_not, Bool.not_true, Bool.not_false, Int.not_lt, Int.not_le, Classical.not_not, beq_iff_eq, beq_eq_false_iff_ne] at hc2
    refine CW.seq ?_
    refine CW.reg ?_
    refine WL.pure rfl rfl rfl (PV.assign rfl) ?_
    refine WL.pure rfl rfl rfl (PV.assign rfl) ?_
    refine WL.nilS ?_
    refine CW.ret ?_
    refine RQ.then ?_
    refine RQ.r2 rfl rfl ?_
    first | (have hS : bckB cs xs L = false := (by first | exact bck_n1 (by assumption) | exact bck_n2 (by assumption)); exact ⟨hB, .slice none 0 0, none, [], [], tE2 rfl (bE hS.symm), Osl.nil _ _, Lo.nl _, innE (Inn.zero _) (onT_no (by rw [hS]; decide)).symm, LoI.nl _, DI.nl _⟩) | (obtain rfl : k = (wordsP L ((5 : Int).toNat + 1)).length := (by omega); exact ⟨hB, _, _, _, _, tE2 rfl (bE hS.symm), ho4, hl4, innE (Inn.sel hn3 _ (Nat.le_refl _)) (onT_yes hS).symm, LoI.sel hl3 (by rw [hn3.lo]; exact Nat.le_refl _), DI.sel hd3_4 (by rw [hn3.lo]; exact Nat.le_refl _)⟩)
  try simp only [decide_eq_true_eq, decide_eq_false_iff_not, Bool.not_eq_true', Bool.not_eq_false', Bool.not_eq_eq_eq_not, Bool.not_true, Bool.not_false, Int.not_lt, Int.not_le, Classical.not_not, beq_iff_eq, beq_eq_false_iff_ne] at hc2
  refine CW.skipS ?_
  refine CW.seq ?_
  refine CW.reg ?_
  have hpb := pln_y (by assumption : plnB cs L = true); have hlb := listB_y hpb.1; have hoks := hlb.2.2.2; have hlg := longB_y (by assumption : longB xs L = true); have hx24 := hlg.2.1; have hpn := hpb.2; have hL := hlg.1; have hS := bck_y (by assumption : plnB cs L = true) (by assumption : longB xs L = true)
  refine WL.op rfl (OpK.buildS VV (os := []) [] rfl T.sl25 rfl rfl T.zv28 rfl (by intro z hz; cases hz) rfl (fun v1 g1 w3 hXw3 ho1 hge1 => ?_))
  have hl1 := Lo.new hB hge1
  have hB := hB.trans hXw3
  refine WL.pure rfl rfl rfl (PV.assign rfl) ?_
  refine WL.nilS ?_
  refine CW.seq ?_
  refine CW.reg ?_
  refine WL.pure rfl rfl rfl (PV.move rfl) ?_
  refine WL.op rfl (OpK.call rfl T.cf160 rfl (c_spec_l05Words (by first | assumption | omega | (simp only [marks_len, marksB_len, marksR_len, sumL_marksS]; omega)) (by first | assumption | omega | (simp only [marks_len, marksB_len, marksR_len, sumL_marksS]; omega))) (fun rv1 w4 hR => ?_))
  obtain ⟨hXw4, v2, og2, vs3, os3, rfl, ho2, hq2, hn3, hq3, hd2_3⟩ := hR
  have hl2 := Lo.up hq2 hB
  have hd1_2 := Dj.lo ho1.ltO hq2
  have hl3 := LoI.up hq3 hB
  have hlv3 := hn3.lv
  have hd1_3 := DI.lo ho1.ltO hq3
  have hB := hB.trans hXw4
  have ho1 := ho1.up hXw4
  refine WL.pure rfl rfl rfl (PV.assign rfl) ?_
  refine WL.nilS ?_
  refine CW.seq ?_
  refine CW.seq ?_
  refine CW.reg ?_
  refine WL.pure rfl rfl rfl (PV.move rfl) ?_
  refine WL.pure rfl rfl rfl ((PV.lenOs rfl ho2 T.sl25)) ?_
  refine WL.pure rfl rfl rfl (PV.move rfl) ?_
  refine WL.nilS ?_
  refine CW.block ?_
  have hlt1 := ho1.ltO
  have hlt2 := ho2.ltO
  have hlt3 := hn3.ltO
  refine CW.loop (σk := [(0, _), (1, _), (9, _), (27, _)]) (fun ρ wz m => ∃ (v4 : Value) (og4 : Option Nat) (k : Nat), ρ = [(8, v4), (28, .int .i64 (k : Nat))] ∧ m = (wordsP L ((5 : Int).toNat + 1)).length - k ∧ UpdL [(some g1)] w4 wz ∧ Osl VV wz og4 v4 (sel (leadP (traF cs) xs (wordsP L ((5 : Int).toNat + 1))) (.slice none 0 0) vs3 k) ∧ OgR w4 (some g1) og4 ∧ (k ≤ (wordsP L ((5 : Int).toNat + 1)).length)) (ρ₀ := [(8, _), (28, _)]) (m₀ := _) ⟨rfl, rfl, rfl, rfl, rfl, rfl, trivial⟩ ⟨v1, (some g1), 0, rfl, rfl, (UpdL.refl _ _), osE ho1 (by exact sel_zero _ _ _), OgR.refl _ _, (by first | omega | rfl | (simp; done) | assumption | (simp_all; done))⟩ ?_
  rintro _ wl1 _ ⟨v4, og4, k, rfl, rfl, hU0, ho4, ha4, hk⟩
  have ho2 := ho2.loop hU0 ⟨(Dj.symm hd1_2), trivial⟩
  have hn3 := hn3.loop hU0 ⟨hd1_3, trivial⟩
  have hl4 := Lo.ogr hl1 hB ha4
  have hg0_4 := ha4
  have hk0_4 : OkB [(some g1)] w4 og4 := OkB.ogr (OkB.mem (by simp)) (Nat.le_refl _) ha4
  have hd2_4 := Dj.ogr (Dj.symm hd1_2) hlt2 ha4
  have hd3_4 := DI.ogr hd1_3 hlt3 ha4
  have hB := hB.loop hU0 ⟨hl1, trivial⟩
  have hsl := sel_len (leadP (traF cs) xs (wordsP L ((5 : Int).toNat + 1))) (.slice none 0 0) vs3 k; have hpl := wordsP_len (L := L) (by omega) ((5 : Int).toNat + 1) (by omega)
  refine CW.seq ?_
  refine CW.reg ?_
  refine WL.pure rfl rfl rfl (PV.lss rfl rfl) ?_
  refine WL.nilS ?_
  refine CW.seq ?_
  refine CW.cond rfl (fun hc3 => ?_) (fun hc3 => ?_)
  · skip
    try simp only [decide_eq_true_eq, decide_eq_false_iff_not, Bool.not_eq_true', Bool.not_eq_false', Bool.not_eq_eq_eq_not, Bool.not_true, Bool.not_false, Int.not_lt, Int.not_le, Classical.not_not, beq_iff_eq, beq_eq_false_iff_ne] at hc3
    refine CW.skipS ?_
    refine CW.seq ?_
    refine CW.block ?_
    refine CW.seq ?_
    refine CW.reg ?_
    refine WL.pure rfl rfl rfl (PV.move rfl) ?_
    refine WL.pure rfl rfl rfl (PV.assign rfl) ?_
    refine WL.nilS ?_
    refine CW.seq ?_
    refine CW.reg ?_
    have hw5 := wordsP_get (L := L) (m := (5 : Int).toNat) (k := k) (by omega)
    refine WL.pure rfl rfl rfl (PV.move rfl) ?_
    refine WL.pure rfl rfl rfl (PV.move rfl) ?_
    refine WL.pure rfl rfl rfl (PV.move rfl) ?_
    first
      | refine WL.atO (x := .tmp 33) (y := .tmp 34) (f := VV) (.slice none 0 0) rfl rfl ho2 (by first | omega | (simp only [List.length_set]; omega) | (simp only [List.length_append, List.length_take, List.length_replicate, List.length_drop]; omega)) (fun p1 hpp1 hcp1 => ?_)
      | refine WL.atOZ (x := .tmp 33) (y := .tmp 34) (f := VV) (.slice none 0 0) rfl rfl ho2 (by first | omega | (simp only [List.length_set]; omega) | (simp only [List.length_append, List.length_take, List.length_replicate, List.length_drop]; omega)) (fun p1 hpp1 hzp1 hcp1 => ?_)
    refine WL.pure rfl rfl rfl ((by first | exact PV.indexAddr hpp1 rfl rfl T.sl25 | exact PV.indexAddr hpp1 rfl (by rw [← hzp1]; rfl) T.sl25)) ?_
    refine WL.pure rfl rfl rfl ((by first | exact PV.load0 T.na28 rfl (by first | exact Cells.up (by assumption) hB | exact Bx.cells (by assumption) | assumption) (Ext.refl _) rfl | exact PV.load1 T.na28 rfl (by first | exact Cells.up (by assumption) hB | exact Bx.cells (by assumption) | assumption) (Ext.refl _) rfl)) ?_
    refine WL.op rfl (OpK.call rfl T.cf169 rfl (c_spec_l05Trans (by first | assumption | exact Rd.up (by assumption) hB | exact rdCh (by assumption) (by assumption)) (by first | assumption | exact Rd.up (by assumption) hB | exact Osl.rd (by assumption) | exact Osn.rdR (by assumption) | exact NL.rd (by assumption) | exact rdII (by assumption) (by assumption) | exact Inn.rd (by assumption) (by omega)) (by first | assumption | omega | (simp only [marks_len, marksB_len, marksR_len, sumL_marksS]; omega)) (by first | assumption | (intro k9 h9; simp only [List.length_cons, List.length_nil] at h9; (obtain rfl : k9 = 0 := (by omega)); assumption))) (fun rv2 w5 hR => ?_))
    obtain ⟨hXw5, v5, og5, rfl, ho5, hq5⟩ := hR
    have hl5 := Lo.up hq5 hB
    have hd2_5 := Dj.lo ho2.ltO hq5
    have hd3_5 := DI.fresh hn3 hq5
    have hd4_5 := Dj.lo ho4.ltO hq5
    have hk0_5 := OkN.lo hU0 hq5
    have hg0_5 := OgR.lo hU0.size hq5
    have hB := hB.trans hXw5
    have ho2 := ho2.up hXw5
    have hn3 := hn3.up hXw5
    have ho4 := ho4.up hXw5
    have hU0 := hU0.ext hXw5
    refine WL.pure rfl rfl rfl (PV.move rfl) ?_
    refine WL.pure rfl rfl rfl (PV.extract rfl rfl) ?_
    refine WL.pure rfl rfl rfl (PV.extract rfl rfl) ?_
    refine WL.pure rfl rfl rfl (PV.assign rfl) ?_
    refine WL.pure rfl rfl rfl (PV.assign rfl) ?_
    refine WL.nilS ?_
    refine CW.seq ?_
    refine CW.reg ?_
    refine WL.pure rfl rfl rfl (PV.move rfl) ?_
    refine WL.pure rfl rfl rfl (PV.move rfl) ?_
    refine WL.split (t := 41) rfl (fun hc4 => ?_) (fun hc4 => ?_)
    rotate_left
    · skip
      try simp only [decide_eq_true_eq, decide_eq_false_iff_not, Bool.not_eq_true', Bool.not_eq_false', Bool.not_eq_eq_eq_not, Bool.not_true, Bool.not_false, Int.not_lt, Int.not_le, Classical.not_not, beq_iff_eq, beq_eq_false_iff_ne] at hc4
      refine WL.skip rfl rfl rfl rfl rfl ?_
      refine WL.skip rfl rfl rfl rfl rfl ?_
      refine WL.skip rfl rfl rfl rfl rfl ?_
      refine WL.pure rfl rfl rfl (PV.pickF rfl rfl) ?_
      refine WL.nilS ?_
      refine CW.condF rfl ?_
      refine CW.skip ?_
      refine NQ.block ?_
      refine NQ.then ?_
      refine CW.reg ?_
      refine WL.pure rfl rfl rfl (PV.add rfl rfl (by constructor <;> omega)) ?_
      refine WL.pure rfl rfl rfl (PV.move rfl) ?_
      refine WL.nil ?_
      refine NQ.next (ρ := [(8, _), (28, _)]) ⟨rfl, rfl, rfl, rfl, rfl, rfl, trivial⟩ ?_
      exact ⟨_, ⟨v4, og4, k + 1, rfl, rfl, hU0, osE ho4 (by first | exact sel_put (traP_y (by assumption) (by assumption)) | exact sel_no (traP_n1 (by assumption)) | exact sel_no (traP_n2 (by assumption))), (by first | exact hg0_4 | exact OgR.weak hg0_4), (by first | omega | assumption | (simp_all; done) | (simp_all; omega))⟩, by omega⟩
    try simp only [decide_eq_true_eq, decide_eq_false_iff_not, Bool.not_eq_true', Bool.not_eq_false', Bool.not_eq_eq_eq_not, Bool.not_true, Bool.not_false, Int.not_lt, Int.not_le, Classical.not_not, beq_iff_eq, beq_eq_false_iff_ne] at hc4
    refine WL.pureG rfl rfl rfl rfl rfl (PV.move rfl) ?_
    refine WL.pureG rfl rfl rfl rfl rfl (PV.move rfl) ?_
    refine WL.opG rfl rfl rfl (OpK.callR rfl T.cf172 rfl (c_spec_l00Same (by first | assumption | exact Rd.up (by assumption) hB | exact Osl.rd (by assumption) | exact Osn.rdR (by assumption) | exact NL.rd (by assumption) | exact rdII (by assumption) (by assumption) | exact Inn.rd (by assumption) (by omega)) (by first | assumption | exact Rd.up (by assumption) hB | exact Osl.rd (by assumption) | exact Osn.rdR (by assumption) | exact NL.rd (by assumption) | exact rdII (by assumption) (by assumption) | exact Inn.rd (by assumption) (by omega))) (fun w6 hXw6 => ?_))
    have hB := hB.trans hXw6
    have ho2 := ho2.up hXw6
    have hn3 := hn3.up hXw6
    have ho4 := ho4.up hXw6
    have ho5 := ho5.up hXw6
    have hU0 := hU0.ext hXw6
    refine WL.pure rfl rfl rfl (PV.pickT rfl rfl) ?_
    refine WL.nilS ?_
    refine CW.cond rfl (fun hc5 => ?_) (fun hc5 => ?_)
    · skip
      try simp only [decide_eq_true_eq, decide_eq_false_iff_not, Bool.not_eq_true', Bool.not_eq_false', Bool.not_eq_eq_eq_not, Bool.not_true, Bool.not_false, Int.not_lt, Int.not_le, Classical.not_not, beq_iff_eq, beq_eq_false_iff_ne] at hc5
      refine CW.reg ?_
      refine WL.pure rfl rfl rfl (PV.move rfl) ?_
      refine WL.pure rfl rfl rfl (PV.move rfl) ?_
      refine WL.pure rfl rfl rfl (PV.move rfl) ?_
      first
        | refine WL.atO (x := .tmp 47) (y := .tmp 48) (f := VV) (.slice none 0 0) rfl rfl ho2 (by first | omega | (simp only [List.length_set]; omega) | (simp only [List.length_append, List.length_take, List.length_replicate, List.length_drop]; omega)) (fun p2 hpp2 hcp2 => ?_)
        | refine WL.atOZ (x := .tmp 47) (y := .tmp 48) (f := VV) (.slice none 0 0) rfl rfl ho2 (by first | omega | (simp only [List.length_set]; omega) | (simp only [List.length_append, List.length_take, List.length_replicate, List.length_drop]; omega)) (fun p2 hpp2 hzp2 hcp2 => ?_)
      refine WL.pure rfl rfl rfl ((by first | exact PV.indexAddr hpp2 rfl rfl T.sl25 | exact PV.indexAddr hpp2 rfl (by rw [← hzp2]; rfl) T.sl25)) ?_
      refine WL.pure rfl rfl rfl ((by first | exact PV.load0 T.na28 rfl (by first | exact Cells.up (by assumption) hB | exact Bx.cells (by assumption) | assumption) (Ext.refl _) rfl | exact PV.load1 T.na28 rfl (by first | exact Cells.up (by assumption) hB | exact Bx.cells (by assumption) | assumption) (Ext.refl _) rfl)) ?_
      refine WL.op rfl (OpK.buildS VV (os := [.tmp 50]) [_] rfl T.sl25 rfl rfl T.zv28 rfl (by intro z hz; first | rfl | (simp only [List.mem_cons, List.not_mem_nil, or_false] at hz; subst hz; exact (by first | exact Rd.cells1 (by assumption) | exact Osl.cells1 (by assumption) | exact Osn.cells1 (by assumption) | exact Rd.cells1 (NL.rd (by assumption)) | exact Inn.cell1 (by assumption) (by omega) | assumption | rfl))) rfl (fun v6 g6 w7 hXw7 ho6 hge6 => ?_))
      have hl6 := Lo.new hB hge6
      have hd2_6 := Dj.new ho2.ltO hge6
      have hd3_6 := DI.new hn3 hge6
      have hd4_6 := Dj.new ho4.ltO hge6
      have hd5_6 := Dj.new ho5.ltO hge6
      have hk0_6 := OkN.new hU0 hge6
      have hg0_6 := OgR.new hU0.size hge6
      have hB := hB.trans hXw7
      have ho2 := ho2.up hXw7
      have hn3 := hn3.up hXw7
      have ho4 := ho4.up hXw7
      have ho5 := ho5.up hXw7
      have hU0 := hU0.ext hXw7
      refine WL.op rfl (OpK.appendS (f := VV) rfl T.sl25 T.zv28 rfl rfl ho4 rfl (Osl.srcM ho6 (one_mem (Inn.one1 hn3 (by omega)))) (by first | (simp only [List.length_cons, List.length_nil]; omega) | (simp_all; omega)) (fun v7 og7 w8 hXw8 ho7 hap7 => ?_))
      have hl7 := Lo.app hl4 hB hap7
      have hd2_7 := Dj.app hd2_4 ho2.ltO hap7
      have hd3_7 := DI.app hd3_4 hn3 hap7
      have hd5_7 := Dj.app (Dj.symm hd4_5) ho5.ltO hap7
      have hd6_7 := Dj.app (Dj.symm hd4_6) ho6.ltO hap7
      have hk0_7 := OkN.app hU0 hk0_4 hap7
      have hg0_7 := OgR.app hg0_4 hU0.size hap7
      have hB := hB.updL hXw8 hl4
      have ho2 := ho2.updD hXw8 hd2_4
      have hn3 := hn3.updD hXw8 hd3_4
      have ho5 := ho5.updD hXw8 (Dj.symm hd4_5)
      have ho6 := ho6.updD hXw8 (Dj.symm hd4_6)
      have hU0 := hU0.step hXw8 hk0_4
      refine WL.pure rfl rfl rfl (PV.assign rfl) ?_
      refine WL.nil ?_
      refine NQ.block ?_
      refine NQ.then ?_
      refine CW.reg ?_
      refine WL.pure rfl rfl rfl (PV.add rfl rfl (by constructor <;> omega)) ?_
      refine WL.pure rfl rfl rfl (PV.move rfl) ?_
      refine WL.nil ?_
      refine NQ.next (ρ := [(8, _), (28, _)]) ⟨rfl, rfl, rfl, rfl, rfl, rfl, trivial⟩ ?_
      exact ⟨_, ⟨v7, og7, k + 1, rfl, rfl, hU0, osE ho7 (by first | exact sel_put (traP_y (by assumption) (by assumption)) | exact sel_no (traP_n1 (by assumption)) | exact sel_no (traP_n2 (by assumption))), (by first | exact hg0_7 | exact OgR.weak hg0_7), (by first | omega | assumption | (simp_all; done) | (simp_all; omega))⟩, by omega⟩
    try simp only [decide_eq_true_eq, decide_eq_false_iff_not, Bool.not_eq_true', Bool.not_eq_false', Bool.not_eq_eq_eq_not, Bool.not_true, Bool.not_false, Int.not_lt, Int.not_le, Classical.not_not, beq_iff_eq, beq_eq_false_iff_ne] at hc5
    refine CW.skip ?_
    refine NQ.block ?_
    refine NQ.then ?_
    refine CW.reg ?_
    refine WL.pure rfl rfl rfl (PV.add rfl rfl (by constructor <;> omega)) ?_
    refine WL.pure rfl rfl rfl (PV.move rfl) ?_
    refine WL.nil ?_
    refine NQ.next (ρ := [(8, _), (28, _)]) ⟨rfl, rfl, rfl, rfl, rfl, rfl, trivial⟩ ?_
    exact ⟨_, ⟨v4, og4, k + 1, rfl, rfl, hU0, osE ho4 (by first | exact sel_put (traP_y (by assumption) (by assumption)) | exact sel_no (traP_n1 (by assumption)) | exact sel_no (traP_n2 (by assumption))), (by first | exact hg0_4 | exact OgR.weak hg0_4), (by first | omega | assumption | (simp_all; done) | (simp_all; omega))⟩, by omega⟩
  try simp only [decide_eq_true_eq, decide_eq_false_iff_not, Bool.not_eq_true', Bool.not_eq_false', Bool.not_eq_eq_eq_not, Bool.not_true, Bool.not_false, Int.not_lt, Int.not_le, Classical.not_not, beq_iff_eq, beq_eq_false_iff_ne] at hc3
  refine CW.exit ?_
  refine XQ.then ?_
  refine XQ.then ?_
  refine XQ.here ?_
  refine NQ.then ?_
  refine CW.seq ?_
  refine CW.reg ?_
  refine WL.pure rfl rfl rfl (PV.move rfl) ?_
  refine WL.pure rfl rfl rfl (PV.assign rfl) ?_
  refine WL.pure rfl rfl rfl (PV.assign rfl) ?_
  refine WL.nilS ?_
  refine CW.ret ?_
  refine RQ.r2 rfl rfl ?_
  first | (have hS : bckB cs xs L = false := (by first | exact bck_n1 (by assumption) | exact bck_n2 (by assumption)); exact ⟨hB, .slice none 0 0, none, [], [], tE2 rfl (bE hS.symm), Osl.nil _ _, Lo.nl _, innE (Inn.zero _) (onT_no (by rw [hS]; decide)).symm, LoI.nl _, DI.nl _⟩) | (obtain rfl : k = (wordsP L ((5 : Int).toNat + 1)).length := (by omega); exact ⟨hB, _, _, _, _, tE2 rfl (bE hS.symm), ho4, hl4, innE (Inn.sel hn3 _ (Nat.le_refl _)) (onT_yes hS).symm, LoI.sel hl3 (by rw [hn3.lo]; exact Nat.le_refl _), DI.sel hd3_4 (by rw [hn3.lo]; exact Nat.le_refl _)⟩)
theorem c_slices_Index_int64_int64 {w : World} {va : Value} {xs : List Int} {v : Int} (ha : Rd EI w va xs) : Calls Try.prog 175 #[va, .int .i64 v] w (Ret1 (RQt (.int .i64 (idxB (fun k => decide (v = xs.getD k 0)) xs.length)) w)) := by
  have hB : Ext w w := Ext.refl w
  have hla := ha.leI
  refine callsOf (vs := [_, _]) Try.func175 rfl Try.ntmps175 rfl rfl ?_
  refine CW.seq ?_
  refine CW.reg ?_
  refine WL.pure rfl rfl rfl (PV.assign rfl) ?_
  refine WL.nilS ?_
  refine CW.seq ?_
  refine CW.seq ?_
  refine CW.reg ?_
  refine WL.pure rfl rfl rfl (PV.move rfl) ?_
  refine WL.pure rfl rfl rfl ((by first | exact PV.len rfl (by assumption) T.sl28 | exact PV.lenOs rfl (by assumption) T.sl28 | exact PV.len rfl (NL.rd (by assumption)) T.sl28 | exact PV.len rfl (Inn.rd (by assumption) (by omega)) T.sl28)) ?_
  refine WL.pure rfl rfl rfl (PV.move rfl) ?_
  refine WL.nilS ?_
  refine CW.block ?_
  refine CW.loop (σk := [(0, _), (1, _), (7, _)]) (fun ρ wz m => ∃ (k : Nat), ρ = [(8, .int .i64 (k : Nat))] ∧ m = xs.length - k ∧ UpdL [] w wz ∧ (k ≤ xs.length) ∧ (∀ j : Nat, j < k → decide (v = xs.getD j 0) = false)) (ρ₀ := [(8, _)]) (m₀ := _) ⟨rfl, rfl, rfl, rfl, trivial⟩ ⟨0, rfl, rfl, (UpdL.refl _ _), (by first | omega | rfl | (simp; done) | assumption | (simp_all; done)), (by intro j h; omega)⟩ ?_
  rintro _ wl1 _ ⟨k, rfl, rfl, hU0, hk, he⟩
  have hB := hB.loop hU0 trivial
  refine CW.seq ?_
  refine CW.reg ?_
  refine WL.pure rfl rfl rfl (PV.lss rfl rfl) ?_
  refine WL.nilS ?_
  refine CW.seq ?_
  refine CW.cond rfl (fun hc1 => ?_) (fun hc1 => ?_)
  · skip
    try simp only [decide_eq_true_eq, decide_eq_false_iff_not, Bool.not_eq_true', Bool.not_eq_false', Bool.not_eq_eq_eq_not, Bool.not_true, Bool.not_false, Int.not_lt, Int.not_le, Classical.not_not, beq_iff_eq, beq_eq_false_iff_ne] at hc1
    refine CW.skipS ?_
    refine CW.seq ?_
    refine CW.block ?_
    refine CW.seq ?_
    refine CW.reg ?_
    refine WL.pure rfl rfl rfl (PV.move rfl) ?_
    refine WL.pure rfl rfl rfl (PV.assign rfl) ?_
    refine WL.nilS ?_
    refine CW.seq ?_
    refine CW.reg ?_
    refine WL.pure rfl rfl rfl (PV.move rfl) ?_
    refine WL.pure rfl rfl rfl (PV.move rfl) ?_
    refine WL.pure rfl rfl rfl (PV.move rfl) ?_
    first
      | refine WL.at (x := .tmp 12) (y := .tmp 13) (E := EI) (0) rfl rfl (by first | assumption | exact Inn.rd (by assumption) (by omega)) (by first | omega | (simp only [List.length_set]; omega) | (simp only [List.length_append, List.length_take, List.length_replicate, List.length_drop]; omega)) (fun p1 csp1 hpp1 hcp1 hq => ?_)
      | refine WL.atZ (x := .tmp 12) (y := .tmp 13) (E := EI) (0) rfl rfl (by first | assumption | exact Inn.rd (by assumption) (by omega)) (by first | omega | (simp only [List.length_set]; omega) | (simp only [List.length_append, List.length_take, List.length_replicate, List.length_drop]; omega)) (fun p1 csp1 hpp1 hzp1 hcp1 hq => ?_)
    cases hq
    refine WL.pure rfl rfl rfl ((by first | exact PV.indexAddr hpp1 rfl rfl T.sl28 | exact PV.indexAddr hpp1 rfl (by rw [← hzp1]; rfl) T.sl28)) ?_
    refine WL.pure rfl rfl rfl ((by first | exact PV.load0 T.na2 rfl (by first | exact Cells.up (by assumption) hB | exact Bx.cells (by assumption) | assumption) (Ext.refl _) rfl | exact PV.load1 T.na2 rfl (by first | exact Cells.up (by assumption) hB | exact Bx.cells (by assumption) | assumption) (Ext.refl _) rfl)) ?_
    refine WL.pure rfl rfl rfl (PV.eql rfl rfl) ?_
    refine WL.nilS ?_
    refine CW.cond rfl (fun hc2 => ?_) (fun hc2 => ?_)
    · skip
      try simp only [decide_eq_true_eq, decide_eq_false_iff_not, Bool.not_eq_true', Bool.not_eq_false', Bool.not_eq_eq_eq_not, Bool.not_true, Bool.not_false, Int.not_lt, Int.not_le, Classical.not_not, beq_iff_eq, beq_eq_false_iff_ne] at hc2
      refine CW.seq ?_
      refine CW.reg ?_
      refine WL.pure rfl rfl rfl (PV.move rfl) ?_
      refine WL.pure rfl rfl rfl (PV.assign rfl) ?_
      refine WL.nilS ?_
      refine CW.ret ?_
      refine RQ.block ?_
      refine RQ.then ?_
      refine RQ.then ?_
      refine RQ.block ?_
      refine RQ.then ?_
      refine RQ.r1 rfl ?_
      refine ⟨?_, hB⟩
      first | exact iE (idxB_at (p := fun k => decide (v = xs.getD k 0)) (by omega) he (decide_eq_true (by assumption))) | exact iE (idxB_no (p := fun k => decide (v = xs.getD k 0)) (fun j h => he j (by omega)))
    try simp only [decide_eq_true_eq, decide_eq_false_iff_not, Bool.not_eq_true', Bool.not_eq_false', Bool.not_eq_eq_eq_not, Bool.not_true, Bool.not_false, Int.not_lt, Int.not_le, Classical.not_not, beq_iff_eq, beq_eq_false_iff_ne] at hc2
    refine CW.skip ?_
    refine NQ.block ?_
    refine NQ.then ?_
    refine CW.reg ?_
    refine WL.pure rfl rfl rfl (PV.add rfl rfl (by constructor <;> omega)) ?_
    refine WL.pure rfl rfl rfl (PV.move rfl) ?_
    refine WL.nil ?_
    refine NQ.next (ρ := [(8, _)]) ⟨rfl, rfl, rfl, rfl, trivial⟩ ?_
    exact ⟨_, ⟨k + 1, rfl, rfl, hU0, (by first | omega | assumption | (simp_all; done) | (simp_all; omega)), (by intro j h; rcases Nat.lt_succ_iff_lt_or_eq.1 h with h | rfl; exact he j h; exact decide_eq_false (by assumption))⟩, by omega⟩
  try simp only [decide_eq_true_eq, decide_eq_false_iff_not, Bool.not_eq_true', Bool.not_eq_false', Bool.not_eq_eq_eq_not, Bool.not_true, Bool.not_false, Int.not_lt, Int.not_le, Classical.not_not, beq_iff_eq, beq_eq_false_iff_ne] at hc1
  refine CW.exit ?_
  refine XQ.then ?_
  refine XQ.then ?_
  refine XQ.here ?_
  refine NQ.then ?_
  refine CW.seq ?_
  refine CW.reg ?_
  refine WL.pure rfl rfl rfl (PV.assign rfl) ?_
  refine WL.nilS ?_
  refine CW.ret ?_
  refine RQ.r1 rfl ?_
  refine ⟨?_, hB⟩
  first | exact iE (idxB_at (p := fun k => decide (v = xs.getD k 0)) (by omega) he (decide_eq_true (by assumption))) | exact iE (idxB_no (p := fun k => decide (v = xs.getD k 0)) (fun j h => he j (by omega)))
theorem c_slices_Contains_int64_int64 {w : World} {va : Value} {xs : List Int} {v : Int} (ha : Rd EI w va xs) : Calls Try.prog 215 #[va, .int .i64 v] w (Ret1 (RQt (.bool (decide (0 ≤ idxB (fun k => decide (v = xs.getD k 0)) xs.length))) w)) := by
  have hB : Ext w w := Ext.refl w
  have hla := ha.leI
  refine callsOf (vs := [_, _]) Try.func215 rfl Try.ntmps215 rfl rfl ?_
  refine CW.seq ?_
  refine CW.reg ?_
  refine WL.pure rfl rfl rfl (PV.assign rfl) ?_
  refine WL.nilS ?_
  refine CW.seq ?_
  refine CW.reg ?_
  refine WL.pure rfl rfl rfl (PV.move rfl) ?_
  refine WL.pure rfl rfl rfl (PV.move rfl) ?_
  refine WL.op rfl (OpK.callR rfl T.cf175 rfl (c_slices_Index_int64_int64 (by first | assumption | exact Rd.up (by assumption) hB | exact Osl.rd (by assumption) | exact Osn.rdR (by assumption) | exact NL.rd (by assumption) | exact rdII (by assumption) (by assumption) | exact Inn.rd (by assumption) (by omega))) (fun w1 hXw1 => ?_))
  have hB := hB.trans hXw1
  refine WL.pure rfl rfl rfl (PV.geq rfl rfl) ?_
  refine WL.pure rfl rfl rfl (PV.assign rfl) ?_
  refine WL.nilS ?_
  refine CW.ret ?_
  refine RQ.r1 rfl ?_
  refine ⟨?_, hB⟩
  rfl
theorem c_impl_areBytes {w : World} {va : Value} {xs : List Int} (ha : Rd EI w va xs) : Calls Try.prog 174 #[va] w (Ret1 (RQt (.bool (allIn xs 0 255)) w)) := by
  have hB : Ext w w := Ext.refl w
  refine callsOf (vs := [_]) Try.func174 rfl Try.ntmps174 rfl rfl ?_
  refine CW.seq ?_
  refine CW.reg ?_
  refine WL.pure rfl rfl rfl (PV.assign rfl) ?_
  refine WL.nilS ?_
  refine CW.seq ?_
  refine CW.reg ?_
  refine WL.pure rfl rfl rfl (PV.move rfl) ?_
  refine WL.op rfl (OpK.callR rfl T.cf144 rfl (c_impl_areWithin (by first | assumption | exact Rd.up (by assumption) hB | exact Osl.rd (by assumption) | exact Osn.rdR (by assumption) | exact NL.rd (by assumption) | exact rdII (by assumption) (by assumption) | exact Inn.rd (by assumption) (by omega))) (fun w1 hXw1 => ?_))
  have hB := hB.trans hXw1
  refine WL.pure rfl rfl rfl (PV.assign rfl) ?_
  refine WL.nilS ?_
  refine CW.ret ?_
  refine RQ.r1 rfl ?_
  refine ⟨?_, hB⟩
  first | rfl | exact bT (by omega) | exact bF (by omega) | exact bD (by omega) | exact iE (by omega) | (simp_all; done) | (simp_all; omega) | (simp_all; intros; omega)
theorem c_impl_areFeatures {w : World} {va : Value} (ha : Rd EI w va F4) : Calls Try.prog 173 #[va] w (Ret1 (RQt (.bool true) w)) := by
  have hB : Ext w w := Ext.refl w
  have hl4 : F4.length = 4 := rfl
  refine callsOf (vs := [_]) Try.func173 rfl Try.ntmps173 rfl rfl ?_
  refine CW.seq ?_
  refine CW.reg ?_
  refine WL.pure rfl rfl rfl (PV.assign rfl) ?_
  refine WL.nilS ?_
  refine CW.seq ?_
  refine CW.seq ?_
  refine CW.reg ?_
  refine WL.pure rfl rfl rfl (PV.move rfl) ?_
  refine WL.pure rfl rfl rfl ((by first | exact PV.len rfl (by assumption) T.sl28 | exact PV.lenOs rfl (by assumption) T.sl28 | exact PV.len rfl (NL.rd (by assumption)) T.sl28 | exact PV.len rfl (Inn.rd (by assumption) (by omega)) T.sl28)) ?_
  refine WL.pure rfl rfl rfl (PV.move rfl) ?_
  refine WL.nilS ?_
  refine CW.block ?_
  refine CW.loop (σk := [(0, _), (5, _), (6, _)]) (fun ρ wz m => ∃ (k : Nat), ρ = [(7, .int .i64 (k : Nat))] ∧ m = F4.length - k ∧ UpdL [] w wz ∧ (k ≤ F4.length)) (ρ₀ := [(7, _)]) (m₀ := _) ⟨rfl, rfl, rfl, rfl, trivial⟩ ⟨0, rfl, rfl, (UpdL.refl _ _), (by first | omega | rfl | (simp; done) | assumption | (simp_all; done))⟩ ?_
  rintro _ wl1 _ ⟨k, rfl, rfl, hU0, hk⟩
  have hB := hB.loop hU0 trivial
  refine CW.seq ?_
  refine CW.reg ?_
  refine WL.pure rfl rfl rfl (PV.lss rfl rfl) ?_
  refine WL.nilS ?_
  refine CW.seq ?_
  refine CW.cond rfl (fun hc1 => ?_) (fun hc1 => ?_)
  · skip
    try simp only [decide_eq_true_eq, decide_eq_false_iff_not, Bool.not_eq_true', Bool.not_eq_false', Bool.not_eq_eq_eq_not, Bool.not_true, Bool.not_false, Int.not_lt, Int.not_le, Classical.not_not, beq_iff_eq, beq_eq_false_iff_ne] at hc1
    refine CW.skipS ?_
    refine CW.seq ?_
    refine CW.block ?_
    refine CW.seq ?_
    refine CW.reg ?_
    refine WL.pure rfl rfl rfl (PV.move rfl) ?_
    first
      | refine WL.at (x := .tmp 5) (y := .tmp 7) (E := EI) (0) rfl rfl (by first | assumption | exact Inn.rd (by assumption) (by omega)) (by first | omega | (simp only [List.length_set]; omega) | (simp only [List.length_append, List.length_take, List.length_replicate, List.length_drop]; omega)) (fun p1 csp1 hpp1 hcp1 hq => ?_)
      | refine WL.atZ (x := .tmp 5) (y := .tmp 7) (E := EI) (0) rfl rfl (by first | assumption | exact Inn.rd (by assumption) (by omega)) (by first | omega | (simp only [List.length_set]; omega) | (simp only [List.length_append, List.length_take, List.length_replicate, List.length_drop]; omega)) (fun p1 csp1 hpp1 hzp1 hcp1 hq => ?_)
    cases hq
    refine WL.pure rfl rfl rfl ((by first | exact PV.indexAddr hpp1 rfl rfl T.sl28 | exact PV.indexAddr hpp1 rfl (by rw [← hzp1]; rfl) T.sl28)) ?_
    refine WL.pure rfl rfl rfl ((by first | exact PV.load0 T.na2 rfl (by first | exact Cells.up (by assumption) hB | exact Bx.cells (by assumption) | assumption) (Ext.refl _) rfl | exact PV.load1 T.na2 rfl (by first | exact Cells.up (by assumption) hB | exact Bx.cells (by assumption) | assumption) (Ext.refl _) rfl)) ?_
    refine WL.pure rfl rfl rfl (PV.assign rfl) ?_
    refine WL.pure rfl rfl rfl (PV.assign rfl) ?_
    refine WL.nilS ?_
    refine CW.seq ?_
    refine CW.reg ?_
    refine WL.pure rfl rfl rfl (PV.move rfl) ?_
    refine WL.pure rfl rfl rfl (PV.move rfl) ?_
    refine WL.slRH (x := .tmp 12) (hi := .tmp 13) (E := EI) T.sl28 rfl rfl  (by first | assumption | exact Osl.rd (by assumption)) (by first | omega | (simp; omega) | (simp_all; omega)) (fun u1 huu1 hru1 => ?_)
    refine WL.pure rfl rfl rfl ((huu1 _ _ _ _ _ _)) ?_
    refine WL.pure rfl rfl rfl (PV.move rfl) ?_
    refine WL.op rfl (OpK.callR rfl T.cf215 rfl (c_slices_Contains_int64_int64 (by first | assumption | exact Rd.up (by assumption) hB | exact Osl.rd (by assumption) | exact Osn.rdR (by assumption) | exact NL.rd (by assumption) | exact rdII (by assumption) (by assumption) | exact Inn.rd (by assumption) (by omega))) (fun w1 hXw1 => ?_))
    have hB := hB.trans hXw1
    have hU0 := hU0.ext hXw1
    refine WL.nilS ?_
    refine CW.cond rfl (fun hc2 => ?_) (fun hc2 => ?_)
    · skip
      try simp only [decide_eq_true_eq, decide_eq_false_iff_not, Bool.not_eq_true', Bool.not_eq_false', Bool.not_eq_eq_eq_not, Bool.not_true, Bool.not_false, Int.not_lt, Int.not_le, Classical.not_not, beq_iff_eq, beq_eq_false_iff_ne] at hc2
      exfalso; revert hc2; rw [Int.toNat_natCast, f4_nod (by omega)]; decide
    try simp only [decide_eq_true_eq, decide_eq_false_iff_not, Bool.not_eq_true', Bool.not_eq_false', Bool.not_eq_eq_eq_not, Bool.not_true, Bool.not_false, Int.not_lt, Int.not_le, Classical.not_not, beq_iff_eq, beq_eq_false_iff_ne] at hc2
    refine CW.skip ?_
    refine NQ.block ?_
    refine NQ.then ?_
    refine CW.reg ?_
    refine WL.pure rfl rfl rfl (PV.add rfl rfl (by constructor <;> omega)) ?_
    refine WL.pure rfl rfl rfl (PV.move rfl) ?_
    refine WL.nil ?_
    refine NQ.next (ρ := [(7, _)]) ⟨rfl, rfl, rfl, rfl, trivial⟩ ?_
    exact ⟨_, ⟨k + 1, rfl, rfl, hU0, (by first | omega | assumption | (simp_all; done) | (simp_all; omega))⟩, by omega⟩
  try simp only [decide_eq_true_eq, decide_eq_false_iff_not, Bool.not_eq_true', Bool.not_eq_false', Bool.not_eq_eq_eq_not, Bool.not_true, Bool.not_false, Int.not_lt, Int.not_le, Classical.not_not, beq_iff_eq, beq_eq_false_iff_ne] at hc1
  refine CW.exit ?_
  refine XQ.then ?_
  refine XQ.then ?_
  refine XQ.here ?_
  refine NQ.then ?_
  refine CW.seq ?_
  refine CW.reg ?_
  refine WL.pure rfl rfl rfl (PV.move rfl) ?_
  refine WL.pure rfl rfl rfl ((by first | exact PV.len rfl (by assumption) T.sl28 | exact PV.lenOs rfl (by assumption) T.sl28 | exact PV.len rfl (NL.rd (by assumption)) T.sl28 | exact PV.len rfl (Inn.rd (by assumption) (by omega)) T.sl28)) ?_
  refine WL.pure rfl rfl rfl (PV.geq rfl rfl) ?_
  refine WL.pure rfl rfl rfl (PV.move rfl) ?_
  refine WL.split (t := 21) rfl (fun hc3 => ?_) (fun hc3 => ?_)
  rotate_left
  · skip
    try simp only [decide_eq_true_eq, decide_eq_false_iff_not, Bool.not_eq_true', Bool.not_eq_false', Bool.not_eq_eq_eq_not, Bool.not_true, Bool.not_false, Int.not_lt, Int.not_le, Classical.not_not, beq_iff_eq, beq_eq_false_iff_ne] at hc3
    refine WL.skip rfl rfl rfl rfl rfl ?_
    refine WL.skip rfl rfl rfl rfl rfl ?_
    refine WL.skip rfl rfl rfl rfl rfl ?_
    refine WL.pure rfl rfl rfl (PV.pickF rfl rfl) ?_
    refine WL.pure rfl rfl rfl (PV.move rfl) ?_
    refine WL.skip rfl rfl rfl rfl rfl ?_
    refine WL.skip rfl rfl rfl rfl rfl ?_
    refine WL.pure rfl rfl rfl (PV.pickF rfl rfl) ?_
    refine WL.pure rfl rfl rfl (PV.assign rfl) ?_
    refine WL.nilS ?_
    refine CW.ret ?_
    refine RQ.r1 rfl ?_
    refine ⟨?_, hB⟩
    first | rfl | (exfalso; omega) | exact bE rfl
  try simp only [decide_eq_true_eq, decide_eq_false_iff_not, Bool.not_eq_true', Bool.not_eq_false', Bool.not_eq_eq_eq_not, Bool.not_true, Bool.not_false, Int.not_lt, Int.not_le, Classical.not_not, beq_iff_eq, beq_eq_false_iff_ne] at hc3
  refine WL.pureG rfl rfl rfl rfl rfl (PV.move rfl) ?_
  refine WL.pureG rfl rfl rfl rfl rfl ((by first | exact PV.len rfl (by assumption) T.sl28 | exact PV.lenOs rfl (by assumption) T.sl28 | exact PV.len rfl (NL.rd (by assumption)) T.sl28 | exact PV.len rfl (Inn.rd (by assumption) (by omega)) T.sl28)) ?_
  refine WL.pureG rfl rfl rfl rfl rfl (PV.leq rfl rfl) ?_
  refine WL.pure rfl rfl rfl (PV.pickT rfl rfl) ?_
  refine WL.pure rfl rfl rfl (PV.move rfl) ?_
  refine WL.split (t := 26) rfl (fun hc4 => ?_) (fun hc4 => ?_)
  rotate_left
  · skip
    try simp only [decide_eq_true_eq, decide_eq_false_iff_not, Bool.not_eq_true', Bool.not_eq_false', Bool.not_eq_eq_eq_not, Bool.not_true, Bool.not_false, Int.not_lt, Int.not_le, Classical.not_not, beq_iff_eq, beq_eq_false_iff_ne] at hc4
    refine WL.skip rfl rfl rfl rfl rfl ?_
    refine WL.skip rfl rfl rfl rfl rfl ?_
    refine WL.pure rfl rfl rfl (PV.pickF rfl rfl) ?_
    refine WL.pure rfl rfl rfl (PV.assign rfl) ?_
    refine WL.nilS ?_
    refine CW.ret ?_
    refine RQ.r1 rfl ?_
    refine ⟨?_, hB⟩
    first | rfl | (exfalso; omega) | exact bE rfl
  try simp only [decide_eq_true_eq, decide_eq_false_iff_not, Bool.not_eq_true', Bool.not_eq_false', Bool.not_eq_eq_eq_not, Bool.not_true, Bool.not_false, Int.not_lt, Int.not_le, Classical.not_not, beq_iff_eq, beq_eq_false_iff_ne] at hc4
  refine WL.pureG rfl rfl rfl rfl rfl (PV.move rfl) ?_
  refine WL.opG rfl rfl rfl (OpK.callR rfl T.cf174 rfl (c_impl_areBytes (by first | assumption | exact Rd.up (by assumption) hB | exact Osl.rd (by assumption) | exact Osn.rdR (by assumption) | exact NL.rd (by assumption) | exact rdII (by assumption) (by assumption) | exact Inn.rd (by assumption) (by omega))) (fun w2 hXw2 => ?_))
  have hB := hB.trans hXw2
  refine WL.pure rfl rfl rfl (PV.pickT rfl rfl) ?_
  refine WL.pure rfl rfl rfl (PV.assign rfl) ?_
  refine WL.nilS ?_
  refine CW.ret ?_
  refine RQ.r1 rfl ?_
  refine ⟨?_, hB⟩
  first | rfl | (exfalso; omega) | exact bE rfl
theorem c_impl_WithFeatures {w : World} {va : Value} {n b3 : Int} (ha : Rd EI w va F4) (hn : 0 ≤ n ∧ n ≤ 3) (hb3 : 0 ≤ b3 ∧ b3 ≤ 3) : Calls Try.prog 81 #[va, .int .i64 n, .int .i64 b3] w (Ret1 (fun v w' => Ext w w' ∧ ∃ u og_u, v = .tuple #[u, .bool true] ∧ Osl VI w' og_u u (withL n b3 4) ∧ Lo w og_u)) := by
  have hB : Ext w w := Ext.refl w
  have hl4 : F4.length = 4 := rfl; have hb9 : allIn [n, b3] 0 255 = true := (by simp [allIn]; omega)
  refine callsOf (vs := [_, _, _]) Try.func81 rfl Try.ntmps81 rfl rfl ?_
  refine CW.seq ?_
  refine CW.reg ?_
  refine WL.pure rfl rfl rfl (PV.assign rfl) ?_
  refine WL.pure rfl rfl rfl (PV.assign rfl) ?_
  refine WL.nilS ?_
  refine CW.seq ?_
  refine CW.seq ?_
  refine CW.reg ?_
  refine WL.pure rfl rfl rfl (PV.move rfl) ?_
  refine WL.op rfl (OpK.callR rfl T.cf173 rfl (c_impl_areFeatures (by first | assumption | exact Rd.up (by assumption) hB | exact Osl.rd (by assumption) | exact Osn.rdR (by assumption) | exact NL.rd (by assumption) | exact rdII (by assumption) (by assumption) | exact Inn.rd (by assumption) (by omega))) (fun w1 hXw1 => ?_))
  have hB := hB.trans hXw1
  refine WL.pure rfl rfl rfl (PV.not rfl) ?_
  refine WL.pure rfl rfl rfl (PV.move rfl) ?_
  refine WL.pureG rfl rfl rfl rfl rfl (PV.move rfl) ?_
  refine WL.pureG rfl rfl rfl rfl rfl (PV.move rfl) ?_
  refine WL.opG rfl rfl rfl (OpK.buildS VI (os := [.tmp 15, .tmp 16]) [_, _] rfl T.sl28 rfl rfl T.zv2 rfl (by intro z hz; first | rfl | (simp only [List.mem_cons, List.not_mem_nil, or_false] at hz; rcases hz with hz | hz <;> subst hz <;> exact (by first | exact Rd.cells1 (by assumption) | exact Osl.cells1 (by assumption) | exact Osn.cells1 (by assumption) | exact Rd.cells1 (NL.rd (by assumption)) | exact Inn.cell1 (by assumption) (by omega) | assumption | rfl))) rfl (fun v1 g1 w2 hXw2 ho1 hge1 => ?_))
  have hl1 := Lo.new hB hge1
  have hB := hB.trans hXw2
  refine WL.opG rfl rfl rfl (OpK.callR rfl T.cf174 rfl (c_impl_areBytes (by first | assumption | exact Rd.up (by assumption) hB | exact Osl.rd (by assumption) | exact Osn.rdR (by assumption) | exact NL.rd (by assumption) | exact rdII (by assumption) (by assumption) | exact Inn.rd (by assumption) (by omega))) (fun w3 hXw3 => ?_))
  have hB := hB.trans hXw3
  have ho1 := ho1.up hXw3
  refine WL.pureG rfl rfl rfl rfl rfl (PV.not rfl) ?_
  refine WL.pure rfl rfl rfl (PV.pickF rfl rfl) ?_
  refine WL.nilS ?_
  refine CW.cond rfl (fun hc1 => ?_) (fun hc1 => ?_)
  · skip
    try simp only [decide_eq_true_eq, decide_eq_false_iff_not, Bool.not_eq_true', Bool.not_eq_false', Bool.not_eq_eq_eq_not, Bool.not_true, Bool.not_false, Int.not_lt, Int.not_le, Classical.not_not, beq_iff_eq, beq_eq_false_iff_ne] at hc1
    exfalso; revert hc1; rw [hb9]; decide
  try simp only [decide_eq_true_eq, decide_eq_false_iff_not, Bool.not_eq_true', Bool.not_eq_false', Bool.not_eq_eq_eq_not, Bool.not_true, Bool.not_false, Int.not_lt, Int.not_le, Classical.not_not, beq_iff_eq, beq_eq_false_iff_ne] at hc1
  refine CW.skipS ?_
  refine CW.seq ?_
  refine CW.reg ?_
  refine WL.op rfl (OpK.buildS VI (os := []) [] rfl T.sl28 rfl rfl T.zv2 rfl (by intro z hz; cases hz) rfl (fun v2 g2 w4 hXw4 ho2 hge2 => ?_))
  have hl2 := Lo.new hB hge2
  have hd1_2 := Dj.new ho1.ltO hge2
  have hB := hB.trans hXw4
  have ho1 := ho1.up hXw4
  refine WL.pure rfl rfl rfl (PV.assign rfl) ?_
  refine WL.nilS ?_
  refine CW.seq ?_
  refine CW.seq ?_
  refine CW.reg ?_
  refine WL.pure rfl rfl rfl (PV.move rfl) ?_
  refine WL.pure rfl rfl rfl ((by first | exact PV.len rfl (by assumption) T.sl28 | exact PV.lenOs rfl (by assumption) T.sl28 | exact PV.len rfl (NL.rd (by assumption)) T.sl28 | exact PV.len rfl (Inn.rd (by assumption) (by omega)) T.sl28)) ?_
  refine WL.pure rfl rfl rfl (PV.move rfl) ?_
  refine WL.nilS ?_
  refine CW.block ?_
  have hlt1 := ho1.ltO
  have hlt2 := ho2.ltO
  refine CW.loop (σk := [(1, _), (2, _), (22, _), (23, _)]) (fun ρ wz m => ∃ (v3 : Value) (og3 : Option Nat) (k : Nat), ρ = [(8, v3), (24, .int .i64 (k : Nat))] ∧ m = F4.length - k ∧ UpdL [(some g2)] w4 wz ∧ Osl VI wz og3 v3 (withL n b3 k) ∧ OgR w4 (some g2) og3 ∧ (k ≤ F4.length)) (ρ₀ := [(8, _), (24, _)]) (m₀ := _) ⟨rfl, rfl, rfl, rfl, rfl, rfl, trivial⟩ ⟨v2, (some g2), 0, rfl, rfl, (UpdL.refl _ _), osE ho2 (by exact with_zero _ _), OgR.refl _ _, (by first | omega | rfl | (simp; done) | assumption | (simp_all; done))⟩ ?_
  rintro _ wl1 _ ⟨v3, og3, k, rfl, rfl, hU0, ho3, ha3, hk⟩
  have ho1 := ho1.loop hU0 ⟨hd1_2, trivial⟩
  have hl3 := Lo.ogr hl2 hB ha3
  have hg0_3 := ha3
  have hk0_3 : OkB [(some g2)] w4 og3 := OkB.ogr (OkB.mem (by simp)) (Nat.le_refl _) ha3
  have hd1_3 := Dj.ogr hd1_2 hlt1 ha3
  have hB := hB.loop hU0 ⟨hl2, trivial⟩
  have hwl := with_len n b3 k; have hgk := fun h : k < 4 => f4_get h
  refine CW.seq ?_
  refine CW.reg ?_
  refine WL.pure rfl rfl rfl (PV.lss rfl rfl) ?_
  refine WL.nilS ?_
  refine CW.seq ?_
  refine CW.cond rfl (fun hc2 => ?_) (fun hc2 => ?_)
  · skip
    try simp only [decide_eq_true_eq, decide_eq_false_iff_not, Bool.not_eq_true', Bool.not_eq_false', Bool.not_eq_eq_eq_not, Bool.not_true, Bool.not_false, Int.not_lt, Int.not_le, Classical.not_not, beq_iff_eq, beq_eq_false_iff_ne] at hc2
    refine CW.skipS ?_
    refine CW.seq ?_
    refine CW.block ?_
    refine CW.seq ?_
    refine CW.reg ?_
    refine WL.pure rfl rfl rfl (PV.move rfl) ?_
    first
      | refine WL.at (x := .tmp 22) (y := .tmp 24) (E := EI) (0) rfl rfl (by first | assumption | exact Inn.rd (by assumption) (by omega)) (by first | omega | (simp only [List.length_set]; omega) | (simp only [List.length_append, List.length_take, List.length_replicate, List.length_drop]; omega)) (fun p1 csp1 hpp1 hcp1 hq => ?_)
      | refine WL.atZ (x := .tmp 22) (y := .tmp 24) (E := EI) (0) rfl rfl (by first | assumption | exact Inn.rd (by assumption) (by omega)) (by first | omega | (simp only [List.length_set]; omega) | (simp only [List.length_append, List.length_take, List.length_replicate, List.length_drop]; omega)) (fun p1 csp1 hpp1 hzp1 hcp1 hq => ?_)
    cases hq
    refine WL.pure rfl rfl rfl ((by first | exact PV.indexAddr hpp1 rfl rfl T.sl28 | exact PV.indexAddr hpp1 rfl (by rw [← hzp1]; rfl) T.sl28)) ?_
    refine WL.pure rfl rfl rfl ((by first | exact PV.load0 T.na2 rfl (by first | exact Cells.up (by assumption) hB | exact Bx.cells (by assumption) | assumption) (Ext.refl _) rfl | exact PV.load1 T.na2 rfl (by first | exact Cells.up (by assumption) hB | exact Bx.cells (by assumption) | assumption) (Ext.refl _) rfl)) ?_
    refine WL.pure rfl rfl rfl (PV.assign rfl) ?_
    refine WL.pure rfl rfl rfl (PV.assign rfl) ?_
    refine WL.nilS ?_
    refine CW.seq ?_
    refine CW.reg ?_
    refine WL.pure rfl rfl rfl (PV.move rfl) ?_
    refine WL.pure rfl rfl rfl (PV.move rfl) ?_
    refine WL.pure rfl rfl rfl (PV.and rfl rfl) ?_
    refine WL.pure rfl rfl rfl (PV.move rfl) ?_
    refine WL.pure rfl rfl rfl (PV.eql rfl rfl) ?_
    refine WL.pure rfl rfl rfl (PV.move rfl) ?_
    refine WL.split (t := 34) rfl (fun hc3 => ?_) (fun hc3 => ?_)
    rotate_left
    · skip
      try simp only [decide_eq_true_eq, decide_eq_false_iff_not, Bool.not_eq_true', Bool.not_eq_false', Bool.not_eq_eq_eq_not, Bool.not_true, Bool.not_false, Int.not_lt, Int.not_le, Classical.not_not, beq_iff_eq, beq_eq_false_iff_ne] at hc3
      refine WL.skip rfl rfl rfl rfl rfl ?_
      refine WL.skip rfl rfl rfl rfl rfl ?_
      refine WL.skip rfl rfl rfl rfl rfl ?_
      refine WL.skip rfl rfl rfl rfl rfl ?_
      refine WL.pure rfl rfl rfl (PV.pickF rfl rfl) ?_
      refine WL.nilS ?_
      refine CW.condF rfl ?_
      refine CW.skip ?_
      refine NQ.block ?_
      refine NQ.then ?_
      refine CW.reg ?_
      refine WL.pure rfl rfl rfl (PV.add rfl rfl (by constructor <;> omega)) ?_
      refine WL.pure rfl rfl rfl (PV.move rfl) ?_
      refine WL.nil ?_
      refine NQ.next (ρ := [(8, _), (24, _)]) ⟨rfl, rfl, rfl, rfl, rfl, rfl, trivial⟩ ?_
      exact ⟨_, ⟨v3, og3, k + 1, rfl, rfl, hU0, osE ho3 (by first | exact with_put (wf_y (by omega) (by assumption) (by assumption)) | exact with_no (wf_n1 (by omega) (by assumption)) | exact with_no (wf_n2 (by omega) (by assumption))), (by first | exact hg0_3 | exact OgR.weak hg0_3), (by first | omega | assumption | (simp_all; done) | (simp_all; omega))⟩, by omega⟩
    try simp only [decide_eq_true_eq, decide_eq_false_iff_not, Bool.not_eq_true', Bool.not_eq_false', Bool.not_eq_eq_eq_not, Bool.not_true, Bool.not_false, Int.not_lt, Int.not_le, Classical.not_not, beq_iff_eq, beq_eq_false_iff_ne] at hc3
    refine WL.pureG rfl rfl rfl rfl rfl (PV.move rfl) ?_
    refine WL.pureG rfl rfl rfl rfl rfl (PV.move rfl) ?_
    refine WL.pureG rfl rfl rfl rfl rfl (PV.and rfl rfl) ?_
    refine WL.pureG rfl rfl rfl rfl rfl (PV.eql rfl rfl) ?_
    refine WL.pure rfl rfl rfl (PV.pickT rfl rfl) ?_
    refine WL.nilS ?_
    refine CW.cond rfl (fun hc4 => ?_) (fun hc4 => ?_)
    · skip
      try simp only [decide_eq_true_eq, decide_eq_false_iff_not, Bool.not_eq_true', Bool.not_eq_false', Bool.not_eq_eq_eq_not, Bool.not_true, Bool.not_false, Int.not_lt, Int.not_le, Classical.not_not, beq_iff_eq, beq_eq_false_iff_ne] at hc4
      refine CW.reg ?_
      refine WL.pure rfl rfl rfl (PV.move rfl) ?_
      refine WL.pure rfl rfl rfl (PV.move rfl) ?_
      refine WL.op rfl (OpK.buildS VI (os := [.tmp 41]) [_] rfl T.sl28 rfl rfl T.zv2 rfl (by intro z hz; first | rfl | (simp only [List.mem_cons, List.not_mem_nil, or_false] at hz; subst hz; exact (by first | exact Rd.cells1 (by assumption) | exact Osl.cells1 (by assumption) | exact Osn.cells1 (by assumption) | exact Rd.cells1 (NL.rd (by assumption)) | exact Inn.cell1 (by assumption) (by omega) | assumption | rfl))) rfl (fun v4 g4 w5 hXw5 ho4 hge4 => ?_))
      have hl4 := Lo.new hB hge4
      have hd1_4 := Dj.new ho1.ltO hge4
      have hd3_4 := Dj.new ho3.ltO hge4
      have hk0_4 := OkN.new hU0 hge4
      have hg0_4 := OgR.new hU0.size hge4
      have hB := hB.trans hXw5
      have ho1 := ho1.up hXw5
      have ho3 := ho3.up hXw5
      have hU0 := hU0.ext hXw5
      refine WL.op rfl (OpK.appendS (f := VI) rfl T.sl28 T.zv2 rfl rfl ho3 rfl (Osl.src ho4 (fun _ => rfl)) (by first | (simp only [List.length_cons, List.length_nil]; omega) | (simp_all; omega)) (fun v5 og5 w6 hXw6 ho5 hap5 => ?_))
      have hl5 := Lo.app hl3 hB hap5
      have hd1_5 := Dj.app hd1_3 ho1.ltO hap5
      have hd4_5 := Dj.app (Dj.symm hd3_4) ho4.ltO hap5
      have hk0_5 := OkN.app hU0 hk0_3 hap5
      have hg0_5 := OgR.app hg0_3 hU0.size hap5
      have hB := hB.updL hXw6 hl3
      have ho1 := ho1.updD hXw6 hd1_3
      have ho4 := ho4.updD hXw6 (Dj.symm hd3_4)
      have hU0 := hU0.step hXw6 hk0_3
      refine WL.pure rfl rfl rfl (PV.assign rfl) ?_
      refine WL.nil ?_
      refine NQ.block ?_
      refine NQ.then ?_
      refine CW.reg ?_
      refine WL.pure rfl rfl rfl (PV.add rfl rfl (by constructor <;> omega)) ?_
      refine WL.pure rfl rfl rfl (PV.move rfl) ?_
      refine WL.nil ?_
      refine NQ.next (ρ := [(8, _), (24, _)]) ⟨rfl, rfl, rfl, rfl, rfl, rfl, trivial⟩ ?_
      exact ⟨_, ⟨v5, og5, k + 1, rfl, rfl, hU0, osE ho5 (by first | exact with_put (wf_y (by omega) (by assumption) (by assumption)) | exact with_no (wf_n1 (by omega) (by assumption)) | exact with_no (wf_n2 (by omega) (by assumption))), (by first | exact hg0_5 | exact OgR.weak hg0_5), (by first | omega | assumption | (simp_all; done) | (simp_all; omega))⟩, by omega⟩
    try simp only [decide_eq_true_eq, decide_eq_false_iff_not, Bool.not_eq_true', Bool.not_eq_false', Bool.not_eq_eq_eq_not, Bool.not_true, Bool.not_false, Int.not_lt, Int.not_le, Classical.not_not, beq_iff_eq, beq_eq_false_iff_ne] at hc4
    refine CW.skip ?_
    refine NQ.block ?_
    refine NQ.then ?_
    refine CW.reg ?_
    refine WL.pure rfl rfl rfl (PV.add rfl rfl (by constructor <;> omega)) ?_
    refine WL.pure rfl rfl rfl (PV.move rfl) ?_
    refine WL.nil ?_
    refine NQ.next (ρ := [(8, _), (24, _)]) ⟨rfl, rfl, rfl, rfl, rfl, rfl, trivial⟩ ?_
    exact ⟨_, ⟨v3, og3, k + 1, rfl, rfl, hU0, osE ho3 (by first | exact with_put (wf_y (by omega) (by assumption) (by assumption)) | exact with_no (wf_n1 (by omega) (by assumption)) | exact with_no (wf_n2 (by omega) (by assumption))), (by first | exact hg0_3 | exact OgR.weak hg0_3), (by first | omega | assumption | (simp_all; done) | (simp_all; omega))⟩, by omega⟩
  try simp only [decide_eq_true_eq, decide_eq_false_iff_not, Bool.not_eq_true', Bool.not_eq_false', Bool.not_eq_eq_eq_not, Bool.not_true, Bool.not_false, Int.not_lt, Int.not_le, Classical.not_not, beq_iff_eq, beq_eq_false_iff_ne] at hc2
  refine CW.exit ?_
  refine XQ.then ?_
  refine XQ.then ?_
  refine XQ.here ?_
  refine NQ.then ?_
  refine CW.seq ?_
  refine CW.reg ?_
  refine WL.pure rfl rfl rfl (PV.move rfl) ?_
  refine WL.pure rfl rfl rfl (PV.assign rfl) ?_
  refine WL.pure rfl rfl rfl (PV.assign rfl) ?_
  refine WL.nilS ?_
  refine CW.ret ?_
  refine RQ.r2 rfl rfl ?_
  refine ⟨hB, v3, og3, ?_, osE ho3 ?_, hl3⟩
  · skip
    rfl
  · skip
    rw [show k = 4 from (by omega)]
theorem c_impl_ShiftFeatures {w : World} {va vw : Value} {ws : List Int} {n s u3 : Int} (ha : Rd EI w va F4) (hw : Rd EI w vw ws) (hW : longB ws 4 = true) (hn : 0 ≤ n ∧ n ≤ 3) (hs : 0 ≤ s ∧ s ≤ 3) (hu : 0 ≤ u3 ∧ u3 ≤ 3) : Calls Try.prog 82 #[va, vw, .int .i64 n, .int .i64 s, .int .i64 u3] w (Ret1 (fun v w' => Ext w w' ∧ ∃ u og_u, v = .tuple #[u, .bool true] ∧ Osl VI w' og_u u (ws.map (shF n s u3)) ∧ Lo w og_u)) := by
  have hB : Ext w w := Ext.refl w
  have hl4 : F4.length = 4 := rfl; have hlw := hw.leI; have hb9 : allIn [n, s, u3] 0 255 = true := (by simp [allIn]; omega); have hW4 : longB ws ((F4.length : Nat) : Int) = true := hW; have hlg := (longB_y hW).2
  refine callsOf (vs := [_, _, _, _, _]) Try.func82 rfl Try.ntmps82 rfl rfl ?_
  refine CW.seq ?_
  refine CW.reg ?_
  refine WL.pure rfl rfl rfl (PV.assign rfl) ?_
  refine WL.pure rfl rfl rfl (PV.assign rfl) ?_
  refine WL.nilS ?_
  refine CW.seq ?_
  refine CW.seq ?_
  refine CW.reg ?_
  refine WL.pure rfl rfl rfl (PV.move rfl) ?_
  refine WL.op rfl (OpK.callR rfl T.cf173 rfl (c_impl_areFeatures (by first | assumption | exact Rd.up (by assumption) hB | exact Osl.rd (by assumption) | exact Osn.rdR (by assumption) | exact NL.rd (by assumption) | exact rdII (by assumption) (by assumption) | exact Inn.rd (by assumption) (by omega))) (fun w1 hXw1 => ?_))
  have hB := hB.trans hXw1
  refine WL.pure rfl rfl rfl (PV.not rfl) ?_
  refine WL.pure rfl rfl rfl (PV.move rfl) ?_
  refine WL.pureG rfl rfl rfl rfl rfl (PV.move rfl) ?_
  refine WL.pureG rfl rfl rfl rfl rfl (PV.move rfl) ?_
  refine WL.pureG rfl rfl rfl rfl rfl ((by first | exact PV.len rfl (by assumption) T.sl28 | exact PV.lenOs rfl (by assumption) T.sl28 | exact PV.len rfl (NL.rd (by assumption)) T.sl28 | exact PV.len rfl (Inn.rd (by assumption) (by omega)) T.sl28)) ?_
  refine WL.opG rfl rfl rfl (OpK.callR rfl T.cf165 rfl (c_impl_IsLongWord (by first | assumption | exact Rd.up (by assumption) hB | exact Osl.rd (by assumption) | exact Osn.rdR (by assumption) | exact NL.rd (by assumption) | exact rdII (by assumption) (by assumption) | exact Inn.rd (by assumption) (by omega))) (fun w2 hXw2 => ?_))
  have hB := hB.trans hXw2
  refine WL.pureG rfl rfl rfl rfl rfl (PV.not rfl) ?_
  refine WL.pure rfl rfl rfl (PV.pickF rfl rfl) ?_
  refine WL.pure rfl rfl rfl (PV.move rfl) ?_
  refine WL.split (t := 27) rfl (fun hc1 => ?_) (fun hc1 => ?_)
  · skip
    try simp only [decide_eq_true_eq, decide_eq_false_iff_not, Bool.not_eq_true', Bool.not_eq_false', Bool.not_eq_eq_eq_not, Bool.not_true, Bool.not_false, Int.not_lt, Int.not_le, Classical.not_not, beq_iff_eq, beq_eq_false_iff_ne] at hc1
    exfalso; revert hc1; rw [hW4]; decide
  try simp only [decide_eq_true_eq, decide_eq_false_iff_not, Bool.not_eq_true', Bool.not_eq_false', Bool.not_eq_eq_eq_not, Bool.not_true, Bool.not_false, Int.not_lt, Int.not_le, Classical.not_not, beq_iff_eq, beq_eq_false_iff_ne] at hc1
  refine WL.pureG rfl rfl rfl rfl rfl (PV.move rfl) ?_
  refine WL.pureG rfl rfl rfl rfl rfl (PV.move rfl) ?_
  refine WL.pureG rfl rfl rfl rfl rfl (PV.move rfl) ?_
  refine WL.opG rfl rfl rfl (OpK.buildS VI (os := [.tmp 28, .tmp 29, .tmp 30]) [_, _, _] rfl T.sl28 rfl rfl T.zv2 rfl (by intro z hz; first | rfl | (simp only [List.mem_cons, List.not_mem_nil, or_false] at hz; rcases hz with hz | hz | hz <;> subst hz <;> exact (by first | exact Rd.cells1 (by assumption) | exact Osl.cells1 (by assumption) | exact Osn.cells1 (by assumption) | exact Rd.cells1 (NL.rd (by assumption)) | exact Inn.cell1 (by assumption) (by omega) | assumption | rfl))) rfl (fun v1 g1 w3 hXw3 ho1 hge1 => ?_))
  have hl1 := Lo.new hB hge1
  have hB := hB.trans hXw3
  refine WL.opG rfl rfl rfl (OpK.callR rfl T.cf174 rfl (c_impl_areBytes (by first | assumption | exact Rd.up (by assumption) hB | exact Osl.rd (by assumption) | exact Osn.rdR (by assumption) | exact NL.rd (by assumption) | exact rdII (by assumption) (by assumption) | exact Inn.rd (by assumption) (by omega))) (fun w4 hXw4 => ?_))
  have hB := hB.trans hXw4
  have ho1 := ho1.up hXw4
  refine WL.pureG rfl rfl rfl rfl rfl (PV.not rfl) ?_
  refine WL.pure rfl rfl rfl (PV.pickF rfl rfl) ?_
  refine WL.nilS ?_
  refine CW.cond rfl (fun hc2 => ?_) (fun hc2 => ?_)
  · skip
    try simp only [decide_eq_true_eq, decide_eq_false_iff_not, Bool.not_eq_true', Bool.not_eq_false', Bool.not_eq_eq_eq_not, Bool.not_true, Bool.not_false, Int.not_lt, Int.not_le, Classical.not_not, beq_iff_eq, beq_eq_false_iff_ne] at hc2
    exfalso; revert hc2; first | (rw [hb9]; decide) | (rw [hW4]; decide)
  try simp only [decide_eq_true_eq, decide_eq_false_iff_not, Bool.not_eq_true', Bool.not_eq_false', Bool.not_eq_eq_eq_not, Bool.not_true, Bool.not_false, Int.not_lt, Int.not_le, Classical.not_not, beq_iff_eq, beq_eq_false_iff_ne] at hc2
  refine CW.skipS ?_
  refine CW.seq ?_
  refine CW.reg ?_
  refine WL.pure rfl rfl rfl (PV.move rfl) ?_
  refine WL.op rfl (OpK.call rfl T.cf141 rfl (c_slices_Clone_int64_int64 (by first | assumption | exact Rd.up (by assumption) hB | exact Osl.rd (by assumption) | exact Osn.rdR (by assumption) | exact NL.rd (by assumption) | exact rdII (by assumption) (by assumption) | exact Inn.rd (by assumption) (by omega)) (by first | assumption | omega | (simp only [marks_len, marksB_len, marksR_len, sumL_marksS]; omega))) (fun rv1 w5 hR => ?_))
  obtain ⟨hXw5, v2, og2, rfl, ho2, hq2⟩ := hR
  have hl2 := Lo.up hq2 hB
  have hd1_2 := Dj.lo ho1.ltO hq2
  have hB := hB.trans hXw5
  have ho1 := ho1.up hXw5
  refine WL.pure rfl rfl rfl (PV.assign rfl) ?_
  refine WL.nilS ?_
  refine CW.seq ?_
  refine CW.seq ?_
  refine CW.reg ?_
  refine WL.pure rfl rfl rfl (PV.move rfl) ?_
  refine WL.pure rfl rfl rfl ((by first | exact PV.len rfl (by assumption) T.sl28 | exact PV.lenOs rfl (by assumption) T.sl28 | exact PV.len rfl (NL.rd (by assumption)) T.sl28 | exact PV.len rfl (Inn.rd (by assumption) (by omega)) T.sl28)) ?_
  refine WL.pure rfl rfl rfl (PV.move rfl) ?_
  refine WL.nilS ?_
  refine CW.block ?_
  have hlt1 := ho1.ltO
  have hlt2 := ho2.ltO
  refine CW.loop (σk := [(0, _), (2, _), (3, _), (4, _), (12, _), (37, _), (38, _)]) (fun ρ wz m => ∃ (k : Nat), ρ = [(39, .int .i64 (k : Nat))] ∧ m = ws.length - k ∧ UpdL [og2] w5 wz ∧ Osl VI wz og2 rv1 ((ws.take k).map (shF n s u3) ++ ws.drop k) ∧ (k ≤ ws.length)) (ρ₀ := [(39, _)]) (m₀ := _) ⟨rfl, rfl, rfl, rfl, rfl, rfl, rfl, rfl, trivial⟩ ⟨0, rfl, rfl, (UpdL.refl _ _), osE ho2 (by exact mp_zero _ _), (by first | omega | rfl | (simp; done) | assumption | (simp_all; done))⟩ ?_
  rintro _ wl1 _ ⟨k, rfl, rfl, hU0, ho2, hk⟩
  have ho1 := ho1.loop hU0 ⟨hd1_2, trivial⟩
  have hk0_2 : OkB [og2] w5 og2 := OkB.mem (by simp)
  have hB := hB.loop hU0 ⟨hl2, trivial⟩
  have hml := mp_len (f := shF n s u3) hk
  refine CW.seq ?_
  refine CW.reg ?_
  refine WL.pure rfl rfl rfl (PV.lss rfl rfl) ?_
  refine WL.nilS ?_
  refine CW.seq ?_
  refine CW.cond rfl (fun hc3 => ?_) (fun hc3 => ?_)
  · skip
    try simp only [decide_eq_true_eq, decide_eq_false_iff_not, Bool.not_eq_true', Bool.not_eq_false', Bool.not_eq_eq_eq_not, Bool.not_true, Bool.not_false, Int.not_lt, Int.not_le, Classical.not_not, beq_iff_eq, beq_eq_false_iff_ne] at hc3
    refine CW.skipS ?_
    refine CW.seq ?_
    refine CW.block ?_
    refine CW.seq ?_
    refine CW.reg ?_
    refine WL.pure rfl rfl rfl (PV.move rfl) ?_
    first
      | refine WL.at (x := .tmp 37) (y := .tmp 39) (E := EI) (0) rfl rfl (by first | assumption | exact Inn.rd (by assumption) (by omega)) (by first | omega | (simp only [List.length_set]; omega) | (simp only [List.length_append, List.length_take, List.length_replicate, List.length_drop]; omega)) (fun p1 csp1 hpp1 hcp1 hq => ?_)
      | refine WL.atZ (x := .tmp 37) (y := .tmp 39) (E := EI) (0) rfl rfl (by first | assumption | exact Inn.rd (by assumption) (by omega)) (by first | omega | (simp only [List.length_set]; omega) | (simp only [List.length_append, List.length_take, List.length_replicate, List.length_drop]; omega)) (fun p1 csp1 hpp1 hzp1 hcp1 hq => ?_)
    cases hq
    refine WL.pure rfl rfl rfl ((by first | exact PV.indexAddr hpp1 rfl rfl T.sl28 | exact PV.indexAddr hpp1 rfl (by rw [← hzp1]; rfl) T.sl28)) ?_
    refine WL.pure rfl rfl rfl ((by first | exact PV.load0 T.na2 rfl (by first | exact Cells.up (by assumption) hB | exact Bx.cells (by assumption) | assumption) (Ext.refl _) rfl | exact PV.load1 T.na2 rfl (by first | exact Cells.up (by assumption) hB | exact Bx.cells (by assumption) | assumption) (Ext.refl _) rfl)) ?_
    refine WL.pure rfl rfl rfl (PV.assign rfl) ?_
    refine WL.pure rfl rfl rfl (PV.assign rfl) ?_
    refine WL.nilS ?_
    refine CW.seq ?_
    refine CW.reg ?_
    have hxk := allIn_get hlg.2 (k := k) (by omega); have hf4 := f4_get (k := (ws.getD k 0).toNat) (by omega); have hx3 : 0 ≤ ws.getD k 0 ∧ ws.getD k 0 ≤ 3 := (by omega)
    refine WL.pure rfl rfl rfl (PV.move rfl) ?_
    refine WL.pure rfl rfl rfl (PV.move rfl) ?_
    first
      | refine WL.at (x := .tmp 44) (y := .tmp 45) (E := EI) (0) rfl rfl (by first | assumption | exact Inn.rd (by assumption) (by omega)) (by first | omega | (simp only [List.length_set]; omega) | (simp only [List.length_append, List.length_take, List.length_replicate, List.length_drop]; omega)) (fun p2 csp2 hpp2 hcp2 hq => ?_)
      | refine WL.atZ (x := .tmp 44) (y := .tmp 45) (E := EI) (0) rfl rfl (by first | assumption | exact Inn.rd (by assumption) (by omega)) (by first | omega | (simp only [List.length_set]; omega) | (simp only [List.length_append, List.length_take, List.length_replicate, List.length_drop]; omega)) (fun p2 csp2 hpp2 hzp2 hcp2 hq => ?_)
    cases hq
    refine WL.pure rfl rfl rfl ((by first | exact PV.indexAddr hpp2 rfl rfl T.sl28 | exact PV.indexAddr hpp2 rfl (by rw [← hzp2]; rfl) T.sl28)) ?_
    refine WL.pure rfl rfl rfl ((by first | exact PV.load0 T.na2 rfl (by first | exact Cells.up (by assumption) hB | exact Bx.cells (by assumption) | assumption) (Ext.refl _) rfl | exact PV.load1 T.na2 rfl (by first | exact Cells.up (by assumption) hB | exact Bx.cells (by assumption) | assumption) (Ext.refl _) rfl)) ?_
    refine WL.pure rfl rfl rfl (PV.assign rfl) ?_
    refine WL.nilS ?_
    refine CW.seq ?_
    refine CW.seq ?_
    refine CW.reg ?_
    refine WL.pure rfl rfl rfl (PV.move rfl) ?_
    refine WL.pure rfl rfl rfl (PV.move rfl) ?_
    refine WL.pure rfl rfl rfl (PV.and rfl rfl) ?_
    refine WL.pure rfl rfl rfl (PV.move rfl) ?_
    refine WL.pure rfl rfl rfl (PV.neq rfl rfl) ?_
    refine WL.nilS ?_
    refine CW.cond rfl (fun hc4 => ?_) (fun hc4 => ?_)
    · skip
      try simp only [decide_eq_true_eq, decide_eq_false_iff_not, Bool.not_eq_true', Bool.not_eq_false', Bool.not_eq_eq_eq_not, Bool.not_true, Bool.not_false, Int.not_lt, Int.not_le, Classical.not_not, beq_iff_eq, beq_eq_false_iff_ne] at hc4
      refine CW.exit ?_
      refine XQ.then ?_
      refine XQ.here ?_
      refine NQ.then ?_
      refine CW.reg ?_
      refine WL.pure rfl rfl rfl (PV.add rfl rfl (by constructor <;> omega)) ?_
      refine WL.pure rfl rfl rfl (PV.move rfl) ?_
      refine WL.nil ?_
      refine NQ.next (ρ := [(39, _)]) ⟨rfl, rfl, rfl, rfl, rfl, rfl, rfl, rfl, trivial⟩ ?_
      exact ⟨_, ⟨k + 1, rfl, rfl, hU0, osE ho2 (by first | exact mp_same (by omega) (sf_no hx3 (by assumption)) | exact mp_set (by omega) (sf_yes hx3 hs hu (by assumption))), (by first | omega | assumption | (simp_all; done) | (simp_all; omega))⟩, by omega⟩
    try simp only [decide_eq_true_eq, decide_eq_false_iff_not, Bool.not_eq_true', Bool.not_eq_false', Bool.not_eq_eq_eq_not, Bool.not_true, Bool.not_false, Int.not_lt, Int.not_le, Classical.not_not, beq_iff_eq, beq_eq_false_iff_ne] at hc4
    refine CW.skipS ?_
    refine CW.seq ?_
    refine CW.reg ?_
    refine WL.pure rfl rfl rfl (PV.move rfl) ?_
    refine WL.pure rfl rfl rfl (PV.move rfl) ?_
    refine WL.pure rfl rfl rfl (PV.move rfl) ?_
    refine WL.pure rfl rfl rfl (PV.or rfl rfl) ?_
    refine WL.pure rfl rfl rfl (PV.move rfl) ?_
    refine WL.pure rfl rfl rfl (PV.andNot rfl rfl) ?_
    refine WL.op rfl (OpK.callR rfl T.cf175 rfl (c_slices_Index_int64_int64 (by first | assumption | exact Rd.up (by assumption) hB | exact Osl.rd (by assumption) | exact Osn.rdR (by assumption) | exact NL.rd (by assumption) | exact rdII (by assumption) (by assumption) | exact Inn.rd (by assumption) (by omega))) (fun w6 hXw6 => ?_))
    have hB := hB.trans hXw6
    have ho1 := ho1.up hXw6
    have ho2 := ho2.up hXw6
    have hU0 := hU0.ext hXw6
    refine WL.pure rfl rfl rfl (PV.assign rfl) ?_
    refine WL.nilS ?_
    refine CW.seq ?_
    refine CW.reg ?_
    refine WL.pure rfl rfl rfl (PV.move rfl) ?_
    refine WL.pure rfl rfl rfl (PV.geq rfl rfl) ?_
    refine WL.nilS ?_
    refine CW.cond rfl (fun hc5 => ?_) (fun hc5 => ?_)
    · skip
      try simp only [decide_eq_true_eq, decide_eq_false_iff_not, Bool.not_eq_true', Bool.not_eq_false', Bool.not_eq_eq_eq_not, Bool.not_true, Bool.not_false, Int.not_lt, Int.not_le, Classical.not_not, beq_iff_eq, beq_eq_false_iff_ne] at hc5
      refine CW.reg ?_
      refine WL.pure rfl rfl rfl (PV.move rfl) ?_
      refine WL.pure rfl rfl rfl (PV.move rfl) ?_
      refine WL.pure rfl rfl rfl (PV.move rfl) ?_
      first
        | refine WL.atO (x := .tmp 62) (y := .tmp 63) (f := VI) (0) rfl rfl ho2 (by first | omega | (simp only [List.length_set]; omega) | (simp only [List.length_append, List.length_take, List.length_replicate, List.length_drop]; omega)) (fun p3 hpp3 hcp3 => ?_)
        | refine WL.atOZ (x := .tmp 62) (y := .tmp 63) (f := VI) (0) rfl rfl ho2 (by first | omega | (simp only [List.length_set]; omega) | (simp only [List.length_append, List.length_take, List.length_replicate, List.length_drop]; omega)) (fun p3 hpp3 hzp3 hcp3 => ?_)
      refine WL.pure rfl rfl rfl ((by first | exact PV.indexAddr hpp3 rfl rfl T.sl28 | exact PV.indexAddr hpp3 rfl (by rw [← hzp3]; rfl) T.sl28)) ?_
      refine WL.op rfl (OpK.storeS VI T.sz2 rfl rfl rfl hpp3 ho2 (fun w7 hXw7 ho2 => ?_))
      have hB := hB.updL hXw7 hl2
      have ho1 := ho1.updD hXw7 hd1_2
      have hU0 := hU0.step hXw7 hk0_2
      refine WL.nil ?_
      refine NQ.block ?_
      refine NQ.then ?_
      refine CW.reg ?_
      refine WL.pure rfl rfl rfl (PV.add rfl rfl (by constructor <;> omega)) ?_
      refine WL.pure rfl rfl rfl (PV.move rfl) ?_
      refine WL.nil ?_
      refine NQ.next (ρ := [(39, _)]) ⟨rfl, rfl, rfl, rfl, rfl, rfl, rfl, rfl, trivial⟩ ?_
      exact ⟨_, ⟨k + 1, rfl, rfl, hU0, osE ho2 (by first | exact mp_same (by omega) (sf_no hx3 (by assumption)) | exact mp_set (by omega) (sf_yes hx3 hs hu (by assumption))), (by first | omega | assumption | (simp_all; done) | (simp_all; omega))⟩, by omega⟩
    try simp only [decide_eq_true_eq, decide_eq_false_iff_not, Bool.not_eq_true', Bool.not_eq_false', Bool.not_eq_eq_eq_not, Bool.not_true, Bool.not_false, Int.not_lt, Int.not_le, Classical.not_not, beq_iff_eq, beq_eq_false_iff_ne] at hc5
    exact (sf_dead hx3 hs hu (by omega)).elim
  try simp only [decide_eq_true_eq, decide_eq_false_iff_not, Bool.not_eq_true', Bool.not_eq_false', Bool.not_eq_eq_eq_not, Bool.not_true, Bool.not_false, Int.not_lt, Int.not_le, Classical.not_not, beq_iff_eq, beq_eq_false_iff_ne] at hc3
  refine CW.exit ?_
  refine XQ.then ?_
  refine XQ.then ?_
  refine XQ.here ?_
  refine NQ.then ?_
  refine CW.seq ?_
  refine CW.reg ?_
  refine WL.pure rfl rfl rfl (PV.move rfl) ?_
  refine WL.pure rfl rfl rfl (PV.assign rfl) ?_
  refine WL.pure rfl rfl rfl (PV.assign rfl) ?_
  refine WL.nilS ?_
  refine CW.ret ?_
  refine RQ.r2 rfl rfl ?_
  refine ⟨hB, rv1, og2, ?_, osE ho2 ?_, hl2⟩
  · skip
    rfl
  · skip
    exact mp_all (by omega)

end Go.Proofs.Ythemmoceomdccaa
