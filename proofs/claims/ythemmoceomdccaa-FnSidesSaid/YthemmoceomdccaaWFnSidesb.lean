/- Walks of the functions that the law FnSides reaches: each says what its function computes. No condition. -/
import Derived.Test.YthemmoceomdccaaProg
import Derived.Test.YthemmoceomdccaaLibM
import Derived.Test.YthemmoceomdccaaPlA
import Derived.Test.YthemmoceomdccaaPlG
import Derived.Test.YthemmoceomdccaaPlS
import Derived.Test.YthemmoceomdccaaLibG2
import Derived.Test.YthemmoceomdccaaPlT
import Derived.Test.YthemmoceomdccaaLibMp
import Derived.Test.YthemmoceomdccaaPlRd
import Derived.Test.YthemmoceomdccaaLibV
import Derived.Test.YthemmoceomdccaaLibW
import Derived.Test.YthemmoceomdccaaPlI2
import Derived.Test.YthemmoceomdccaaPlDq
import Derived.Test.YthemmoceomdccaaPlSd
import Derived.Test.YthemmoceomdccaaPlSe
import Derived.Test.YthemmoceomdccaaWFnSidesa
namespace Go.Proofs.Ythemmoceomdccaa
open Go Go.WX Go.Proofs
set_option linter.unusedSimpArgs false
set_option linter.unusedVariables false

theorem c_impl_ChainSided {w : World} {a0 : Int} {a1 : Int} {va2 : Value} {xa2 : List R4} {va3 : Value} {xa3 : List Bool} {y0 : Int} {y1 : Int} {vy2 : Value} {xy2 : List R4} {vy3 : Value} {xy3 : List Bool}  (ha2 : Rd ER w va2 xa2) (ha3 : Rd EB w va3 xa3) (hy2 : Rd ER w vy2 xy2) (hy3 : Rd EB w vy3 xy3) : Calls Try.prog 65 #[.agg #[.int .i64 a0, .int .i64 a1, va2, va3], .agg #[.int .i64 y0, .int .i64 y1, vy2, vy3]] w (Ret1 (fun v w' => Ext w w' ∧ ∃ u2 og_u2 u3 og_u3, v = .tuple #[.agg #[.int .i64 (onI (chainB a0 a1 xa2 xa3 y0 y1 xy2 xy3) (wI (a0 * y0))), .int .i64 (onI (chainB a0 a1 xa2 xa3 y0 y1 xy2 xy3) a1), u2, u3], .bool (chainB a0 a1 xa2 xa3 y0 y1 xy2 xy3)] ∧ Osn 4 gR w' og_u2 u2 (onT (chainB a0 a1 xa2 xa3 y0 y1 xy2 xy3) (cC a0 y0 xa2 xy2)) ∧ Lo w og_u2 ∧ Osl VB w' og_u3 u3 (onT (chainB a0 a1 xa2 xa3 y0 y1 xy2 xy3) (cE xa3 xy3)) ∧ Lo w og_u3 ∧ Dj og_u2 og_u3)) := by
  have hB : Ext w w := Ext.refl w
  have hla2 := ha2.leI; have hla3 := ha3.leI; have hly2 := hy2.leI; have hly3 := hy3.leI
  refine callsOf (vs := [_, _]) Try.func65 rfl Try.ntmps65 rfl rfl ?_
  refine CW.seq ?_
  refine CW.reg ?_
  refine WL.op rfl (OpK.box rfl rfl (by first | exact Rd.cells1 (by assumption) | exact Osl.cells1 (by assumption) | exact Osn.cells1 (by assumption) | exact Rd.cells1 (NL.rd (by assumption)) | exact Inn.cell1 (by assumption) (by omega) | assumption | rfl) (fun b1 w1 hXw1 hb1 hge1 => ?_))
  have hl1 := Lo.new hB hge1
  have hB := hB.trans hXw1
  refine WL.op rfl (OpK.box rfl rfl (by first | exact Rd.cells1 (by assumption) | exact Osl.cells1 (by assumption) | exact Osn.cells1 (by assumption) | exact Rd.cells1 (NL.rd (by assumption)) | exact Inn.cell1 (by assumption) (by omega) | assumption | rfl) (fun b2 w2 hXw2 hb2 hge2 => ?_))
  have hl2 := Lo.new hB hge2
  have hd1_2 := Dj.new hb1.ltO hge2
  have hB := hB.trans hXw2
  have hb1 := hb1.up hXw2
  refine WL.op rfl (OpK.alloc rfl T.zv88 rfl (fun b3 w3 hXw3 hb3 hge3 => ?_))
  have hl3 := Lo.new hB hge3
  have hd1_3 := Dj.new hb1.ltO hge3
  have hd2_3 := Dj.new hb2.ltO hge3
  have hB := hB.trans hXw3
  have hb1 := hb1.up hXw3
  have hb2 := hb2.up hXw3
  refine WL.asg rfl rfl ?_
  refine WL.nilS ?_
  refine CW.seq ?_
  refine CW.seq ?_
  refine CW.reg ?_
  refine WL.pure rfl rfl rfl (PV.loadA T.ag88 rfl hb1.cells (Ext.refl _) rfl) ?_
  refine WL.op rfl (OpK.callR rfl T.cf71 rfl (c_impl_ValidSided (by first | assumption | exact Rd.up (by assumption) hB | exact Osl.rd (by assumption) | exact Osn.rdR (by assumption) | exact NL.rd (by assumption) | exact rdII (by assumption) (by assumption) | exact Inn.rd (by assumption) (by omega)) (by first | assumption | exact Rd.up (by assumption) hB | exact Osl.rd (by assumption) | exact Osn.rdR (by assumption) | exact NL.rd (by assumption) | exact rdII (by assumption) (by assumption) | exact Inn.rd (by assumption) (by omega))) (fun w4 hXw4 => ?_))
  have hB := hB.trans hXw4
  have hb1 := hb1.up hXw4
  have hb2 := hb2.up hXw4
  have hb3 := hb3.up hXw4
  refine WL.pure rfl rfl rfl (PV.not rfl) ?_
  refine WL.mv rfl rfl ?_
  refine WL.split (t := 24) rfl (fun hc1 => ?_) (fun hc1 => ?_)
  · skip
    try simp only [nq] at hc1
    refine WL.skip rfl rfl rfl rfl rfl ?_
    refine WL.skip rfl rfl rfl rfl rfl ?_
    refine WL.skip rfl rfl rfl rfl rfl ?_
    refine WL.pure rfl rfl rfl (PV.pickT rfl rfl) ?_
    refine WL.mv rfl rfl ?_
    refine WL.skip rfl rfl rfl rfl rfl ?_
    refine WL.skip rfl rfl rfl rfl rfl ?_
    refine WL.skip rfl rfl rfl rfl rfl ?_
    refine WL.skip rfl rfl rfl rfl rfl ?_
    refine WL.skip rfl rfl rfl rfl rfl ?_
    refine WL.pure rfl rfl rfl (PV.pickT rfl rfl) ?_
    refine WL.mv rfl rfl ?_
    refine WL.skip rfl rfl rfl rfl rfl ?_
    refine WL.skip rfl rfl rfl rfl rfl ?_
    refine WL.skip rfl rfl rfl rfl rfl ?_
    refine WL.skip rfl rfl rfl rfl rfl ?_
    refine WL.skip rfl rfl rfl rfl rfl ?_
    refine WL.skip rfl rfl rfl rfl rfl ?_
    refine WL.pure rfl rfl rfl (PV.pickT rfl rfl) ?_
    refine WL.nilS ?_
    refine CW.condT rfl ?_
    refine CW.seq ?_
    refine CW.reg ?_
    refine WL.pure rfl rfl rfl (PV.build (ks := []) (os := []) (css := []) (ds := [_, _, _, _]) T.bu88 rfl rfl trivial rfl) ?_
    refine WL.op rfl (OpK.storeA T.sz88 rfl rfl rfl rfl (by simp [Value.oneCell'] <;> first | done | (repeat' apply And.intro) <;> first | rfl | exact Inn.one1 (by assumption) (by omega) | exact Osl.oneCell (by assumption) | exact Osn.oneCell (by assumption) | exact Rd.oneCell (by assumption) | exact Rd.oneCell (NL.rd (by assumption)) | assumption) hb3 (fun w5 hXw5 hb3 => ?_))
    have hB := hB.updL hXw5 hl3
    have hb1 := hb1.updD hXw5 hd1_3
    have hb2 := hb2.updD hXw5 hd2_3
    refine WL.asg rfl rfl ?_
    refine WL.nilS ?_
    refine CW.ret ?_
    refine RQ.then ?_
    refine RQ.rc1 T.ag88 rfl (by first | exact Cells.up (by assumption) hB | exact Bx.cells (by assumption) | assumption) rfl rfl ?_
    refine ⟨hB, (.slice none 0 0), none, (.slice none 0 0), none, ?_, osnE (Osn.nil gR_ok _) ?_, Lo.nl _, osE (Osl.nil _ _) ?_, Lo.nl _, (Dj.nl _)⟩
    · skip
      first | (have hn : ¬ (chainB a0 a1 xa2 xa3 y0 y1 xy2 xy3) = true := (by first | exact chain_n1 (by assumption) | exact chain_n2 (by assumption) | exact chain_n3 (by omega) | exact chain_n6 (by assumption) | exact chain_n5 (by assumption) | exact chain_n4 (by assumption)); first | exact tE2 (by rw [onI_no hn, onI_no hn]) (bE (Bool.eq_false_iff.2 hn).symm) | exact tE2 (by rw [onI_no hn, onI_no hn]; rfl) (bE (Bool.eq_false_iff.2 hn).symm)) | (have hy : (chainB a0 a1 xa2 xa3 y0 y1 xy2 xy3) = true := (chain_yes (by assumption) (by assumption) (by omega) (by assumption)); first | exact tE2 (by rw [onI_yes hy, onI_yes hy]; rfl) (bE hy.symm) | exact tE2 (by rw [onI_yes hy, onI_yes hy]) (bE hy.symm))
    · skip
      first | (rw [onT_no (by first | exact chain_n1 (by assumption) | exact chain_n2 (by assumption) | exact chain_n3 (by omega) | exact chain_n6 (by assumption) | exact chain_n5 (by assumption) | exact chain_n4 (by assumption))]; done) | (rw [onT_yes (chain_yes (by assumption) (by assumption) (by omega) (by assumption))]; first | done | rfl)
    · skip
      first | (rw [onT_no (by first | exact chain_n1 (by assumption) | exact chain_n2 (by assumption) | exact chain_n3 (by omega) | exact chain_n6 (by assumption) | exact chain_n5 (by assumption) | exact chain_n4 (by assumption))]; done) | (rw [onT_yes (chain_yes (by assumption) (by assumption) (by omega) (by assumption))]; first | done | rfl)
  try simp only [nq] at hc1
  refine WL.pureG rfl rfl rfl rfl rfl (PV.loadA T.ag88 rfl hb2.cells (Ext.refl _) rfl) ?_
  refine WL.opG rfl rfl rfl (OpK.callR rfl T.cf71 rfl (c_impl_ValidSided (by first | assumption | exact Rd.up (by assumption) hB | exact Osl.rd (by assumption) | exact Osn.rdR (by assumption) | exact NL.rd (by assumption) | exact rdII (by assumption) (by assumption) | exact Inn.rd (by assumption) (by omega)) (by first | assumption | exact Rd.up (by assumption) hB | exact Osl.rd (by assumption) | exact Osn.rdR (by assumption) | exact NL.rd (by assumption) | exact rdII (by assumption) (by assumption) | exact Inn.rd (by assumption) (by omega))) (fun w6 hXw6 => ?_))
  have hB := hB.trans hXw6
  have hb1 := hb1.up hXw6
  have hb2 := hb2.up hXw6
  have hb3 := hb3.up hXw6
  refine WL.pureG rfl rfl rfl rfl rfl (PV.not rfl) ?_
  refine WL.pure rfl rfl rfl (PV.pickF rfl rfl) ?_
  refine WL.mv rfl rfl ?_
  refine WL.split (t := 29) rfl (fun hc2 => ?_) (fun hc2 => ?_)
  · skip
    try simp only [nq] at hc2
    refine WL.skip rfl rfl rfl rfl rfl ?_
    refine WL.skip rfl rfl rfl rfl rfl ?_
    refine WL.skip rfl rfl rfl rfl rfl ?_
    refine WL.skip rfl rfl rfl rfl rfl ?_
    refine WL.skip rfl rfl rfl rfl rfl ?_
    refine WL.pure rfl rfl rfl (PV.pickT rfl rfl) ?_
    refine WL.mv rfl rfl ?_
    refine WL.skip rfl rfl rfl rfl rfl ?_
    refine WL.skip rfl rfl rfl rfl rfl ?_
    refine WL.skip rfl rfl rfl rfl rfl ?_
    refine WL.skip rfl rfl rfl rfl rfl ?_
    refine WL.skip rfl rfl rfl rfl rfl ?_
    refine WL.skip rfl rfl rfl rfl rfl ?_
    refine WL.pure rfl rfl rfl (PV.pickT rfl rfl) ?_
    refine WL.nilS ?_
    refine CW.condT rfl ?_
    refine CW.seq ?_
    refine CW.reg ?_
    refine WL.pure rfl rfl rfl (PV.build (ks := []) (os := []) (css := []) (ds := [_, _, _, _]) T.bu88 rfl rfl trivial rfl) ?_
    refine WL.op rfl (OpK.storeA T.sz88 rfl rfl rfl rfl (by simp [Value.oneCell'] <;> first | done | (repeat' apply And.intro) <;> first | rfl | exact Inn.one1 (by assumption) (by omega) | exact Osl.oneCell (by assumption) | exact Osn.oneCell (by assumption) | exact Rd.oneCell (by assumption) | exact Rd.oneCell (NL.rd (by assumption)) | assumption) hb3 (fun w7 hXw7 hb3 => ?_))
    have hB := hB.updL hXw7 hl3
    have hb1 := hb1.updD hXw7 hd1_3
    have hb2 := hb2.updD hXw7 hd2_3
    refine WL.asg rfl rfl ?_
    refine WL.nilS ?_
    refine CW.ret ?_
    refine RQ.then ?_
    refine RQ.rc1 T.ag88 rfl (by first | exact Cells.up (by assumption) hB | exact Bx.cells (by assumption) | assumption) rfl rfl ?_
    refine ⟨hB, (.slice none 0 0), none, (.slice none 0 0), none, ?_, osnE (Osn.nil gR_ok _) ?_, Lo.nl _, osE (Osl.nil _ _) ?_, Lo.nl _, (Dj.nl _)⟩
    · skip
      first | (have hn : ¬ (chainB a0 a1 xa2 xa3 y0 y1 xy2 xy3) = true := (by first | exact chain_n1 (by assumption) | exact chain_n2 (by assumption) | exact chain_n3 (by omega) | exact chain_n6 (by assumption) | exact chain_n5 (by assumption) | exact chain_n4 (by assumption)); first | exact tE2 (by rw [onI_no hn, onI_no hn]) (bE (Bool.eq_false_iff.2 hn).symm) | exact tE2 (by rw [onI_no hn, onI_no hn]; rfl) (bE (Bool.eq_false_iff.2 hn).symm)) | (have hy : (chainB a0 a1 xa2 xa3 y0 y1 xy2 xy3) = true := (chain_yes (by assumption) (by assumption) (by omega) (by assumption)); first | exact tE2 (by rw [onI_yes hy, onI_yes hy]; rfl) (bE hy.symm) | exact tE2 (by rw [onI_yes hy, onI_yes hy]) (bE hy.symm))
    · skip
      first | (rw [onT_no (by first | exact chain_n1 (by assumption) | exact chain_n2 (by assumption) | exact chain_n3 (by omega) | exact chain_n6 (by assumption) | exact chain_n5 (by assumption) | exact chain_n4 (by assumption))]; done) | (rw [onT_yes (chain_yes (by assumption) (by assumption) (by omega) (by assumption))]; first | done | rfl)
    · skip
      first | (rw [onT_no (by first | exact chain_n1 (by assumption) | exact chain_n2 (by assumption) | exact chain_n3 (by omega) | exact chain_n6 (by assumption) | exact chain_n5 (by assumption) | exact chain_n4 (by assumption))]; done) | (rw [onT_yes (chain_yes (by assumption) (by assumption) (by omega) (by assumption))]; first | done | rfl)
  try simp only [nq] at hc2
  refine WL.pureG rfl rfl rfl rfl rfl (PV.fieldAddr T.fl88_1 rfl hb1.cells) ?_
  refine WL.pureG rfl rfl rfl rfl rfl (PV.load1 T.na2 rfl hb1.cells (Ext.refl _) rfl) ?_
  refine WL.pureG rfl rfl rfl rfl rfl (PV.fieldAddr T.fl88_1 rfl hb2.cells) ?_
  refine WL.pureG rfl rfl rfl rfl rfl (PV.load1 T.na2 rfl hb2.cells (Ext.refl _) rfl) ?_
  refine WL.pureG rfl rfl rfl rfl rfl (PV.neq rfl rfl) ?_
  refine WL.pure rfl rfl rfl (PV.pickF rfl rfl) ?_
  refine WL.mv rfl rfl ?_
  refine WL.split (t := 36) rfl (fun hc3 => ?_) (fun hc3 => ?_)
  · skip
    try simp only [nq] at hc3
    refine WL.skip rfl rfl rfl rfl rfl ?_
    refine WL.skip rfl rfl rfl rfl rfl ?_
    refine WL.skip rfl rfl rfl rfl rfl ?_
    refine WL.skip rfl rfl rfl rfl rfl ?_
    refine WL.skip rfl rfl rfl rfl rfl ?_
    refine WL.skip rfl rfl rfl rfl rfl ?_
    refine WL.pure rfl rfl rfl (PV.pickT rfl rfl) ?_
    refine WL.nilS ?_
    refine CW.condT rfl ?_
    refine CW.seq ?_
    refine CW.reg ?_
    refine WL.pure rfl rfl rfl (PV.build (ks := []) (os := []) (css := []) (ds := [_, _, _, _]) T.bu88 rfl rfl trivial rfl) ?_
    refine WL.op rfl (OpK.storeA T.sz88 rfl rfl rfl rfl (by simp [Value.oneCell'] <;> first | done | (repeat' apply And.intro) <;> first | rfl | exact Inn.one1 (by assumption) (by omega) | exact Osl.oneCell (by assumption) | exact Osn.oneCell (by assumption) | exact Rd.oneCell (by assumption) | exact Rd.oneCell (NL.rd (by assumption)) | assumption) hb3 (fun w8 hXw8 hb3 => ?_))
    have hB := hB.updL hXw8 hl3
    have hb1 := hb1.updD hXw8 hd1_3
    have hb2 := hb2.updD hXw8 hd2_3
    refine WL.asg rfl rfl ?_
    refine WL.nilS ?_
    refine CW.ret ?_
    refine RQ.then ?_
    refine RQ.rc1 T.ag88 rfl (by first | exact Cells.up (by assumption) hB | exact Bx.cells (by assumption) | assumption) rfl rfl ?_
    refine ⟨hB, (.slice none 0 0), none, (.slice none 0 0), none, ?_, osnE (Osn.nil gR_ok _) ?_, Lo.nl _, osE (Osl.nil _ _) ?_, Lo.nl _, (Dj.nl _)⟩
    · skip
      first | (have hn : ¬ (chainB a0 a1 xa2 xa3 y0 y1 xy2 xy3) = true := (by first | exact chain_n1 (by assumption) | exact chain_n2 (by assumption) | exact chain_n3 (by omega) | exact chain_n6 (by assumption) | exact chain_n5 (by assumption) | exact chain_n4 (by assumption)); first | exact tE2 (by rw [onI_no hn, onI_no hn]) (bE (Bool.eq_false_iff.2 hn).symm) | exact tE2 (by rw [onI_no hn, onI_no hn]; rfl) (bE (Bool.eq_false_iff.2 hn).symm)) | (have hy : (chainB a0 a1 xa2 xa3 y0 y1 xy2 xy3) = true := (chain_yes (by assumption) (by assumption) (by omega) (by assumption)); first | exact tE2 (by rw [onI_yes hy, onI_yes hy]; rfl) (bE hy.symm) | exact tE2 (by rw [onI_yes hy, onI_yes hy]) (bE hy.symm))
    · skip
      first | (rw [onT_no (by first | exact chain_n1 (by assumption) | exact chain_n2 (by assumption) | exact chain_n3 (by omega) | exact chain_n6 (by assumption) | exact chain_n5 (by assumption) | exact chain_n4 (by assumption))]; done) | (rw [onT_yes (chain_yes (by assumption) (by assumption) (by omega) (by assumption))]; first | done | rfl)
    · skip
      first | (rw [onT_no (by first | exact chain_n1 (by assumption) | exact chain_n2 (by assumption) | exact chain_n3 (by omega) | exact chain_n6 (by assumption) | exact chain_n5 (by assumption) | exact chain_n4 (by assumption))]; done) | (rw [onT_yes (chain_yes (by assumption) (by assumption) (by omega) (by assumption))]; first | done | rfl)
  try simp only [nq] at hc3
  refine WL.pureG rfl rfl rfl rfl rfl (PV.fieldAddr T.fl88_0 rfl hb1.cells) ?_
  refine WL.pureG rfl rfl rfl rfl rfl (PV.load1 T.na2 rfl hb1.cells (Ext.refl _) rfl) ?_
  refine WL.pureG rfl rfl rfl rfl rfl (PV.fieldAddr T.fl88_0 rfl hb2.cells) ?_
  refine WL.pureG rfl rfl rfl rfl rfl (PV.load1 T.na2 rfl hb2.cells (Ext.refl _) rfl) ?_
  refine WL.pureG rfl rfl rfl rfl rfl (PV.mulW rfl rfl) ?_
  refine WL.pureG rfl rfl rfl rfl rfl (PV.gtr rfl rfl) ?_
  refine WL.pure rfl rfl rfl (PV.pickF rfl rfl) ?_
  refine WL.nilS ?_
  refine CW.cond rfl (fun hc4 => ?_) (fun hc4 => ?_)
  · skip
    try simp only [nq] at hc4
    refine CW.seq ?_
    refine CW.reg ?_
    refine WL.pure rfl rfl rfl (PV.build (ks := []) (os := []) (css := []) (ds := [_, _, _, _]) T.bu88 rfl rfl trivial rfl) ?_
    refine WL.op rfl (OpK.storeA T.sz88 rfl rfl rfl rfl (by simp [Value.oneCell'] <;> first | done | (repeat' apply And.intro) <;> first | rfl | exact Inn.one1 (by assumption) (by omega) | exact Osl.oneCell (by assumption) | exact Osn.oneCell (by assumption) | exact Rd.oneCell (by assumption) | exact Rd.oneCell (NL.rd (by assumption)) | assumption) hb3 (fun w9 hXw9 hb3 => ?_))
    have hB := hB.updL hXw9 hl3
    have hb1 := hb1.updD hXw9 hd1_3
    have hb2 := hb2.updD hXw9 hd2_3
    refine WL.asg rfl rfl ?_
    refine WL.nilS ?_
    refine CW.ret ?_
    refine RQ.then ?_
    refine RQ.rc1 T.ag88 rfl (by first | exact Cells.up (by assumption) hB | exact Bx.cells (by assumption) | assumption) rfl rfl ?_
    refine ⟨hB, (.slice none 0 0), none, (.slice none 0 0), none, ?_, osnE (Osn.nil gR_ok _) ?_, Lo.nl _, osE (Osl.nil _ _) ?_, Lo.nl _, (Dj.nl _)⟩
    · skip
      first | (have hn : ¬ (chainB a0 a1 xa2 xa3 y0 y1 xy2 xy3) = true := (by first | exact chain_n1 (by assumption) | exact chain_n2 (by assumption) | exact chain_n3 (by omega) | exact chain_n6 (by assumption) | exact chain_n5 (by assumption) | exact chain_n4 (by assumption)); first | exact tE2 (by rw [onI_no hn, onI_no hn]) (bE (Bool.eq_false_iff.2 hn).symm) | exact tE2 (by rw [onI_no hn, onI_no hn]; rfl) (bE (Bool.eq_false_iff.2 hn).symm)) | (have hy : (chainB a0 a1 xa2 xa3 y0 y1 xy2 xy3) = true := (chain_yes (by assumption) (by assumption) (by omega) (by assumption)); first | exact tE2 (by rw [onI_yes hy, onI_yes hy]; rfl) (bE hy.symm) | exact tE2 (by rw [onI_yes hy, onI_yes hy]) (bE hy.symm))
    · skip
      first | (rw [onT_no (by first | exact chain_n1 (by assumption) | exact chain_n2 (by assumption) | exact chain_n3 (by omega) | exact chain_n6 (by assumption) | exact chain_n5 (by assumption) | exact chain_n4 (by assumption))]; done) | (rw [onT_yes (chain_yes (by assumption) (by assumption) (by omega) (by assumption))]; first | done | rfl)
    · skip
      first | (rw [onT_no (by first | exact chain_n1 (by assumption) | exact chain_n2 (by assumption) | exact chain_n3 (by omega) | exact chain_n6 (by assumption) | exact chain_n5 (by assumption) | exact chain_n4 (by assumption))]; done) | (rw [onT_yes (chain_yes (by assumption) (by assumption) (by omega) (by assumption))]; first | done | rfl)
  try simp only [nq] at hc4
  refine CW.skipS ?_
  refine CW.seq ?_
  refine CW.reg ?_
  have gA := (by assumption : sidedV a0 a1 xa2 xa3); have gY := (by assumption : sidedV y0 y1 xy2 xy3); have a8 := gA.1; have y8 := gY.1; have aL := gA.2.2.1; have yL := gY.2.2.1; have aE := gA.2.2.2.1; have yE := gY.2.2.2.1; have hcA := cA_le (n := y0) (xs := xa2) (ys := xy2) (by omega) (by omega); have hcB := cB_le (n := y0) (xs := xa2) (ys := xy2) (by omega) (by omega) (by omega)
  refine WL.pure rfl rfl rfl (PV.fieldAddr T.fl88_0 rfl hb1.cells) ?_
  refine WL.pure rfl rfl rfl (PV.load1 T.na2 rfl hb1.cells (Ext.refl _) rfl) ?_
  refine WL.pure rfl rfl rfl (PV.fieldAddr T.fl88_0 rfl hb2.cells) ?_
  refine WL.pure rfl rfl rfl (PV.load1 T.na2 rfl hb2.cells (Ext.refl _) rfl) ?_
  refine WL.pure rfl rfl rfl (PV.mulW rfl rfl) ?_
  refine WL.pure rfl rfl rfl (PV.fieldAddr T.fl88_1 rfl hb1.cells) ?_
  refine WL.pure rfl rfl rfl (PV.load1 T.na2 rfl hb1.cells (Ext.refl _) rfl) ?_
  refine WL.pure rfl rfl rfl (PV.build (ks := [0, 1]) (os := [.tmp 49, .tmp 51]) (css := [[_], [_]]) (ds := [_, _, _, _]) T.bu88 rfl rfl ⟨rfl, rfl, trivial⟩ rfl) ?_
  refine WL.op rfl (OpK.alloc rfl T.zv88 rfl (fun b4 w10 hXw10 hb4 hge4 => ?_))
  have hl4 := Lo.new hB hge4
  have hd1_4 := Dj.new hb1.ltO hge4
  have hd2_4 := Dj.new hb2.ltO hge4
  have hd3_4 := Dj.new hb3.ltO hge4
  have hB := hB.trans hXw10
  have hb1 := hb1.up hXw10
  have hb2 := hb2.up hXw10
  have hb3 := hb3.up hXw10
  refine WL.op rfl (OpK.storeA T.sz88 rfl rfl rfl rfl (by simp [Value.oneCell'] <;> first | done | (repeat' apply And.intro) <;> first | rfl | exact Inn.one1 (by assumption) (by omega) | exact Osl.oneCell (by assumption) | exact Osn.oneCell (by assumption) | exact Rd.oneCell (by assumption) | exact Rd.oneCell (NL.rd (by assumption)) | assumption) hb4 (fun w11 hXw11 hb4 => ?_))
  have hB := hB.updL hXw11 hl4
  have hb1 := hb1.updD hXw11 hd1_4
  have hb2 := hb2.updD hXw11 hd2_4
  have hb3 := hb3.updD hXw11 hd3_4
  refine WL.nilS ?_
  refine CW.seq ?_
  refine CW.seq ?_
  refine CW.reg ?_
  refine WL.pure rfl rfl rfl (PV.fieldAddr T.fl88_2 rfl hb1.cells) ?_
  refine WL.pure rfl rfl rfl (PV.load1 T.na86 rfl hb1.cells (Ext.refl _) rfl) ?_
  refine WL.pure rfl rfl rfl ((by first | exact PV.len rfl (by assumption) T.sl86 | exact PV.lenOs rfl (by assumption) T.sl86 | exact PV.len rfl (NL.rd (by assumption)) T.sl86 | exact PV.len rfl (Inn.rd (by assumption) (by omega)) T.sl86)) ?_
  refine WL.mv rfl rfl ?_
  refine WL.nilS ?_
  refine CW.block ?_
  have ho5 : Osn 4 gR w11 none (.slice none 0 0) [] := (Osn.nil gR_ok _)
  have hl5 : Lo w none := Lo.nl _
  have hd1_5 : Dj (some b1.block) none := Dj.nlR _
  have hd2_5 : Dj (some b2.block) none := Dj.nlR _
  have hd3_5 : Dj (some b3.block) none := Dj.nlR _
  have hd4_5 : Dj (some b4.block) none := Dj.nlR _
  have ho6 : Osl VB w11 none (.slice none 0 0) [] := (Osl.nil _ _)
  have hl6 : Lo w none := Lo.nl _
  have hd1_6 : Dj (some b1.block) none := Dj.nlR _
  have hd2_6 : Dj (some b2.block) none := Dj.nlR _
  have hd3_6 : Dj (some b3.block) none := Dj.nlR _
  have hd4_6 : Dj (some b4.block) none := Dj.nlR _
  have hd5_6 : Dj none none := Dj.nlR _
  have hlt1 := hb1.ltO
  have hlt2 := hb2.ltO
  have hlt3 := hb3.ltO
  have hlt4 := hb4.ltO
  have hlt5 := ho5.ltO
  have hlt6 := ho6.ltO
  refine CW.loop (σk := [(2, _), (3, _), (4, _), (6, _), (54, _), (55, _)]) (fun ρ wz m => ∃ (v7 : Value) (og7 : Option Nat) (v8 : Value) (og8 : Option Nat) (i : Nat), ρ = [(56, .int .i64 (i : Nat))] ∧ m = xa2.length - i ∧ UpdL [none, none, (some b4.block)] w11 wz ∧ Osn 4 gR wz og7 v7 ([] ++ dblF (ch1 y0 xa2 xy2) xy2.length i) ∧ OgR w11 none og7 ∧ Osl VB wz og8 v8 (([] : List Bool)) ∧ OgR w11 none og8 ∧ Bx wz b4 [.int .i64 (wI (a0 * y0)), .int .i64 a1, v7, v8] ∧ Dj og7 og8 ∧ (i ≤ xa2.length)) (ρ₀ := [(56, _)]) (m₀ := _) ⟨rfl, rfl, rfl, rfl, rfl, rfl, rfl, trivial⟩ ⟨(.slice none 0 0), none, (.slice none 0 0), none, 0, rfl, rfl, (UpdL.refl _ _), osnE ho5 (by exact dblF_zero _ _ _), OgR.refl _ _, osE ho6 (by rfl), OgR.refl _ _, bxE hb4 (by first | rfl | (simp_all; done) | (simp_all; omega)), hd5_6, (by first | omega | rfl | (simp; done) | assumption | (simp_all; done))⟩ ?_
  rintro _ wl1 _ ⟨v7, og7, v8, og8, i, rfl, rfl, hU0, ho7, ha7, ho8, ha8, hb4, hd7_8, hi⟩
  have hb1 := hb1.loop hU0 ⟨hd1_5, hd1_6, hd1_4, trivial⟩
  have hb2 := hb2.loop hU0 ⟨hd2_5, hd2_6, hd2_4, trivial⟩
  have hb3 := hb3.loop hU0 ⟨hd3_5, hd3_6, hd3_4, trivial⟩
  have hl7 := Lo.ogr hl5 hB ha7
  have hg0_7 := ha7
  have hk0_7 : OkB [none, none, (some b4.block)] w11 og7 := OkB.ogr (OkB.mem (by simp)) (Nat.le_refl _) ha7
  have hd1_7 := Dj.ogr hd1_5 hlt1 ha7
  have hd2_7 := Dj.ogr hd2_5 hlt2 ha7
  have hd3_7 := Dj.ogr hd3_5 hlt3 ha7
  have hd4_7 := Dj.ogr hd4_5 hlt4 ha7
  have hl8 := Lo.ogr hl6 hB ha8
  have hg0_8 := ha8
  have hk0_8 : OkB [none, none, (some b4.block)] w11 og8 := OkB.ogr (OkB.mem (by simp)) (Nat.le_refl _) ha8
  have hd1_8 := Dj.ogr hd1_6 hlt1 ha8
  have hd2_8 := Dj.ogr hd2_6 hlt2 ha8
  have hd3_8 := Dj.ogr hd3_6 hlt3 ha8
  have hd4_8 := Dj.ogr hd4_6 hlt4 ha8
  have hk0_4 : OkB [none, none, (some b4.block)] w11 (some b4.block) := OkB.mem (by simp)
  have hB := hB.loop hU0 ⟨hl5, hl6, hl4, trivial⟩
  refine CW.seq ?_
  refine CW.reg ?_
  refine WL.pure rfl rfl rfl (PV.lss rfl rfl) ?_
  refine WL.nilS ?_
  refine CW.seq ?_
  refine CW.cond rfl (fun hc5 => ?_) (fun hc5 => ?_)
  · skip
    try simp only [nq] at hc5
    refine CW.skipS ?_
    refine CW.seq ?_
    refine CW.block ?_
    refine CW.seq ?_
    refine CW.reg ?_
    first
      | refine WL.at (x := .tmp 54) (y := .tmp 56) (E := ER) ((0, 0, 0, 0)) rfl rfl (by first | assumption | exact Inn.rd (by assumption) (by omega)) (by first | omega | (simp only [List.length_set]; omega) | (simp only [List.length_append, List.length_take, List.length_replicate, List.length_drop]; omega)) (fun p1 csp1 hpp1 hcp1 hq => ?_)
      | refine WL.atZ (x := .tmp 54) (y := .tmp 56) (E := ER) ((0, 0, 0, 0)) rfl rfl (by first | assumption | exact Inn.rd (by assumption) (by omega)) (by first | omega | (simp only [List.length_set]; omega) | (simp only [List.length_append, List.length_take, List.length_replicate, List.length_drop]; omega)) (fun p1 csp1 hpp1 hzp1 hcp1 hq => ?_)
    cases hq
    refine WL.pure rfl rfl rfl ((by first | exact PV.indexAddr hpp1 rfl rfl T.sl86 | exact PV.indexAddr hpp1 rfl (by rw [← hzp1]; rfl) T.sl86)) ?_
    refine WL.pure rfl rfl rfl ((by first | exact PV.loadA T.ag178 rfl (by first | exact Cells.up (by assumption) hB | exact Bx.cells (by assumption) | assumption) (Ext.refl _) rfl | exact PV.loadP (ds := [_, _, _, _]) T.ag178 rfl (by first | exact Cells.up (by assumption) hB | exact Bx.cells (by assumption) | assumption) (Ext.refl _) rfl rfl)) ?_
    refine WL.op rfl (OpK.alloc rfl T.zv178 rfl (fun b10 w12 hXw12 hb10 hge10 => ?_))
    have hl10 := Lo.new hB hge10
    have hd1_10 := Dj.new hb1.ltO hge10
    have hd2_10 := Dj.new hb2.ltO hge10
    have hd3_10 := Dj.new hb3.ltO hge10
    have hd4_10 := Dj.new hb4.ltO hge10
    have hd7_10 := Dj.new ho7.ltO hge10
    have hd8_10 := Dj.new ho8.ltO hge10
    have hk0_10 := OkN.new hU0 hge10
    have hg0_10 := OgR.new hU0.size hge10
    have hB := hB.trans hXw12
    have hb1 := hb1.up hXw12
    have hb2 := hb2.up hXw12
    have hb3 := hb3.up hXw12
    have hb4 := hb4.up hXw12
    have ho7 := ho7.up hXw12
    have ho8 := ho8.up hXw12
    have hU0 := hU0.ext hXw12
    refine WL.op rfl (OpK.storeA T.sz178 rfl rfl rfl rfl (by simp [Value.oneCell'] <;> first | done | (repeat' apply And.intro) <;> first | rfl | exact Inn.one1 (by assumption) (by omega) | exact Osl.oneCell (by assumption) | exact Osn.oneCell (by assumption) | exact Rd.oneCell (by assumption) | exact Rd.oneCell (NL.rd (by assumption)) | assumption) hb10 (fun w13 hXw13 hb10 => ?_))
    have hB := hB.updL hXw13 hl10
    have hb1 := hb1.updD hXw13 hd1_10
    have hb2 := hb2.updD hXw13 hd2_10
    have hb3 := hb3.updD hXw13 hd3_10
    have hb4 := hb4.updD hXw13 hd4_10
    have ho7 := ho7.updD hXw13 hd7_10
    have ho8 := ho8.updD hXw13 hd8_10
    have hU0 := hU0.step hXw13 hk0_10
    refine WL.nilS ?_
    refine CW.seq ?_
    refine CW.reg ?_
    refine WL.pure rfl rfl rfl (PV.fieldAddr T.fl88_2 rfl hb2.cells) ?_
    refine WL.pure rfl rfl rfl (PV.load1 T.na86 rfl hb2.cells (Ext.refl _) rfl) ?_
    refine WL.pure rfl rfl rfl ((by first | exact PV.len rfl (by assumption) T.sl86 | exact PV.lenOs rfl (by assumption) T.sl86 | exact PV.len rfl (NL.rd (by assumption)) T.sl86 | exact PV.len rfl (Inn.rd (by assumption) (by omega)) T.sl86)) ?_
    refine WL.mv rfl rfl ?_
    refine WL.nilS ?_
    refine CW.block ?_
    have hlt1 := hb1.ltO
    have hlt2 := hb2.ltO
    have hlt3 := hb3.ltO
    have hlt4 := hb4.ltO
    have hlt7 := ho7.ltO
    have hlt8 := ho8.ltO
    have hlt10 := hb10.ltO
    refine CW.loop (σk := [(2, _), (3, _), (4, _), (6, _), (8, _), (54, _), (55, _), (56, _), (61, _), (62, _)]) (fun ρ wz m => ∃ (v11 : Value) (og11 : Option Nat) (v12 : Value) (og12 : Option Nat) (k : Nat), ρ = [(63, .int .i64 (k : Nat))] ∧ m = xy2.length - k ∧ UpdL [og7, og8, (some b4.block)] w13 wz ∧ Osn 4 gR wz og11 v11 ([] ++ dblF (ch1 y0 xa2 xy2) xy2.length i ++ rowF (ch1 y0 xa2 xy2) i k) ∧ OgR w13 og7 og11 ∧ Osl VB wz og12 v12 (([] : List Bool)) ∧ OgR w13 og8 og12 ∧ Bx wz b4 [.int .i64 (wI (a0 * y0)), .int .i64 a1, v11, v12] ∧ Dj og11 og12 ∧ (k ≤ xy2.length)) (ρ₀ := [(63, _)]) (m₀ := _) ⟨rfl, rfl, rfl, rfl, rfl, rfl, rfl, rfl, rfl, rfl, rfl, trivial⟩ ⟨v7, og7, v8, og8, 0, rfl, rfl, (UpdL.refl _ _), osnE ho7 (by exact rowF_zero _ _ _), OgR.refl _ _, osE ho8 (by rfl), OgR.refl _ _, bxE hb4 (by first | rfl | (simp_all; done) | (simp_all; omega)), hd7_8, (by first | omega | rfl | (simp; done) | assumption | (simp_all; done))⟩ ?_
    rintro _ wl2 _ ⟨v11, og11, v12, og12, k, rfl, rfl, hU1, ho11, ha11, ho12, ha12, hb4, hd11_12, hk⟩
    have hU0 := hU0.trans hU1 ⟨hk0_7, hk0_8, hk0_4, trivial⟩
    have hb1 := hb1.loop hU1 ⟨hd1_7, hd1_8, hd1_4, trivial⟩
    have hb2 := hb2.loop hU1 ⟨hd2_7, hd2_8, hd2_4, trivial⟩
    have hb3 := hb3.loop hU1 ⟨hd3_7, hd3_8, hd3_4, trivial⟩
    have hb10 := hb10.loop hU1 ⟨(Dj.symm hd7_10), (Dj.symm hd8_10), (Dj.symm hd4_10), trivial⟩
    have hl11 := Lo.ogr hl7 hB ha11
    have hg1_11 := ha11
    have hk1_11 : OkB [og7, og8, (some b4.block)] w13 og11 := OkB.ogr (OkB.mem (by simp)) (Nat.le_refl _) ha11
    have hk0_11 := OkB.ogr hk0_7 (by first | assumption | exact UpdL.size (by assumption)) ha11
    have hg0_11 := OgR.trans hg0_7 (by first | assumption | exact UpdL.size (by assumption)) ha11
    have hd1_11 := Dj.ogr hd1_7 hlt1 ha11
    have hd2_11 := Dj.ogr hd2_7 hlt2 ha11
    have hd3_11 := Dj.ogr hd3_7 hlt3 ha11
    have hd4_11 := Dj.ogr hd4_7 hlt4 ha11
    have hd10_11 := Dj.ogr (Dj.symm hd7_10) hlt10 ha11
    have hl12 := Lo.ogr hl8 hB ha12
    have hg1_12 := ha12
    have hk1_12 : OkB [og7, og8, (some b4.block)] w13 og12 := OkB.ogr (OkB.mem (by simp)) (Nat.le_refl _) ha12
    have hk0_12 := OkB.ogr hk0_8 (by first | assumption | exact UpdL.size (by assumption)) ha12
    have hg0_12 := OgR.trans hg0_8 (by first | assumption | exact UpdL.size (by assumption)) ha12
    have hd1_12 := Dj.ogr hd1_8 hlt1 ha12
    have hd2_12 := Dj.ogr hd2_8 hlt2 ha12
    have hd3_12 := Dj.ogr hd3_8 hlt3 ha12
    have hd4_12 := Dj.ogr hd4_8 hlt4 ha12
    have hd10_12 := Dj.ogr (Dj.symm hd8_10) hlt10 ha12
    have hk1_4 : OkB [og7, og8, (some b4.block)] w13 (some b4.block) := OkB.mem (by simp)
    have hB := hB.loop hU1 ⟨hl7, hl8, hl4, trivial⟩
    have r1 := rowF_len (ch1_len y0 xa2 xy2) i k; have r2 := dblF_le (ch1_len y0 xa2 xy2) (m := xy2.length) (i := i) (M := 48) (I := 48) (by omega) (by omega); have hal : ([] ++ dblF (ch1 y0 xa2 xy2) xy2.length i ++ rowF (ch1 y0 xa2 xy2) i k).length ≤ 6000 := (by simp only [List.length_append, List.length_nil]; omega)
    refine CW.seq ?_
    refine CW.reg ?_
    refine WL.pure rfl rfl rfl (PV.lss rfl rfl) ?_
    refine WL.nilS ?_
    refine CW.seq ?_
    refine CW.cond rfl (fun hc6 => ?_) (fun hc6 => ?_)
    · skip
      try simp only [nq] at hc6
      refine CW.skipS ?_
      refine CW.seq ?_
      refine CW.block ?_
      refine CW.seq ?_
      refine CW.reg ?_
      first
        | refine WL.at (x := .tmp 61) (y := .tmp 63) (E := ER) ((0, 0, 0, 0)) rfl rfl (by first | assumption | exact Inn.rd (by assumption) (by omega)) (by first | omega | (simp only [List.length_set]; omega) | (simp only [List.length_append, List.length_take, List.length_replicate, List.length_drop]; omega)) (fun p2 csp2 hpp2 hcp2 hq => ?_)
        | refine WL.atZ (x := .tmp 61) (y := .tmp 63) (E := ER) ((0, 0, 0, 0)) rfl rfl (by first | assumption | exact Inn.rd (by assumption) (by omega)) (by first | omega | (simp only [List.length_set]; omega) | (simp only [List.length_append, List.length_take, List.length_replicate, List.length_drop]; omega)) (fun p2 csp2 hpp2 hzp2 hcp2 hq => ?_)
      cases hq
      refine WL.pure rfl rfl rfl ((by first | exact PV.indexAddr hpp2 rfl rfl T.sl86 | exact PV.indexAddr hpp2 rfl (by rw [← hzp2]; rfl) T.sl86)) ?_
      refine WL.pure rfl rfl rfl ((by first | exact PV.loadA T.ag178 rfl (by first | exact Cells.up (by assumption) hB | exact Bx.cells (by assumption) | assumption) (Ext.refl _) rfl | exact PV.loadP (ds := [_, _, _, _]) T.ag178 rfl (by first | exact Cells.up (by assumption) hB | exact Bx.cells (by assumption) | assumption) (Ext.refl _) rfl rfl)) ?_
      refine WL.op rfl (OpK.alloc rfl T.zv178 rfl (fun b14 w14 hXw14 hb14 hge14 => ?_))
      have hl14 := Lo.new hB hge14
      have hd1_14 := Dj.new hb1.ltO hge14
      have hd2_14 := Dj.new hb2.ltO hge14
      have hd3_14 := Dj.new hb3.ltO hge14
      have hd4_14 := Dj.new hb4.ltO hge14
      have hd10_14 := Dj.new hb10.ltO hge14
      have hd11_14 := Dj.new ho11.ltO hge14
      have hd12_14 := Dj.new ho12.ltO hge14
      have hk0_14 := OkN.new hU0 hge14
      have hg0_14 := OgR.new hU0.size hge14
      have hk1_14 := OkN.new hU1 hge14
      have hg1_14 := OgR.new hU1.size hge14
      have hB := hB.trans hXw14
      have hb1 := hb1.up hXw14
      have hb2 := hb2.up hXw14
      have hb3 := hb3.up hXw14
      have hb4 := hb4.up hXw14
      have hb10 := hb10.up hXw14
      have ho11 := ho11.up hXw14
      have ho12 := ho12.up hXw14
      have hU0 := hU0.ext hXw14
      have hU1 := hU1.ext hXw14
      refine WL.op rfl (OpK.storeA T.sz178 rfl rfl rfl rfl (by simp [Value.oneCell'] <;> first | done | (repeat' apply And.intro) <;> first | rfl | exact Inn.one1 (by assumption) (by omega) | exact Osl.oneCell (by assumption) | exact Osn.oneCell (by assumption) | exact Rd.oneCell (by assumption) | exact Rd.oneCell (NL.rd (by assumption)) | assumption) hb14 (fun w15 hXw15 hb14 => ?_))
      have hB := hB.updL hXw15 hl14
      have hb1 := hb1.updD hXw15 hd1_14
      have hb2 := hb2.updD hXw15 hd2_14
      have hb3 := hb3.updD hXw15 hd3_14
      have hb4 := hb4.updD hXw15 hd4_14
      have hb10 := hb10.updD hXw15 hd10_14
      have ho11 := ho11.updD hXw15 hd11_14
      have ho12 := ho12.updD hXw15 hd12_14
      have hU0 := hU0.step hXw15 hk0_14
      have hU1 := hU1.step hXw15 hk1_14
      refine WL.nilS ?_
      refine CW.seq ?_
      refine CW.reg ?_
      refine WL.pure rfl rfl rfl (PV.fieldAddr T.fl178_3 rfl hb10.cells) ?_
      refine WL.pure rfl rfl rfl (PV.load1 T.na2 rfl hb10.cells (Ext.refl _) rfl) ?_
      refine WL.pure rfl rfl rfl (PV.geq rfl rfl) ?_
      refine WL.mv rfl rfl ?_
      refine WL.split (t := 70) rfl (fun hc7 => ?_) (fun hc7 => ?_)
      rotate_left
      · skip
        try simp only [nq] at hc7
        refine WL.skip rfl rfl rfl rfl rfl ?_
        refine WL.skip rfl rfl rfl rfl rfl ?_
        refine WL.skip rfl rfl rfl rfl rfl ?_
        refine WL.skip rfl rfl rfl rfl rfl ?_
        refine WL.skip rfl rfl rfl rfl rfl ?_
        refine WL.pure rfl rfl rfl (PV.pickF rfl rfl) ?_
        refine WL.nilS ?_
        refine CW.condF rfl ?_
        refine CW.skip ?_
        refine NQ.block ?_
        refine NQ.then ?_
        refine CW.reg ?_
        refine WL.pure rfl rfl rfl (PV.add rfl rfl (by constructor <;> omega)) ?_
        refine WL.mv rfl rfl ?_
        refine WL.nil ?_
        refine NQ.next (ρ := [(63, _)]) ⟨rfl, rfl, rfl, rfl, rfl, rfl, rfl, rfl, rfl, rfl, rfl, trivial⟩ ?_
        exact ⟨_, ⟨v11, og11, v12, og12, k + 1, rfl, rfl, hU1, osnE ho11 (by first | exact rowF_put (onF_yes (by omega) rfl) | exact rowF_none (onF_no (by omega))), (by first | exact hg1_11 | exact OgR.weak hg1_11), osE ho12 (by first | rfl | (simp_all; done) | (simp_all; omega)), (by first | exact hg1_12 | exact OgR.weak hg1_12), bxE hb4 (by first | rfl | (simp_all; done) | (simp_all; omega)), hd11_12, (by first | omega | assumption | (simp_all; done) | (simp_all; omega))⟩, by omega⟩
      try simp only [nq] at hc7
      refine WL.pureG rfl rfl rfl rfl rfl (PV.fieldAddr T.fl178_3 rfl hb10.cells) ?_
      refine WL.pureG rfl rfl rfl rfl rfl (PV.load1 T.na2 rfl hb10.cells (Ext.refl _) rfl) ?_
      refine WL.pureG rfl rfl rfl rfl rfl (PV.fieldAddr T.fl178_2 rfl hb14.cells) ?_
      refine WL.pureG rfl rfl rfl rfl rfl (PV.load1 T.na2 rfl hb14.cells (Ext.refl _) rfl) ?_
      refine WL.pureG rfl rfl rfl rfl rfl (PV.eql rfl rfl) ?_
      refine WL.pure rfl rfl rfl (PV.pickT rfl rfl) ?_
      refine WL.nilS ?_
      refine CW.cond rfl (fun hc8 => ?_) (fun hc8 => ?_)
      · skip
        try simp only [nq] at hc8
        refine CW.reg ?_
        refine WL.pure rfl rfl rfl (PV.fieldAddr T.fl88_2 rfl hb4.cells) ?_
        refine WL.pure rfl rfl rfl (PV.load1 T.na86 rfl hb4.cells (Ext.refl _) rfl) ?_
        refine WL.pure rfl rfl rfl (PV.fieldAddr T.fl178_0 rfl hb10.cells) ?_
        refine WL.pure rfl rfl rfl (PV.load1 T.na2 rfl hb10.cells (Ext.refl _) rfl) ?_
        refine WL.pure rfl rfl rfl (PV.fieldAddr T.fl88_0 rfl hb2.cells) ?_
        refine WL.pure rfl rfl rfl (PV.load1 T.na2 rfl hb2.cells (Ext.refl _) rfl) ?_
        refine WL.pure rfl rfl rfl (PV.mulW rfl rfl) ?_
        refine WL.pure rfl rfl rfl (PV.fieldAddr T.fl178_0 rfl hb14.cells) ?_
        refine WL.pure rfl rfl rfl (PV.load1 T.na2 rfl hb14.cells (Ext.refl _) rfl) ?_
        refine WL.pure rfl rfl rfl (PV.addW rfl rfl) ?_
        refine WL.pure rfl rfl rfl (PV.fieldAddr T.fl178_1 rfl hb10.cells) ?_
        refine WL.pure rfl rfl rfl (PV.load1 T.na2 rfl hb10.cells (Ext.refl _) rfl) ?_
        refine WL.pure rfl rfl rfl (PV.fieldAddr T.fl88_0 rfl hb2.cells) ?_
        refine WL.pure rfl rfl rfl (PV.load1 T.na2 rfl hb2.cells (Ext.refl _) rfl) ?_
        refine WL.pure rfl rfl rfl (PV.mulW rfl rfl) ?_
        refine WL.pure rfl rfl rfl (PV.fieldAddr T.fl178_1 rfl hb14.cells) ?_
        refine WL.pure rfl rfl rfl (PV.load1 T.na2 rfl hb14.cells (Ext.refl _) rfl) ?_
        refine WL.pure rfl rfl rfl (PV.addW rfl rfl) ?_
        refine WL.pure rfl rfl rfl (PV.fieldAddr T.fl178_2 rfl hb10.cells) ?_
        refine WL.pure rfl rfl rfl (PV.load1 T.na2 rfl hb10.cells (Ext.refl _) rfl) ?_
        refine WL.pure rfl rfl rfl (PV.fieldAddr T.fl178_3 rfl hb14.cells) ?_
        refine WL.pure rfl rfl rfl (PV.load1 T.na2 rfl hb14.cells (Ext.refl _) rfl) ?_
        refine WL.pure rfl rfl rfl (PV.build (ks := [0, 1, 2, 3]) (os := [.tmp 86, .tmp 94, .tmp 96, .tmp 98]) (css := [[_], [_], [_], [_]]) (ds := [_, _, _, _]) T.bu178 rfl rfl ⟨rfl, rfl, rfl, rfl, trivial⟩ rfl) ?_
        refine WL.op rfl (OpK.build4 (os := [.tmp 99]) rfl T.sl86 rfl rfl T.zv178 rfl rfl (fun v15 g15 w16 hXw16 ho15 hge15 => ?_))
        have hl15 := Lo.new hB hge15
        have hd1_15 := Dj.new hb1.ltO hge15
        have hd2_15 := Dj.new hb2.ltO hge15
        have hd3_15 := Dj.new hb3.ltO hge15
        have hd4_15 := Dj.new hb4.ltO hge15
        have hd10_15 := Dj.new hb10.ltO hge15
        have hd11_15 := Dj.new ho11.ltO hge15
        have hd12_15 := Dj.new ho12.ltO hge15
        have hd14_15 := Dj.new hb14.ltO hge15
        have hk0_15 := OkN.new hU0 hge15
        have hg0_15 := OgR.new hU0.size hge15
        have hk1_15 := OkN.new hU1 hge15
        have hg1_15 := OgR.new hU1.size hge15
        have hB := hB.trans hXw16
        have hb1 := hb1.up hXw16
        have hb2 := hb2.up hXw16
        have hb3 := hb3.up hXw16
        have hb4 := hb4.up hXw16
        have hb10 := hb10.up hXw16
        have ho11 := ho11.up hXw16
        have ho12 := ho12.up hXw16
        have hb14 := hb14.up hXw16
        have hU0 := hU0.ext hXw16
        have hU1 := hU1.ext hXw16
        refine WL.op rfl (OpK.appendN (g := gR) rfl T.sl86 T.zv178 rfl rfl ho11 rfl (Osn.src ho15) (by first | (simp only [List.length_cons, List.length_nil]; omega) | (simp_all; omega)) (fun v16 og16 w17 hXw17 ho16 hap16 => ?_))
        have hl16 := Lo.app hl11 hB hap16
        have hd1_16 := Dj.app hd1_11 hb1.ltO hap16
        have hd2_16 := Dj.app hd2_11 hb2.ltO hap16
        have hd3_16 := Dj.app hd3_11 hb3.ltO hap16
        have hd4_16 := Dj.app hd4_11 hb4.ltO hap16
        have hd10_16 := Dj.app hd10_11 hb10.ltO hap16
        have hd12_16 := Dj.app (Dj.symm hd11_12) ho12.ltO hap16
        have hd14_16 := Dj.app (Dj.symm hd11_14) hb14.ltO hap16
        have hd15_16 := Dj.app (Dj.symm hd11_15) ho15.ltO hap16
        have hk0_16 := OkN.app hU0 hk0_11 hap16
        have hg0_16 := OgR.app hg0_11 hU0.size hap16
        have hk1_16 := OkN.app hU1 hk1_11 hap16
        have hg1_16 := OgR.app hg1_11 hU1.size hap16
        have hB := hB.updL hXw17 hl11
        have hb1 := hb1.updD hXw17 hd1_11
        have hb2 := hb2.updD hXw17 hd2_11
        have hb3 := hb3.updD hXw17 hd3_11
        have hb4 := hb4.updD hXw17 hd4_11
        have hb10 := hb10.updD hXw17 hd10_11
        have ho12 := ho12.updD hXw17 (Dj.symm hd11_12)
        have hb14 := hb14.updD hXw17 (Dj.symm hd11_14)
        have ho15 := ho15.updD hXw17 (Dj.symm hd11_15)
        have hU0 := hU0.step hXw17 hk0_11
        have hU1 := hU1.step hXw17 hk1_11
        refine WL.pure rfl rfl rfl (PV.fieldAddr T.fl88_2 rfl hb4.cells) ?_
        refine WL.op rfl (OpK.storeB T.sz86 rfl rfl (by first | rfl | exact Inn.one1 (by assumption) (by omega) | exact Osl.oneCell (by assumption) | exact Osn.oneCell (by assumption) | exact Rd.oneCell (by assumption) | exact Rd.oneCell (NL.rd (by assumption)) | assumption) hb4 rfl (fun w18 hXw18 hb4 => ?_))
        have hB := hB.updL hXw18 hl4
        have hb1 := hb1.updD hXw18 hd1_4
        have hb2 := hb2.updD hXw18 hd2_4
        have hb3 := hb3.updD hXw18 hd3_4
        have hb10 := hb10.updD hXw18 (Dj.symm hd4_10)
        have ho12 := ho12.updD hXw18 (Dj.symm hd4_12)
        have hb14 := hb14.updD hXw18 (Dj.symm hd4_14)
        have ho15 := ho15.updD hXw18 (Dj.symm hd4_15)
        have ho16 := ho16.updD hXw18 (Dj.symm hd4_16)
        have hU0 := hU0.step hXw18 hk0_4
        have hU1 := hU1.step hXw18 hk1_4
        refine WL.nil ?_
        refine NQ.block ?_
        refine NQ.then ?_
        refine CW.reg ?_
        refine WL.pure rfl rfl rfl (PV.add rfl rfl (by constructor <;> omega)) ?_
        refine WL.mv rfl rfl ?_
        refine WL.nil ?_
        refine NQ.next (ρ := [(63, _)]) ⟨rfl, rfl, rfl, rfl, rfl, rfl, rfl, rfl, rfl, rfl, rfl, trivial⟩ ?_
        exact ⟨_, ⟨v16, og16, v12, og12, k + 1, rfl, rfl, hU1, osnE ho16 (by first | exact rowF_put (onF_yes (by omega) rfl) | exact rowF_none (onF_no (by omega))), (by first | exact hg1_16 | exact OgR.weak hg1_16), osE ho12 (by first | rfl | (simp_all; done) | (simp_all; omega)), (by first | exact hg1_12 | exact OgR.weak hg1_12), bxE hb4 (by first | rfl | (simp_all; done) | (simp_all; omega)), (Dj.symm hd12_16), (by first | omega | assumption | (simp_all; done) | (simp_all; omega))⟩, by omega⟩
      try simp only [nq] at hc8
      refine CW.skip ?_
      refine NQ.block ?_
      refine NQ.then ?_
      refine CW.reg ?_
      refine WL.pure rfl rfl rfl (PV.add rfl rfl (by constructor <;> omega)) ?_
      refine WL.mv rfl rfl ?_
      refine WL.nil ?_
      refine NQ.next (ρ := [(63, _)]) ⟨rfl, rfl, rfl, rfl, rfl, rfl, rfl, rfl, rfl, rfl, rfl, trivial⟩ ?_
      exact ⟨_, ⟨v11, og11, v12, og12, k + 1, rfl, rfl, hU1, osnE ho11 (by first | exact rowF_put (onF_yes (by omega) rfl) | exact rowF_none (onF_no (by omega))), (by first | exact hg1_11 | exact OgR.weak hg1_11), osE ho12 (by first | rfl | (simp_all; done) | (simp_all; omega)), (by first | exact hg1_12 | exact OgR.weak hg1_12), bxE hb4 (by first | rfl | (simp_all; done) | (simp_all; omega)), hd11_12, (by first | omega | assumption | (simp_all; done) | (simp_all; omega))⟩, by omega⟩
    try simp only [nq] at hc6
    refine CW.exit ?_
    refine XQ.then ?_
    refine XQ.then ?_
    refine XQ.here ?_
    refine NQ.block ?_
    refine NQ.then ?_
    refine CW.reg ?_
    refine WL.pure rfl rfl rfl (PV.add rfl rfl (by constructor <;> omega)) ?_
    refine WL.mv rfl rfl ?_
    refine WL.nil ?_
    refine NQ.next (ρ := [(56, _)]) ⟨rfl, rfl, rfl, rfl, rfl, rfl, rfl, trivial⟩ ?_
    exact ⟨_, ⟨v11, og11, v12, og12, i + 1, rfl, rfl, hU0, osnE ho11 (by exact dblF_succ (by omega)), (by first | exact hg0_11 | exact OgR.weak hg0_11), osE ho12 (by first | rfl | (simp_all; done) | (simp_all; omega)), (by first | exact hg0_12 | exact OgR.weak hg0_12), bxE hb4 (by first | rfl | (simp_all; done) | (simp_all; omega)), hd11_12, (by first | omega | assumption | (simp_all; done) | (simp_all; omega))⟩, by omega⟩
  try simp only [nq] at hc5
  refine CW.exit ?_
  refine XQ.then ?_
  refine XQ.then ?_
  refine XQ.here ?_
  refine NQ.then ?_
  refine CW.seq ?_
  refine CW.seq ?_
  refine CW.reg ?_
  refine WL.pure rfl rfl rfl (PV.fieldAddr T.fl88_2 rfl hb1.cells) ?_
  refine WL.pure rfl rfl rfl (PV.load1 T.na86 rfl hb1.cells (Ext.refl _) rfl) ?_
  refine WL.pure rfl rfl rfl ((by first | exact PV.len rfl (by assumption) T.sl86 | exact PV.lenOs rfl (by assumption) T.sl86 | exact PV.len rfl (NL.rd (by assumption)) T.sl86 | exact PV.len rfl (Inn.rd (by assumption) (by omega)) T.sl86)) ?_
  refine WL.mv rfl rfl ?_
  refine WL.nilS ?_
  refine CW.block ?_
  have hlt1 := hb1.ltO
  have hlt2 := hb2.ltO
  have hlt3 := hb3.ltO
  have hlt4 := hb4.ltO
  have hlt7 := ho7.ltO
  have hlt8 := ho8.ltO
  refine CW.loop (σk := [(2, _), (3, _), (4, _), (6, _), (106, _), (107, _)]) (fun ρ wz m => ∃ (v17 : Value) (og17 : Option Nat) (v18 : Value) (og18 : Option Nat) (i : Nat), ρ = [(108, .int .i64 (i : Nat))] ∧ m = xa2.length - i ∧ UpdL [og7, og8, (some b4.block)] wl1 wz ∧ Osn 4 gR wz og17 v17 ((cA y0 xa2 xy2) ++ dblF (ch2 y0 xa2) y0.toNat i) ∧ OgR wl1 og7 og17 ∧ Osl VB wz og18 v18 (([] : List Bool)) ∧ OgR wl1 og8 og18 ∧ Bx wz b4 [.int .i64 (wI (a0 * y0)), .int .i64 a1, v17, v18] ∧ Dj og17 og18 ∧ (i ≤ xa2.length)) (ρ₀ := [(108, _)]) (m₀ := _) ⟨rfl, rfl, rfl, rfl, rfl, rfl, rfl, trivial⟩ ⟨v7, og7, v8, og8, 0, rfl, rfl, (UpdL.refl _ _), osnE ho7 (by rw [show i = xa2.length from (by omega)]; exact dblF_zero _ _ _), OgR.refl _ _, osE ho8 (by rfl), OgR.refl _ _, bxE hb4 (by first | rfl | (simp_all; done) | (simp_all; omega)), hd7_8, (by first | omega | rfl | (simp; done) | assumption | (simp_all; done))⟩ ?_
  rintro _ wl3 _ ⟨v17, og17, v18, og18, i, rfl, rfl, hU2, ho17, ha17, ho18, ha18, hb4, hd17_18, hi⟩
  have hb1 := hb1.loop hU2 ⟨hd1_7, hd1_8, hd1_4, trivial⟩
  have hb2 := hb2.loop hU2 ⟨hd2_7, hd2_8, hd2_4, trivial⟩
  have hb3 := hb3.loop hU2 ⟨hd3_7, hd3_8, hd3_4, trivial⟩
  have hl17 := Lo.ogr hl7 hB ha17
  have hg2_17 := ha17
  have hk2_17 : OkB [og7, og8, (some b4.block)] wl1 og17 := OkB.ogr (OkB.mem (by simp)) (Nat.le_refl _) ha17
  have hd1_17 := Dj.ogr hd1_7 hlt1 ha17
  have hd2_17 := Dj.ogr hd2_7 hlt2 ha17
  have hd3_17 := Dj.ogr hd3_7 hlt3 ha17
  have hd4_17 := Dj.ogr hd4_7 hlt4 ha17
  have hl18 := Lo.ogr hl8 hB ha18
  have hg2_18 := ha18
  have hk2_18 : OkB [og7, og8, (some b4.block)] wl1 og18 := OkB.ogr (OkB.mem (by simp)) (Nat.le_refl _) ha18
  have hd1_18 := Dj.ogr hd1_8 hlt1 ha18
  have hd2_18 := Dj.ogr hd2_8 hlt2 ha18
  have hd3_18 := Dj.ogr hd3_8 hlt3 ha18
  have hd4_18 := Dj.ogr hd4_8 hlt4 ha18
  have hk2_4 : OkB [og7, og8, (some b4.block)] wl1 (some b4.block) := OkB.mem (by simp)
  have hB := hB.loop hU2 ⟨hl7, hl8, hl4, trivial⟩
  refine CW.seq ?_
  refine CW.reg ?_
  refine WL.pure rfl rfl rfl (PV.lss rfl rfl) ?_
  refine WL.nilS ?_
  refine CW.seq ?_
  refine CW.cond rfl (fun hc9 => ?_) (fun hc9 => ?_)
  · skip
    try simp only [nq] at hc9
    refine CW.skipS ?_
    refine CW.seq ?_
    refine CW.block ?_
    refine CW.seq ?_
    refine CW.reg ?_
    first
      | refine WL.at (x := .tmp 106) (y := .tmp 108) (E := ER) ((0, 0, 0, 0)) rfl rfl (by first | assumption | exact Inn.rd (by assumption) (by omega)) (by first | omega | (simp only [List.length_set]; omega) | (simp only [List.length_append, List.length_take, List.length_replicate, List.length_drop]; omega)) (fun p3 csp3 hpp3 hcp3 hq => ?_)
      | refine WL.atZ (x := .tmp 106) (y := .tmp 108) (E := ER) ((0, 0, 0, 0)) rfl rfl (by first | assumption | exact Inn.rd (by assumption) (by omega)) (by first | omega | (simp only [List.length_set]; omega) | (simp only [List.length_append, List.length_take, List.length_replicate, List.length_drop]; omega)) (fun p3 csp3 hpp3 hzp3 hcp3 hq => ?_)
    cases hq
    refine WL.pure rfl rfl rfl ((by first | exact PV.indexAddr hpp3 rfl rfl T.sl86 | exact PV.indexAddr hpp3 rfl (by rw [← hzp3]; rfl) T.sl86)) ?_
    refine WL.pure rfl rfl rfl ((by first | exact PV.loadA T.ag178 rfl (by first | exact Cells.up (by assumption) hB | exact Bx.cells (by assumption) | assumption) (Ext.refl _) rfl | exact PV.loadP (ds := [_, _, _, _]) T.ag178 rfl (by first | exact Cells.up (by assumption) hB | exact Bx.cells (by assumption) | assumption) (Ext.refl _) rfl rfl)) ?_
    refine WL.op rfl (OpK.alloc rfl T.zv178 rfl (fun b20 w19 hXw19 hb20 hge20 => ?_))
    have hl20 := Lo.new hB hge20
    have hd1_20 := Dj.new hb1.ltO hge20
    have hd2_20 := Dj.new hb2.ltO hge20
    have hd3_20 := Dj.new hb3.ltO hge20
    have hd4_20 := Dj.new hb4.ltO hge20
    have hd17_20 := Dj.new ho17.ltO hge20
    have hd18_20 := Dj.new ho18.ltO hge20
    have hk2_20 := OkN.new hU2 hge20
    have hg2_20 := OgR.new hU2.size hge20
    have hB := hB.trans hXw19
    have hb1 := hb1.up hXw19
    have hb2 := hb2.up hXw19
    have hb3 := hb3.up hXw19
    have hb4 := hb4.up hXw19
    have ho17 := ho17.up hXw19
    have ho18 := ho18.up hXw19
    have hU2 := hU2.ext hXw19
    refine WL.op rfl (OpK.storeA T.sz178 rfl rfl rfl rfl (by simp [Value.oneCell'] <;> first | done | (repeat' apply And.intro) <;> first | rfl | exact Inn.one1 (by assumption) (by omega) | exact Osl.oneCell (by assumption) | exact Osn.oneCell (by assumption) | exact Rd.oneCell (by assumption) | exact Rd.oneCell (NL.rd (by assumption)) | assumption) hb20 (fun w20 hXw20 hb20 => ?_))
    have hB := hB.updL hXw20 hl20
    have hb1 := hb1.updD hXw20 hd1_20
    have hb2 := hb2.updD hXw20 hd2_20
    have hb3 := hb3.updD hXw20 hd3_20
    have hb4 := hb4.updD hXw20 hd4_20
    have ho17 := ho17.updD hXw20 hd17_20
    have ho18 := ho18.updD hXw20 hd18_20
    have hU2 := hU2.step hXw20 hk2_20
    refine WL.nilS ?_
    refine CW.seq ?_
    refine CW.reg ?_
    refine WL.pure rfl rfl rfl (PV.fieldAddr T.fl88_0 rfl hb2.cells) ?_
    refine WL.pure rfl rfl rfl (PV.load1 T.na2 rfl hb2.cells (Ext.refl _) rfl) ?_
    refine WL.mv rfl rfl ?_
    refine WL.nilS ?_
    refine CW.block ?_
    have hlt1 := hb1.ltO
    have hlt2 := hb2.ltO
    have hlt3 := hb3.ltO
    have hlt4 := hb4.ltO
    have hlt17 := ho17.ltO
    have hlt18 := ho18.ltO
    have hlt20 := hb20.ltO
    refine CW.loop (σk := [(2, _), (3, _), (4, _), (6, _), (12, _), (106, _), (107, _), (108, _), (113, _)]) (fun ρ wz m => ∃ (v21 : Value) (og21 : Option Nat) (v22 : Value) (og22 : Option Nat) (k : Nat), ρ = [(114, .int .i64 (k : Nat))] ∧ m = y0.toNat - k ∧ UpdL [og17, og18, (some b4.block)] w20 wz ∧ Osn 4 gR wz og21 v21 ((cA y0 xa2 xy2) ++ dblF (ch2 y0 xa2) y0.toNat i ++ rowF (ch2 y0 xa2) i k) ∧ OgR w20 og17 og21 ∧ Osl VB wz og22 v22 (([] : List Bool)) ∧ OgR w20 og18 og22 ∧ Bx wz b4 [.int .i64 (wI (a0 * y0)), .int .i64 a1, v21, v22] ∧ Dj og21 og22 ∧ (k ≤ y0.toNat)) (ρ₀ := [(114, _)]) (m₀ := _) ⟨rfl, rfl, rfl, rfl, rfl, rfl, rfl, rfl, rfl, rfl, trivial⟩ ⟨v17, og17, v18, og18, 0, rfl, rfl, (UpdL.refl _ _), osnE ho17 (by exact rowF_zero _ _ _), OgR.refl _ _, osE ho18 (by rfl), OgR.refl _ _, bxE hb4 (by first | rfl | (simp_all; done) | (simp_all; omega)), hd17_18, (by first | omega | rfl | (simp; done) | assumption | (simp_all; done))⟩ ?_
    rintro _ wl4 _ ⟨v21, og21, v22, og22, k, rfl, rfl, hU3, ho21, ha21, ho22, ha22, hb4, hd21_22, hk⟩
    have hU2 := hU2.trans hU3 ⟨hk2_17, hk2_18, hk2_4, trivial⟩
    have hb1 := hb1.loop hU3 ⟨hd1_17, hd1_18, hd1_4, trivial⟩
    have hb2 := hb2.loop hU3 ⟨hd2_17, hd2_18, hd2_4, trivial⟩
    have hb3 := hb3.loop hU3 ⟨hd3_17, hd3_18, hd3_4, trivial⟩
    have hb20 := hb20.loop hU3 ⟨(Dj.symm hd17_20), (Dj.symm hd18_20), (Dj.symm hd4_20), trivial⟩
    have hl21 := Lo.ogr hl17 hB ha21
    have hg3_21 := ha21
    have hk3_21 : OkB [og17, og18, (some b4.block)] w20 og21 := OkB.ogr (OkB.mem (by simp)) (Nat.le_refl _) ha21
    have hk2_21 := OkB.ogr hk2_17 (by first | assumption | exact UpdL.size (by assumption)) ha21
    have hg2_21 := OgR.trans hg2_17 (by first | assumption | exact UpdL.size (by assumption)) ha21
    have hd1_21 := Dj.ogr hd1_17 hlt1 ha21
    have hd2_21 := Dj.ogr hd2_17 hlt2 ha21
    have hd3_21 := Dj.ogr hd3_17 hlt3 ha21
    have hd4_21 := Dj.ogr hd4_17 hlt4 ha21
    have hd20_21 := Dj.ogr (Dj.symm hd17_20) hlt20 ha21
    have hl22 := Lo.ogr hl18 hB ha22
    have hg3_22 := ha22
    have hk3_22 : OkB [og17, og18, (some b4.block)] w20 og22 := OkB.ogr (OkB.mem (by simp)) (Nat.le_refl _) ha22
    have hk2_22 := OkB.ogr hk2_18 (by first | assumption | exact UpdL.size (by assumption)) ha22
    have hg2_22 := OgR.trans hg2_18 (by first | assumption | exact UpdL.size (by assumption)) ha22
    have hd1_22 := Dj.ogr hd1_18 hlt1 ha22
    have hd2_22 := Dj.ogr hd2_18 hlt2 ha22
    have hd3_22 := Dj.ogr hd3_18 hlt3 ha22
    have hd4_22 := Dj.ogr hd4_18 hlt4 ha22
    have hd20_22 := Dj.ogr (Dj.symm hd18_20) hlt20 ha22
    have hk3_4 : OkB [og17, og18, (some b4.block)] w20 (some b4.block) := OkB.mem (by simp)
    have hB := hB.loop hU3 ⟨hl17, hl18, hl4, trivial⟩
    have r1 := rowF_len (ch2_len y0 xa2) i k; have r2 := dblF_le (ch2_len y0 xa2) (m := y0.toNat) (i := i) (M := 8) (I := 48) (by omega) (by omega); have hal : ((cA y0 xa2 xy2) ++ dblF (ch2 y0 xa2) y0.toNat i ++ rowF (ch2 y0 xa2) i k).length ≤ 6000 := (by simp only [List.length_append, List.length_nil]; omega)
    refine CW.seq ?_
    refine CW.reg ?_
    refine WL.pure rfl rfl rfl (PV.lss rfl rfl) ?_
    refine WL.nilS ?_
    refine CW.seq ?_
    refine CW.cond rfl (fun hc10 => ?_) (fun hc10 => ?_)
    · skip
      try simp only [nq] at hc10
      refine CW.skipS ?_
      refine CW.seq ?_
      refine CW.block ?_
      refine CW.seq ?_
      refine CW.reg ?_
      refine WL.mv rfl rfl ?_
      refine WL.asg rfl rfl ?_
      refine WL.nilS ?_
      refine CW.seq ?_
      refine CW.reg ?_
      refine WL.pure rfl rfl rfl (PV.fieldAddr T.fl178_3 rfl hb20.cells) ?_
      refine WL.pure rfl rfl rfl (PV.load1 T.na2 rfl hb20.cells (Ext.refl _) rfl) ?_
      refine WL.pure rfl rfl rfl (PV.lss rfl rfl) ?_
      refine WL.nilS ?_
      refine CW.cond rfl (fun hc11 => ?_) (fun hc11 => ?_)
      · skip
        try simp only [nq] at hc11
        refine CW.reg ?_
        refine WL.pure rfl rfl rfl (PV.fieldAddr T.fl88_2 rfl hb4.cells) ?_
        refine WL.pure rfl rfl rfl (PV.load1 T.na86 rfl hb4.cells (Ext.refl _) rfl) ?_
        refine WL.pure rfl rfl rfl (PV.fieldAddr T.fl178_0 rfl hb20.cells) ?_
        refine WL.pure rfl rfl rfl (PV.load1 T.na2 rfl hb20.cells (Ext.refl _) rfl) ?_
        refine WL.pure rfl rfl rfl (PV.fieldAddr T.fl88_0 rfl hb2.cells) ?_
        refine WL.pure rfl rfl rfl (PV.load1 T.na2 rfl hb2.cells (Ext.refl _) rfl) ?_
        refine WL.pure rfl rfl rfl (PV.mulW rfl rfl) ?_
        refine WL.mv rfl rfl ?_
        refine WL.pure rfl rfl rfl (PV.addW rfl rfl) ?_
        refine WL.pure rfl rfl rfl (PV.fieldAddr T.fl178_1 rfl hb20.cells) ?_
        refine WL.pure rfl rfl rfl (PV.load1 T.na2 rfl hb20.cells (Ext.refl _) rfl) ?_
        refine WL.pure rfl rfl rfl (PV.fieldAddr T.fl88_0 rfl hb2.cells) ?_
        refine WL.pure rfl rfl rfl (PV.load1 T.na2 rfl hb2.cells (Ext.refl _) rfl) ?_
        refine WL.pure rfl rfl rfl (PV.mulW rfl rfl) ?_
        refine WL.mv rfl rfl ?_
        refine WL.pure rfl rfl rfl (PV.addW rfl rfl) ?_
        refine WL.pure rfl rfl rfl (PV.fieldAddr T.fl178_2 rfl hb20.cells) ?_
        refine WL.pure rfl rfl rfl (PV.load1 T.na2 rfl hb20.cells (Ext.refl _) rfl) ?_
        refine WL.pure rfl rfl rfl (PV.build (ks := [0, 1, 2, 3]) (os := [.tmp 128, .tmp 135, .tmp 137, .const (.int .i64 (-1))]) (css := [[_], [_], [_], [_]]) (ds := [_, _, _, _]) T.bu178 rfl rfl ⟨rfl, rfl, rfl, rfl, trivial⟩ rfl) ?_
        refine WL.op rfl (OpK.build4 (os := [.tmp 138]) rfl T.sl86 rfl rfl T.zv178 rfl rfl (fun v24 g24 w21 hXw21 ho24 hge24 => ?_))
        have hl24 := Lo.new hB hge24
        have hd1_24 := Dj.new hb1.ltO hge24
        have hd2_24 := Dj.new hb2.ltO hge24
        have hd3_24 := Dj.new hb3.ltO hge24
        have hd4_24 := Dj.new hb4.ltO hge24
        have hd20_24 := Dj.new hb20.ltO hge24
        have hd21_24 := Dj.new ho21.ltO hge24
        have hd22_24 := Dj.new ho22.ltO hge24
        have hk2_24 := OkN.new hU2 hge24
        have hg2_24 := OgR.new hU2.size hge24
        have hk3_24 := OkN.new hU3 hge24
        have hg3_24 := OgR.new hU3.size hge24
        have hB := hB.trans hXw21
        have hb1 := hb1.up hXw21
        have hb2 := hb2.up hXw21
        have hb3 := hb3.up hXw21
        have hb4 := hb4.up hXw21
        have hb20 := hb20.up hXw21
        have ho21 := ho21.up hXw21
        have ho22 := ho22.up hXw21
        have hU2 := hU2.ext hXw21
        have hU3 := hU3.ext hXw21
        refine WL.op rfl (OpK.appendN (g := gR) rfl T.sl86 T.zv178 rfl rfl ho21 rfl (Osn.src ho24) (by first | (simp only [List.length_cons, List.length_nil]; omega) | (simp_all; omega)) (fun v25 og25 w22 hXw22 ho25 hap25 => ?_))
        have hl25 := Lo.app hl21 hB hap25
        have hd1_25 := Dj.app hd1_21 hb1.ltO hap25
        have hd2_25 := Dj.app hd2_21 hb2.ltO hap25
        have hd3_25 := Dj.app hd3_21 hb3.ltO hap25
        have hd4_25 := Dj.app hd4_21 hb4.ltO hap25
        have hd20_25 := Dj.app hd20_21 hb20.ltO hap25
        have hd22_25 := Dj.app (Dj.symm hd21_22) ho22.ltO hap25
        have hd24_25 := Dj.app (Dj.symm hd21_24) ho24.ltO hap25
        have hk2_25 := OkN.app hU2 hk2_21 hap25
        have hg2_25 := OgR.app hg2_21 hU2.size hap25
        have hk3_25 := OkN.app hU3 hk3_21 hap25
        have hg3_25 := OgR.app hg3_21 hU3.size hap25
        have hB := hB.updL hXw22 hl21
        have hb1 := hb1.updD hXw22 hd1_21
        have hb2 := hb2.updD hXw22 hd2_21
        have hb3 := hb3.updD hXw22 hd3_21
        have hb4 := hb4.updD hXw22 hd4_21
        have hb20 := hb20.updD hXw22 hd20_21
        have ho22 := ho22.updD hXw22 (Dj.symm hd21_22)
        have ho24 := ho24.updD hXw22 (Dj.symm hd21_24)
        have hU2 := hU2.step hXw22 hk2_21
        have hU3 := hU3.step hXw22 hk3_21
        refine WL.pure rfl rfl rfl (PV.fieldAddr T.fl88_2 rfl hb4.cells) ?_
        refine WL.op rfl (OpK.storeB T.sz86 rfl rfl (by first | rfl | exact Inn.one1 (by assumption) (by omega) | exact Osl.oneCell (by assumption) | exact Osn.oneCell (by assumption) | exact Rd.oneCell (by assumption) | exact Rd.oneCell (NL.rd (by assumption)) | assumption) hb4 rfl (fun w23 hXw23 hb4 => ?_))
        have hB := hB.updL hXw23 hl4
        have hb1 := hb1.updD hXw23 hd1_4
        have hb2 := hb2.updD hXw23 hd2_4
        have hb3 := hb3.updD hXw23 hd3_4
        have hb20 := hb20.updD hXw23 (Dj.symm hd4_20)
        have ho22 := ho22.updD hXw23 (Dj.symm hd4_22)
        have ho24 := ho24.updD hXw23 (Dj.symm hd4_24)
        have ho25 := ho25.updD hXw23 (Dj.symm hd4_25)
        have hU2 := hU2.step hXw23 hk2_4
        have hU3 := hU3.step hXw23 hk3_4
        refine WL.nil ?_
        refine NQ.block ?_
        refine NQ.then ?_
        refine CW.reg ?_
        refine WL.pure rfl rfl rfl (PV.add rfl rfl (by constructor <;> omega)) ?_
        refine WL.mv rfl rfl ?_
        refine WL.nil ?_
        refine NQ.next (ρ := [(114, _)]) ⟨rfl, rfl, rfl, rfl, rfl, rfl, rfl, rfl, rfl, rfl, trivial⟩ ?_
        exact ⟨_, ⟨v25, og25, v22, og22, k + 1, rfl, rfl, hU3, osnE ho25 (by first | exact rowF_put (onF_yes (by omega) rfl) | exact rowF_none (onF_no (by omega))), (by first | exact hg3_25 | exact OgR.weak hg3_25), osE ho22 (by first | rfl | (simp_all; done) | (simp_all; omega)), (by first | exact hg3_22 | exact OgR.weak hg3_22), bxE hb4 (by first | rfl | (simp_all; done) | (simp_all; omega)), (Dj.symm hd22_25), (by first | omega | assumption | (simp_all; done) | (simp_all; omega))⟩, by omega⟩
      try simp only [nq] at hc11
      refine CW.skip ?_
      refine NQ.block ?_
      refine NQ.then ?_
      refine CW.reg ?_
      refine WL.pure rfl rfl rfl (PV.add rfl rfl (by constructor <;> omega)) ?_
      refine WL.mv rfl rfl ?_
      refine WL.nil ?_
      refine NQ.next (ρ := [(114, _)]) ⟨rfl, rfl, rfl, rfl, rfl, rfl, rfl, rfl, rfl, rfl, trivial⟩ ?_
      exact ⟨_, ⟨v21, og21, v22, og22, k + 1, rfl, rfl, hU3, osnE ho21 (by first | exact rowF_put (onF_yes (by omega) rfl) | exact rowF_none (onF_no (by omega))), (by first | exact hg3_21 | exact OgR.weak hg3_21), osE ho22 (by first | rfl | (simp_all; done) | (simp_all; omega)), (by first | exact hg3_22 | exact OgR.weak hg3_22), bxE hb4 (by first | rfl | (simp_all; done) | (simp_all; omega)), hd21_22, (by first | omega | assumption | (simp_all; done) | (simp_all; omega))⟩, by omega⟩
    try simp only [nq] at hc10
    refine CW.exit ?_
    refine XQ.then ?_
    refine XQ.then ?_
    refine XQ.here ?_
    refine NQ.block ?_
    refine NQ.then ?_
    refine CW.reg ?_
    refine WL.pure rfl rfl rfl (PV.add rfl rfl (by constructor <;> omega)) ?_
    refine WL.mv rfl rfl ?_
    refine WL.nil ?_
    refine NQ.next (ρ := [(108, _)]) ⟨rfl, rfl, rfl, rfl, rfl, rfl, rfl, trivial⟩ ?_
    exact ⟨_, ⟨v21, og21, v22, og22, i + 1, rfl, rfl, hU2, osnE ho21 (by exact dblF_succ (by omega)), (by first | exact hg2_21 | exact OgR.weak hg2_21), osE ho22 (by first | rfl | (simp_all; done) | (simp_all; omega)), (by first | exact hg2_22 | exact OgR.weak hg2_22), bxE hb4 (by first | rfl | (simp_all; done) | (simp_all; omega)), hd21_22, (by first | omega | assumption | (simp_all; done) | (simp_all; omega))⟩, by omega⟩
  try simp only [nq] at hc9
  refine CW.exit ?_
  refine XQ.then ?_
  refine XQ.then ?_
  refine XQ.here ?_
  refine NQ.then ?_
  refine CW.seq ?_
  refine CW.seq ?_
  refine CW.reg ?_
  refine WL.pure rfl rfl rfl (PV.fieldAddr T.fl88_0 rfl hb1.cells) ?_
  refine WL.pure rfl rfl rfl (PV.load1 T.na2 rfl hb1.cells (Ext.refl _) rfl) ?_
  refine WL.mv rfl rfl ?_
  refine WL.nilS ?_
  refine CW.block ?_
  have hlt1 := hb1.ltO
  have hlt2 := hb2.ltO
  have hlt3 := hb3.ltO
  have hlt4 := hb4.ltO
  have hlt17 := ho17.ltO
  have hlt18 := ho18.ltO
  refine CW.loop (σk := [(2, _), (3, _), (4, _), (6, _), (145, _)]) (fun ρ wz m => ∃ (v26 : Value) (og26 : Option Nat) (v27 : Value) (og27 : Option Nat) (i : Nat), ρ = [(146, .int .i64 (i : Nat))] ∧ m = a0.toNat - i ∧ UpdL [og17, og18, (some b4.block)] wl3 wz ∧ Osn 4 gR wz og26 v26 ((cB y0 xa2 xy2) ++ dblF (ch3 y0 xy2) xy2.length i) ∧ OgR wl3 og17 og26 ∧ Osl VB wz og27 v27 (([] : List Bool)) ∧ OgR wl3 og18 og27 ∧ Bx wz b4 [.int .i64 (wI (a0 * y0)), .int .i64 a1, v26, v27] ∧ Dj og26 og27 ∧ (i ≤ a0.toNat)) (ρ₀ := [(146, _)]) (m₀ := _) ⟨rfl, rfl, rfl, rfl, rfl, rfl, trivial⟩ ⟨v17, og17, v18, og18, 0, rfl, rfl, (UpdL.refl _ _), osnE ho17 (by rw [show i = xa2.length from (by omega)]; exact dblF_zero _ _ _), OgR.refl _ _, osE ho18 (by rfl), OgR.refl _ _, bxE hb4 (by first | rfl | (simp_all; done) | (simp_all; omega)), hd17_18, (by first | omega | rfl | (simp; done) | assumption | (simp_all; done))⟩ ?_
  rintro _ wl5 _ ⟨v26, og26, v27, og27, i, rfl, rfl, hU4, ho26, ha26, ho27, ha27, hb4, hd26_27, hi⟩
  have hb1 := hb1.loop hU4 ⟨hd1_17, hd1_18, hd1_4, trivial⟩
  have hb2 := hb2.loop hU4 ⟨hd2_17, hd2_18, hd2_4, trivial⟩
  have hb3 := hb3.loop hU4 ⟨hd3_17, hd3_18, hd3_4, trivial⟩
  have hl26 := Lo.ogr hl17 hB ha26
  have hg4_26 := ha26
  have hk4_26 : OkB [og17, og18, (some b4.block)] wl3 og26 := OkB.ogr (OkB.mem (by simp)) (Nat.le_refl _) ha26
  have hd1_26 := Dj.ogr hd1_17 hlt1 ha26
  have hd2_26 := Dj.ogr hd2_17 hlt2 ha26
  have hd3_26 := Dj.ogr hd3_17 hlt3 ha26
  have hd4_26 := Dj.ogr hd4_17 hlt4 ha26
  have hl27 := Lo.ogr hl18 hB ha27
  have hg4_27 := ha27
  have hk4_27 : OkB [og17, og18, (some b4.block)] wl3 og27 := OkB.ogr (OkB.mem (by simp)) (Nat.le_refl _) ha27
  have hd1_27 := Dj.ogr hd1_18 hlt1 ha27
  have hd2_27 := Dj.ogr hd2_18 hlt2 ha27
  have hd3_27 := Dj.ogr hd3_18 hlt3 ha27
  have hd4_27 := Dj.ogr hd4_18 hlt4 ha27
  have hk4_4 : OkB [og17, og18, (some b4.block)] wl3 (some b4.block) := OkB.mem (by simp)
  have hB := hB.loop hU4 ⟨hl17, hl18, hl4, trivial⟩
  refine CW.seq ?_
  refine CW.reg ?_
  refine WL.pure rfl rfl rfl (PV.lss rfl rfl) ?_
  refine WL.nilS ?_
  refine CW.seq ?_
  refine CW.cond rfl (fun hc12 => ?_) (fun hc12 => ?_)
  · skip
    try simp only [nq] at hc12
    refine CW.skipS ?_
    refine CW.seq ?_
    refine CW.block ?_
    refine CW.seq ?_
    refine CW.reg ?_
    refine WL.mv rfl rfl ?_
    refine WL.asg rfl rfl ?_
    refine WL.nilS ?_
    refine CW.seq ?_
    refine CW.reg ?_
    refine WL.pure rfl rfl rfl (PV.fieldAddr T.fl88_2 rfl hb2.cells) ?_
    refine WL.pure rfl rfl rfl (PV.load1 T.na86 rfl hb2.cells (Ext.refl _) rfl) ?_
    refine WL.pure rfl rfl rfl ((by first | exact PV.len rfl (by assumption) T.sl86 | exact PV.lenOs rfl (by assumption) T.sl86 | exact PV.len rfl (NL.rd (by assumption)) T.sl86 | exact PV.len rfl (Inn.rd (by assumption) (by omega)) T.sl86)) ?_
    refine WL.mv rfl rfl ?_
    refine WL.nilS ?_
    refine CW.block ?_
    have hlt1 := hb1.ltO
    have hlt2 := hb2.ltO
    have hlt3 := hb3.ltO
    have hlt4 := hb4.ltO
    have hlt26 := ho26.ltO
    have hlt27 := ho27.ltO
    refine CW.loop (σk := [(2, _), (3, _), (4, _), (6, _), (14, _), (145, _), (146, _), (150, _), (151, _)]) (fun ρ wz m => ∃ (v29 : Value) (og29 : Option Nat) (v30 : Value) (og30 : Option Nat) (k : Nat), ρ = [(152, .int .i64 (k : Nat))] ∧ m = xy2.length - k ∧ UpdL [og26, og27, (some b4.block)] wl5 wz ∧ Osn 4 gR wz og29 v29 ((cB y0 xa2 xy2) ++ dblF (ch3 y0 xy2) xy2.length i ++ rowF (ch3 y0 xy2) i k) ∧ OgR wl5 og26 og29 ∧ Osl VB wz og30 v30 (([] : List Bool)) ∧ OgR wl5 og27 og30 ∧ Bx wz b4 [.int .i64 (wI (a0 * y0)), .int .i64 a1, v29, v30] ∧ Dj og29 og30 ∧ (k ≤ xy2.length)) (ρ₀ := [(152, _)]) (m₀ := _) ⟨rfl, rfl, rfl, rfl, rfl, rfl, rfl, rfl, rfl, rfl, trivial⟩ ⟨v26, og26, v27, og27, 0, rfl, rfl, (UpdL.refl _ _), osnE ho26 (by exact rowF_zero _ _ _), OgR.refl _ _, osE ho27 (by rfl), OgR.refl _ _, bxE hb4 (by first | rfl | (simp_all; done) | (simp_all; omega)), hd26_27, (by first | omega | rfl | (simp; done) | assumption | (simp_all; done))⟩ ?_
    rintro _ wl6 _ ⟨v29, og29, v30, og30, k, rfl, rfl, hU5, ho29, ha29, ho30, ha30, hb4, hd29_30, hk⟩
    have hU4 := hU4.trans hU5 ⟨hk4_26, hk4_27, hk4_4, trivial⟩
    have hb1 := hb1.loop hU5 ⟨hd1_26, hd1_27, hd1_4, trivial⟩
    have hb2 := hb2.loop hU5 ⟨hd2_26, hd2_27, hd2_4, trivial⟩
    have hb3 := hb3.loop hU5 ⟨hd3_26, hd3_27, hd3_4, trivial⟩
    have hl29 := Lo.ogr hl26 hB ha29
    have hg5_29 := ha29
    have hk5_29 : OkB [og26, og27, (some b4.block)] wl5 og29 := OkB.ogr (OkB.mem (by simp)) (Nat.le_refl _) ha29
    have hk4_29 := OkB.ogr hk4_26 (by first | assumption | exact UpdL.size (by assumption)) ha29
    have hg4_29 := OgR.trans hg4_26 (by first | assumption | exact UpdL.size (by assumption)) ha29
    have hd1_29 := Dj.ogr hd1_26 hlt1 ha29
    have hd2_29 := Dj.ogr hd2_26 hlt2 ha29
    have hd3_29 := Dj.ogr hd3_26 hlt3 ha29
    have hd4_29 := Dj.ogr hd4_26 hlt4 ha29
    have hl30 := Lo.ogr hl27 hB ha30
    have hg5_30 := ha30
    have hk5_30 : OkB [og26, og27, (some b4.block)] wl5 og30 := OkB.ogr (OkB.mem (by simp)) (Nat.le_refl _) ha30
    have hk4_30 := OkB.ogr hk4_27 (by first | assumption | exact UpdL.size (by assumption)) ha30
    have hg4_30 := OgR.trans hg4_27 (by first | assumption | exact UpdL.size (by assumption)) ha30
    have hd1_30 := Dj.ogr hd1_27 hlt1 ha30
    have hd2_30 := Dj.ogr hd2_27 hlt2 ha30
    have hd3_30 := Dj.ogr hd3_27 hlt3 ha30
    have hd4_30 := Dj.ogr hd4_27 hlt4 ha30
    have hk5_4 : OkB [og26, og27, (some b4.block)] wl5 (some b4.block) := OkB.mem (by simp)
    have hB := hB.loop hU5 ⟨hl26, hl27, hl4, trivial⟩
    have r1 := rowF_len (ch3_len y0 xy2) i k; have r2 := dblF_le (ch3_len y0 xy2) (m := xy2.length) (i := i) (M := 48) (I := 48) (by omega) (by omega); have hal : ((cB y0 xa2 xy2) ++ dblF (ch3 y0 xy2) xy2.length i ++ rowF (ch3 y0 xy2) i k).length ≤ 6000 := (by simp only [List.length_append, List.length_nil]; omega)
    refine CW.seq ?_
    refine CW.reg ?_
    refine WL.pure rfl rfl rfl (PV.lss rfl rfl) ?_
    refine WL.nilS ?_
    refine CW.seq ?_
    refine CW.cond rfl (fun hc13 => ?_) (fun hc13 => ?_)
    · skip
      try simp only [nq] at hc13
      refine CW.skipS ?_
      refine CW.seq ?_
      refine CW.block ?_
      refine CW.seq ?_
      refine CW.reg ?_
      first
        | refine WL.at (x := .tmp 150) (y := .tmp 152) (E := ER) ((0, 0, 0, 0)) rfl rfl (by first | assumption | exact Inn.rd (by assumption) (by omega)) (by first | omega | (simp only [List.length_set]; omega) | (simp only [List.length_append, List.length_take, List.length_replicate, List.length_drop]; omega)) (fun p4 csp4 hpp4 hcp4 hq => ?_)
        | refine WL.atZ (x := .tmp 150) (y := .tmp 152) (E := ER) ((0, 0, 0, 0)) rfl rfl (by first | assumption | exact Inn.rd (by assumption) (by omega)) (by first | omega | (simp only [List.length_set]; omega) | (simp only [List.length_append, List.length_take, List.length_replicate, List.length_drop]; omega)) (fun p4 csp4 hpp4 hzp4 hcp4 hq => ?_)
      cases hq
      refine WL.pure rfl rfl rfl ((by first | exact PV.indexAddr hpp4 rfl rfl T.sl86 | exact PV.indexAddr hpp4 rfl (by rw [← hzp4]; rfl) T.sl86)) ?_
      refine WL.pure rfl rfl rfl ((by first | exact PV.loadA T.ag178 rfl (by first | exact Cells.up (by assumption) hB | exact Bx.cells (by assumption) | assumption) (Ext.refl _) rfl | exact PV.loadP (ds := [_, _, _, _]) T.ag178 rfl (by first | exact Cells.up (by assumption) hB | exact Bx.cells (by assumption) | assumption) (Ext.refl _) rfl rfl)) ?_
      refine WL.op rfl (OpK.alloc rfl T.zv178 rfl (fun b32 w24 hXw24 hb32 hge32 => ?_))
      have hl32 := Lo.new hB hge32
      have hd1_32 := Dj.new hb1.ltO hge32
      have hd2_32 := Dj.new hb2.ltO hge32
      have hd3_32 := Dj.new hb3.ltO hge32
      have hd4_32 := Dj.new hb4.ltO hge32
      have hd29_32 := Dj.new ho29.ltO hge32
      have hd30_32 := Dj.new ho30.ltO hge32
      have hk4_32 := OkN.new hU4 hge32
      have hg4_32 := OgR.new hU4.size hge32
      have hk5_32 := OkN.new hU5 hge32
      have hg5_32 := OgR.new hU5.size hge32
      have hB := hB.trans hXw24
      have hb1 := hb1.up hXw24
      have hb2 := hb2.up hXw24
      have hb3 := hb3.up hXw24
      have hb4 := hb4.up hXw24
      have ho29 := ho29.up hXw24
      have ho30 := ho30.up hXw24
      have hU4 := hU4.ext hXw24
      have hU5 := hU5.ext hXw24
      refine WL.op rfl (OpK.storeA T.sz178 rfl rfl rfl rfl (by simp [Value.oneCell'] <;> first | done | (repeat' apply And.intro) <;> first | rfl | exact Inn.one1 (by assumption) (by omega) | exact Osl.oneCell (by assumption) | exact Osn.oneCell (by assumption) | exact Rd.oneCell (by assumption) | exact Rd.oneCell (NL.rd (by assumption)) | assumption) hb32 (fun w25 hXw25 hb32 => ?_))
      have hB := hB.updL hXw25 hl32
      have hb1 := hb1.updD hXw25 hd1_32
      have hb2 := hb2.updD hXw25 hd2_32
      have hb3 := hb3.updD hXw25 hd3_32
      have hb4 := hb4.updD hXw25 hd4_32
      have ho29 := ho29.updD hXw25 hd29_32
      have ho30 := ho30.updD hXw25 hd30_32
      have hU4 := hU4.step hXw25 hk4_32
      have hU5 := hU5.step hXw25 hk5_32
      refine WL.nilS ?_
      refine CW.seq ?_
      refine CW.reg ?_
      refine WL.pure rfl rfl rfl (PV.fieldAddr T.fl178_2 rfl hb32.cells) ?_
      refine WL.pure rfl rfl rfl (PV.load1 T.na2 rfl hb32.cells (Ext.refl _) rfl) ?_
      refine WL.pure rfl rfl rfl (PV.lss rfl rfl) ?_
      refine WL.nilS ?_
      refine CW.cond rfl (fun hc14 => ?_) (fun hc14 => ?_)
      · skip
        try simp only [nq] at hc14
        refine CW.reg ?_
        refine WL.pure rfl rfl rfl (PV.fieldAddr T.fl88_2 rfl hb4.cells) ?_
        refine WL.pure rfl rfl rfl (PV.load1 T.na86 rfl hb4.cells (Ext.refl _) rfl) ?_
        refine WL.mv rfl rfl ?_
        refine WL.pure rfl rfl rfl (PV.fieldAddr T.fl88_0 rfl hb2.cells) ?_
        refine WL.pure rfl rfl rfl (PV.load1 T.na2 rfl hb2.cells (Ext.refl _) rfl) ?_
        refine WL.pure rfl rfl rfl (PV.mulW rfl rfl) ?_
        refine WL.pure rfl rfl rfl (PV.fieldAddr T.fl178_0 rfl hb32.cells) ?_
        refine WL.pure rfl rfl rfl (PV.load1 T.na2 rfl hb32.cells (Ext.refl _) rfl) ?_
        refine WL.pure rfl rfl rfl (PV.addW rfl rfl) ?_
        refine WL.mv rfl rfl ?_
        refine WL.pure rfl rfl rfl (PV.fieldAddr T.fl88_0 rfl hb2.cells) ?_
        refine WL.pure rfl rfl rfl (PV.load1 T.na2 rfl hb2.cells (Ext.refl _) rfl) ?_
        refine WL.pure rfl rfl rfl (PV.mulW rfl rfl) ?_
        refine WL.pure rfl rfl rfl (PV.fieldAddr T.fl178_1 rfl hb32.cells) ?_
        refine WL.pure rfl rfl rfl (PV.load1 T.na2 rfl hb32.cells (Ext.refl _) rfl) ?_
        refine WL.pure rfl rfl rfl (PV.addW rfl rfl) ?_
        refine WL.pure rfl rfl rfl (PV.fieldAddr T.fl178_3 rfl hb32.cells) ?_
        refine WL.pure rfl rfl rfl (PV.load1 T.na2 rfl hb32.cells (Ext.refl _) rfl) ?_
        refine WL.pure rfl rfl rfl (PV.build (ks := [0, 1, 2, 3]) (os := [.tmp 167, .tmp 174, .const (.int .i64 (-1)), .tmp 176]) (css := [[_], [_], [_], [_]]) (ds := [_, _, _, _]) T.bu178 rfl rfl ⟨rfl, rfl, rfl, rfl, trivial⟩ rfl) ?_
        refine WL.op rfl (OpK.build4 (os := [.tmp 177]) rfl T.sl86 rfl rfl T.zv178 rfl rfl (fun v33 g33 w26 hXw26 ho33 hge33 => ?_))
        have hl33 := Lo.new hB hge33
        have hd1_33 := Dj.new hb1.ltO hge33
        have hd2_33 := Dj.new hb2.ltO hge33
        have hd3_33 := Dj.new hb3.ltO hge33
        have hd4_33 := Dj.new hb4.ltO hge33
        have hd29_33 := Dj.new ho29.ltO hge33
        have hd30_33 := Dj.new ho30.ltO hge33
        have hd32_33 := Dj.new hb32.ltO hge33
        have hk4_33 := OkN.new hU4 hge33
        have hg4_33 := OgR.new hU4.size hge33
        have hk5_33 := OkN.new hU5 hge33
        have hg5_33 := OgR.new hU5.size hge33
        have hB := hB.trans hXw26
        have hb1 := hb1.up hXw26
        have hb2 := hb2.up hXw26
        have hb3 := hb3.up hXw26
        have hb4 := hb4.up hXw26
        have ho29 := ho29.up hXw26
        have ho30 := ho30.up hXw26
        have hb32 := hb32.up hXw26
        have hU4 := hU4.ext hXw26
        have hU5 := hU5.ext hXw26
        refine WL.op rfl (OpK.appendN (g := gR) rfl T.sl86 T.zv178 rfl rfl ho29 rfl (Osn.src ho33) (by first | (simp only [List.length_cons, List.length_nil]; omega) | (simp_all; omega)) (fun v34 og34 w27 hXw27 ho34 hap34 => ?_))
        have hl34 := Lo.app hl29 hB hap34
        have hd1_34 := Dj.app hd1_29 hb1.ltO hap34
        have hd2_34 := Dj.app hd2_29 hb2.ltO hap34
        have hd3_34 := Dj.app hd3_29 hb3.ltO hap34
        have hd4_34 := Dj.app hd4_29 hb4.ltO hap34
        have hd30_34 := Dj.app (Dj.symm hd29_30) ho30.ltO hap34
        have hd32_34 := Dj.app (Dj.symm hd29_32) hb32.ltO hap34
        have hd33_34 := Dj.app (Dj.symm hd29_33) ho33.ltO hap34
        have hk4_34 := OkN.app hU4 hk4_29 hap34
        have hg4_34 := OgR.app hg4_29 hU4.size hap34
        have hk5_34 := OkN.app hU5 hk5_29 hap34
        have hg5_34 := OgR.app hg5_29 hU5.size hap34
        have hB := hB.updL hXw27 hl29
        have hb1 := hb1.updD hXw27 hd1_29
        have hb2 := hb2.updD hXw27 hd2_29
        have hb3 := hb3.updD hXw27 hd3_29
        have hb4 := hb4.updD hXw27 hd4_29
        have ho30 := ho30.updD hXw27 (Dj.symm hd29_30)
        have hb32 := hb32.updD hXw27 (Dj.symm hd29_32)
        have ho33 := ho33.updD hXw27 (Dj.symm hd29_33)
        have hU4 := hU4.step hXw27 hk4_29
        have hU5 := hU5.step hXw27 hk5_29
        refine WL.pure rfl rfl rfl (PV.fieldAddr T.fl88_2 rfl hb4.cells) ?_
        refine WL.op rfl (OpK.storeB T.sz86 rfl rfl (by first | rfl | exact Inn.one1 (by assumption) (by omega) | exact Osl.oneCell (by assumption) | exact Osn.oneCell (by assumption) | exact Rd.oneCell (by assumption) | exact Rd.oneCell (NL.rd (by assumption)) | assumption) hb4 rfl (fun w28 hXw28 hb4 => ?_))
        have hB := hB.updL hXw28 hl4
        have hb1 := hb1.updD hXw28 hd1_4
        have hb2 := hb2.updD hXw28 hd2_4
        have hb3 := hb3.updD hXw28 hd3_4
        have ho30 := ho30.updD hXw28 (Dj.symm hd4_30)
        have hb32 := hb32.updD hXw28 (Dj.symm hd4_32)
        have ho33 := ho33.updD hXw28 (Dj.symm hd4_33)
        have ho34 := ho34.updD hXw28 (Dj.symm hd4_34)
        have hU4 := hU4.step hXw28 hk4_4
        have hU5 := hU5.step hXw28 hk5_4
        refine WL.nil ?_
        refine NQ.block ?_
        refine NQ.then ?_
        refine CW.reg ?_
        refine WL.pure rfl rfl rfl (PV.add rfl rfl (by constructor <;> omega)) ?_
        refine WL.mv rfl rfl ?_
        refine WL.nil ?_
        refine NQ.next (ρ := [(152, _)]) ⟨rfl, rfl, rfl, rfl, rfl, rfl, rfl, rfl, rfl, rfl, trivial⟩ ?_
        exact ⟨_, ⟨v34, og34, v30, og30, k + 1, rfl, rfl, hU5, osnE ho34 (by first | exact rowF_put (onF_yes (by omega) rfl) | exact rowF_none (onF_no (by omega))), (by first | exact hg5_34 | exact OgR.weak hg5_34), osE ho30 (by first | rfl | (simp_all; done) | (simp_all; omega)), (by first | exact hg5_30 | exact OgR.weak hg5_30), bxE hb4 (by first | rfl | (simp_all; done) | (simp_all; omega)), (Dj.symm hd30_34), (by first | omega | assumption | (simp_all; done) | (simp_all; omega))⟩, by omega⟩
      try simp only [nq] at hc14
      refine CW.skip ?_
      refine NQ.block ?_
      refine NQ.then ?_
      refine CW.reg ?_
      refine WL.pure rfl rfl rfl (PV.add rfl rfl (by constructor <;> omega)) ?_
      refine WL.mv rfl rfl ?_
      refine WL.nil ?_
      refine NQ.next (ρ := [(152, _)]) ⟨rfl, rfl, rfl, rfl, rfl, rfl, rfl, rfl, rfl, rfl, trivial⟩ ?_
      exact ⟨_, ⟨v29, og29, v30, og30, k + 1, rfl, rfl, hU5, osnE ho29 (by first | exact rowF_put (onF_yes (by omega) rfl) | exact rowF_none (onF_no (by omega))), (by first | exact hg5_29 | exact OgR.weak hg5_29), osE ho30 (by first | rfl | (simp_all; done) | (simp_all; omega)), (by first | exact hg5_30 | exact OgR.weak hg5_30), bxE hb4 (by first | rfl | (simp_all; done) | (simp_all; omega)), hd29_30, (by first | omega | assumption | (simp_all; done) | (simp_all; omega))⟩, by omega⟩
    try simp only [nq] at hc13
    refine CW.exit ?_
    refine XQ.then ?_
    refine XQ.then ?_
    refine XQ.here ?_
    refine NQ.block ?_
    refine NQ.then ?_
    refine CW.reg ?_
    refine WL.pure rfl rfl rfl (PV.add rfl rfl (by constructor <;> omega)) ?_
    refine WL.mv rfl rfl ?_
    refine WL.nil ?_
    refine NQ.next (ρ := [(146, _)]) ⟨rfl, rfl, rfl, rfl, rfl, rfl, trivial⟩ ?_
    exact ⟨_, ⟨v29, og29, v30, og30, i + 1, rfl, rfl, hU4, osnE ho29 (by exact dblF_succ (by omega)), (by first | exact hg4_29 | exact OgR.weak hg4_29), osE ho30 (by first | rfl | (simp_all; done) | (simp_all; omega)), (by first | exact hg4_30 | exact OgR.weak hg4_30), bxE hb4 (by first | rfl | (simp_all; done) | (simp_all; omega)), hd29_30, (by first | omega | assumption | (simp_all; done) | (simp_all; omega))⟩, by omega⟩
  try simp only [nq] at hc12
  refine CW.exit ?_
  refine XQ.then ?_
  refine XQ.then ?_
  refine XQ.here ?_
  refine NQ.then ?_
  refine CW.seq ?_
  refine CW.seq ?_
  refine CW.reg ?_
  refine WL.pure rfl rfl rfl (PV.fieldAddr T.fl88_3 rfl hb1.cells) ?_
  refine WL.pure rfl rfl rfl (PV.load1 T.na62 rfl hb1.cells (Ext.refl _) rfl) ?_
  refine WL.pure rfl rfl rfl ((by first | exact PV.len rfl (by assumption) T.sl62 | exact PV.lenOs rfl (by assumption) T.sl62 | exact PV.len rfl (NL.rd (by assumption)) T.sl62 | exact PV.len rfl (Inn.rd (by assumption) (by omega)) T.sl62)) ?_
  refine WL.mv rfl rfl ?_
  refine WL.nilS ?_
  refine CW.block ?_
  have hlt1 := hb1.ltO
  have hlt2 := hb2.ltO
  have hlt3 := hb3.ltO
  have hlt4 := hb4.ltO
  have hlt26 := ho26.ltO
  have hlt27 := ho27.ltO
  refine CW.loop (σk := [(3, _), (4, _), (6, _), (184, _), (185, _)]) (fun ρ wz m => ∃ (v35 : Value) (og35 : Option Nat) (v36 : Value) (og36 : Option Nat) (i : Nat), ρ = [(186, .int .i64 (i : Nat))] ∧ m = xa3.length - i ∧ UpdL [og27, og26, (some b4.block)] wl5 wz ∧ Osl VB wz og35 v35 ([] ++ dblF (chE xa3 xy3) xy3.length i) ∧ OgR wl5 og27 og35 ∧ Osn 4 gR wz og36 v36 ((cC a0 y0 xa2 xy2)) ∧ OgR wl5 og26 og36 ∧ Bx wz b4 [.int .i64 (wI (a0 * y0)), .int .i64 a1, v36, v35] ∧ Dj og35 og36 ∧ (i ≤ xa3.length)) (ρ₀ := [(186, _)]) (m₀ := _) ⟨rfl, rfl, rfl, rfl, rfl, rfl, trivial⟩ ⟨v27, og27, v26, og26, 0, rfl, rfl, (UpdL.refl _ _), osE ho27 (by exact dblF_zero _ _ _), OgR.refl _ _, osnE ho26 (by rw [show i = a0.toNat from (by omega)]; rfl), OgR.refl _ _, bxE hb4 (by first | rfl | (simp_all; done) | (simp_all; omega)), (Dj.symm hd26_27), (by first | omega | rfl | (simp; done) | assumption | (simp_all; done))⟩ ?_
  rintro _ wl7 _ ⟨v35, og35, v36, og36, i, rfl, rfl, hU6, ho35, ha35, ho36, ha36, hb4, hd35_36, hi⟩
  have hb1 := hb1.loop hU6 ⟨hd1_27, hd1_26, hd1_4, trivial⟩
  have hb2 := hb2.loop hU6 ⟨hd2_27, hd2_26, hd2_4, trivial⟩
  have hb3 := hb3.loop hU6 ⟨hd3_27, hd3_26, hd3_4, trivial⟩
  have hl35 := Lo.ogr hl27 hB ha35
  have hg6_35 := ha35
  have hk6_35 : OkB [og27, og26, (some b4.block)] wl5 og35 := OkB.ogr (OkB.mem (by simp)) (Nat.le_refl _) ha35
  have hd1_35 := Dj.ogr hd1_27 hlt1 ha35
  have hd2_35 := Dj.ogr hd2_27 hlt2 ha35
  have hd3_35 := Dj.ogr hd3_27 hlt3 ha35
  have hd4_35 := Dj.ogr hd4_27 hlt4 ha35
  have hl36 := Lo.ogr hl26 hB ha36
  have hg6_36 := ha36
  have hk6_36 : OkB [og27, og26, (some b4.block)] wl5 og36 := OkB.ogr (OkB.mem (by simp)) (Nat.le_refl _) ha36
  have hd1_36 := Dj.ogr hd1_26 hlt1 ha36
  have hd2_36 := Dj.ogr hd2_26 hlt2 ha36
  have hd3_36 := Dj.ogr hd3_26 hlt3 ha36
  have hd4_36 := Dj.ogr hd4_26 hlt4 ha36
  have hk6_4 : OkB [og27, og26, (some b4.block)] wl5 (some b4.block) := OkB.mem (by simp)
  have hB := hB.loop hU6 ⟨hl27, hl26, hl4, trivial⟩
  refine CW.seq ?_
  refine CW.reg ?_
  refine WL.pure rfl rfl rfl (PV.lss rfl rfl) ?_
  refine WL.nilS ?_
  refine CW.seq ?_
  refine CW.cond rfl (fun hc15 => ?_) (fun hc15 => ?_)
  · skip
    try simp only [nq] at hc15
    refine CW.skipS ?_
    refine CW.seq ?_
    refine CW.block ?_
    refine CW.seq ?_
    refine CW.reg ?_
    first
      | refine WL.at (x := .tmp 184) (y := .tmp 186) (E := EB) (false) rfl rfl (by first | assumption | exact Inn.rd (by assumption) (by omega)) (by first | omega | (simp only [List.length_set]; omega) | (simp only [List.length_append, List.length_take, List.length_replicate, List.length_drop]; omega)) (fun p5 csp5 hpp5 hcp5 hq => ?_)
      | refine WL.atZ (x := .tmp 184) (y := .tmp 186) (E := EB) (false) rfl rfl (by first | assumption | exact Inn.rd (by assumption) (by omega)) (by first | omega | (simp only [List.length_set]; omega) | (simp only [List.length_append, List.length_take, List.length_replicate, List.length_drop]; omega)) (fun p5 csp5 hpp5 hzp5 hcp5 hq => ?_)
    cases hq
    refine WL.pure rfl rfl rfl ((by first | exact PV.indexAddr hpp5 rfl rfl T.sl62 | exact PV.indexAddr hpp5 rfl (by rw [← hzp5]; rfl) T.sl62)) ?_
    refine WL.pure rfl rfl rfl ((by first | exact PV.load0 T.na4 rfl (by first | exact Cells.up (by assumption) hB | exact Bx.cells (by assumption) | assumption) (Ext.refl _) rfl | exact PV.load1 T.na4 rfl (by first | exact Cells.up (by assumption) hB | exact Bx.cells (by assumption) | assumption) (Ext.refl _) rfl)) ?_
    refine WL.asg rfl rfl ?_
    refine WL.nilS ?_
    refine CW.seq ?_
    refine CW.reg ?_
    refine WL.pure rfl rfl rfl (PV.fieldAddr T.fl88_3 rfl hb2.cells) ?_
    refine WL.pure rfl rfl rfl (PV.load1 T.na62 rfl hb2.cells (Ext.refl _) rfl) ?_
    refine WL.pure rfl rfl rfl ((by first | exact PV.len rfl (by assumption) T.sl62 | exact PV.lenOs rfl (by assumption) T.sl62 | exact PV.len rfl (NL.rd (by assumption)) T.sl62 | exact PV.len rfl (Inn.rd (by assumption) (by omega)) T.sl62)) ?_
    refine WL.mv rfl rfl ?_
    refine WL.nilS ?_
    refine CW.block ?_
    have hlt1 := hb1.ltO
    have hlt2 := hb2.ltO
    have hlt3 := hb3.ltO
    have hlt4 := hb4.ltO
    have hlt35 := ho35.ltO
    have hlt36 := ho36.ltO
    refine CW.loop (σk := [(3, _), (4, _), (6, _), (18, _), (184, _), (185, _), (186, _), (191, _), (192, _)]) (fun ρ wz m => ∃ (v38 : Value) (og38 : Option Nat) (v39 : Value) (og39 : Option Nat) (k : Nat), ρ = [(193, .int .i64 (k : Nat))] ∧ m = xy3.length - k ∧ UpdL [og35, og36, (some b4.block)] wl7 wz ∧ Osl VB wz og38 v38 ([] ++ dblF (chE xa3 xy3) xy3.length i ++ rowF (chE xa3 xy3) i k) ∧ OgR wl7 og35 og38 ∧ Osn 4 gR wz og39 v39 ((cC a0 y0 xa2 xy2)) ∧ OgR wl7 og36 og39 ∧ Bx wz b4 [.int .i64 (wI (a0 * y0)), .int .i64 a1, v39, v38] ∧ Dj og38 og39 ∧ (k ≤ xy3.length)) (ρ₀ := [(193, _)]) (m₀ := _) ⟨rfl, rfl, rfl, rfl, rfl, rfl, rfl, rfl, rfl, rfl, trivial⟩ ⟨v35, og35, v36, og36, 0, rfl, rfl, (UpdL.refl _ _), osE ho35 (by exact rowF_zero _ _ _), OgR.refl _ _, osnE ho36 (by rfl), OgR.refl _ _, bxE hb4 (by first | rfl | (simp_all; done) | (simp_all; omega)), hd35_36, (by first | omega | rfl | (simp; done) | assumption | (simp_all; done))⟩ ?_
    rintro _ wl8 _ ⟨v38, og38, v39, og39, k, rfl, rfl, hU7, ho38, ha38, ho39, ha39, hb4, hd38_39, hk⟩
    have hU6 := hU6.trans hU7 ⟨hk6_35, hk6_36, hk6_4, trivial⟩
    have hb1 := hb1.loop hU7 ⟨hd1_35, hd1_36, hd1_4, trivial⟩
    have hb2 := hb2.loop hU7 ⟨hd2_35, hd2_36, hd2_4, trivial⟩
    have hb3 := hb3.loop hU7 ⟨hd3_35, hd3_36, hd3_4, trivial⟩
    have hl38 := Lo.ogr hl35 hB ha38
    have hg7_38 := ha38
    have hk7_38 : OkB [og35, og36, (some b4.block)] wl7 og38 := OkB.ogr (OkB.mem (by simp)) (Nat.le_refl _) ha38
    have hk6_38 := OkB.ogr hk6_35 (by first | assumption | exact UpdL.size (by assumption)) ha38
    have hg6_38 := OgR.trans hg6_35 (by first | assumption | exact UpdL.size (by assumption)) ha38
    have hd1_38 := Dj.ogr hd1_35 hlt1 ha38
    have hd2_38 := Dj.ogr hd2_35 hlt2 ha38
    have hd3_38 := Dj.ogr hd3_35 hlt3 ha38
    have hd4_38 := Dj.ogr hd4_35 hlt4 ha38
    have hl39 := Lo.ogr hl36 hB ha39
    have hg7_39 := ha39
    have hk7_39 : OkB [og35, og36, (some b4.block)] wl7 og39 := OkB.ogr (OkB.mem (by simp)) (Nat.le_refl _) ha39
    have hk6_39 := OkB.ogr hk6_36 (by first | assumption | exact UpdL.size (by assumption)) ha39
    have hg6_39 := OgR.trans hg6_36 (by first | assumption | exact UpdL.size (by assumption)) ha39
    have hd1_39 := Dj.ogr hd1_36 hlt1 ha39
    have hd2_39 := Dj.ogr hd2_36 hlt2 ha39
    have hd3_39 := Dj.ogr hd3_36 hlt3 ha39
    have hd4_39 := Dj.ogr hd4_36 hlt4 ha39
    have hk7_4 : OkB [og35, og36, (some b4.block)] wl7 (some b4.block) := OkB.mem (by simp)
    have hB := hB.loop hU7 ⟨hl35, hl36, hl4, trivial⟩
    have r1 := rowF_len (chE_len xa3 xy3) i k; have r2 := dblF_le (chE_len xa3 xy3) (m := xy3.length) (i := i) (M := 8) (I := 48) (by omega) (by omega); have hal : ([] ++ dblF (chE xa3 xy3) xy3.length i ++ rowF (chE xa3 xy3) i k).length ≤ 6000 := (by simp only [List.length_append, List.length_nil]; omega)
    refine CW.seq ?_
    refine CW.reg ?_
    refine WL.pure rfl rfl rfl (PV.lss rfl rfl) ?_
    refine WL.nilS ?_
    refine CW.seq ?_
    refine CW.cond rfl (fun hc16 => ?_) (fun hc16 => ?_)
    · skip
      try simp only [nq] at hc16
      refine CW.skipS ?_
      refine CW.seq ?_
      refine CW.block ?_
      refine CW.seq ?_
      refine CW.reg ?_
      first
        | refine WL.at (x := .tmp 191) (y := .tmp 193) (E := EB) (false) rfl rfl (by first | assumption | exact Inn.rd (by assumption) (by omega)) (by first | omega | (simp only [List.length_set]; omega) | (simp only [List.length_append, List.length_take, List.length_replicate, List.length_drop]; omega)) (fun p6 csp6 hpp6 hcp6 hq => ?_)
        | refine WL.atZ (x := .tmp 191) (y := .tmp 193) (E := EB) (false) rfl rfl (by first | assumption | exact Inn.rd (by assumption) (by omega)) (by first | omega | (simp only [List.length_set]; omega) | (simp only [List.length_append, List.length_take, List.length_replicate, List.length_drop]; omega)) (fun p6 csp6 hpp6 hzp6 hcp6 hq => ?_)
      cases hq
      refine WL.pure rfl rfl rfl ((by first | exact PV.indexAddr hpp6 rfl rfl T.sl62 | exact PV.indexAddr hpp6 rfl (by rw [← hzp6]; rfl) T.sl62)) ?_
      refine WL.pure rfl rfl rfl ((by first | exact PV.load0 T.na4 rfl (by first | exact Cells.up (by assumption) hB | exact Bx.cells (by assumption) | assumption) (Ext.refl _) rfl | exact PV.load1 T.na4 rfl (by first | exact Cells.up (by assumption) hB | exact Bx.cells (by assumption) | assumption) (Ext.refl _) rfl)) ?_
      refine WL.asg rfl rfl ?_
      refine WL.nilS ?_
      refine CW.reg ?_
      refine WL.pure rfl rfl rfl (PV.fieldAddr T.fl88_3 rfl hb4.cells) ?_
      refine WL.pure rfl rfl rfl (PV.load1 T.na62 rfl hb4.cells (Ext.refl _) rfl) ?_
      refine WL.mv rfl rfl ?_
      refine WL.mv rfl rfl ?_
      refine WL.split (t := 200) rfl (fun hc17 => ?_) (fun hc17 => ?_)
      rotate_left
      · skip
        try simp only [nq] at hc17
        refine WL.skip rfl rfl rfl rfl rfl ?_
        refine WL.pure rfl rfl rfl (PV.pickF rfl rfl) ?_
        refine WL.op rfl (OpK.buildS VB (os := [.tmp 202]) [_] rfl T.sl62 rfl rfl T.zv4 rfl (by intro z hz; first | rfl | (simp only [List.mem_cons, List.not_mem_nil, or_false] at hz; subst hz; exact (by first | exact Rd.cells1 (by assumption) | exact Osl.cells1 (by assumption) | exact Osn.cells1 (by assumption) | exact Rd.cells1 (NL.rd (by assumption)) | exact Inn.cell1 (by assumption) (by omega) | assumption | rfl))) rfl (fun v41 g41 w29 hXw29 ho41 hge41 => ?_))
        have hl41 := Lo.new hB hge41
        have hd1_41 := Dj.new hb1.ltO hge41
        have hd2_41 := Dj.new hb2.ltO hge41
        have hd3_41 := Dj.new hb3.ltO hge41
        have hd4_41 := Dj.new hb4.ltO hge41
        have hd38_41 := Dj.new ho38.ltO hge41
        have hd39_41 := Dj.new ho39.ltO hge41
        have hk6_41 := OkN.new hU6 hge41
        have hg6_41 := OgR.new hU6.size hge41
        have hk7_41 := OkN.new hU7 hge41
        have hg7_41 := OgR.new hU7.size hge41
        have hB := hB.trans hXw29
        have hb1 := hb1.up hXw29
        have hb2 := hb2.up hXw29
        have hb3 := hb3.up hXw29
        have hb4 := hb4.up hXw29
        have ho38 := ho38.up hXw29
        have ho39 := ho39.up hXw29
        have hU6 := hU6.ext hXw29
        have hU7 := hU7.ext hXw29
        refine WL.op rfl (OpK.appendS (f := VB) rfl T.sl62 T.zv4 rfl rfl ho38 rfl (Osl.src ho41 (fun _ => rfl)) (by first | (simp only [List.length_cons, List.length_nil]; omega) | (simp_all; omega)) (fun v42 og42 w30 hXw30 ho42 hap42 => ?_))
        have hl42 := Lo.app hl38 hB hap42
        have hd1_42 := Dj.app hd1_38 hb1.ltO hap42
        have hd2_42 := Dj.app hd2_38 hb2.ltO hap42
        have hd3_42 := Dj.app hd3_38 hb3.ltO hap42
        have hd4_42 := Dj.app hd4_38 hb4.ltO hap42
        have hd39_42 := Dj.app (Dj.symm hd38_39) ho39.ltO hap42
        have hd41_42 := Dj.app (Dj.symm hd38_41) ho41.ltO hap42
        have hk6_42 := OkN.app hU6 hk6_38 hap42
        have hg6_42 := OgR.app hg6_38 hU6.size hap42
        have hk7_42 := OkN.app hU7 hk7_38 hap42
        have hg7_42 := OgR.app hg7_38 hU7.size hap42
        have hB := hB.updL hXw30 hl38
        have hb1 := hb1.updD hXw30 hd1_38
        have hb2 := hb2.updD hXw30 hd2_38
        have hb3 := hb3.updD hXw30 hd3_38
        have hb4 := hb4.updD hXw30 hd4_38
        have ho39 := ho39.updD hXw30 (Dj.symm hd38_39)
        have ho41 := ho41.updD hXw30 (Dj.symm hd38_41)
        have hU6 := hU6.step hXw30 hk6_38
        have hU7 := hU7.step hXw30 hk7_38
        refine WL.pure rfl rfl rfl (PV.fieldAddr T.fl88_3 rfl hb4.cells) ?_
        refine WL.op rfl (OpK.storeB T.sz62 rfl rfl (by first | rfl | exact Inn.one1 (by assumption) (by omega) | exact Osl.oneCell (by assumption) | exact Osn.oneCell (by assumption) | exact Rd.oneCell (by assumption) | exact Rd.oneCell (NL.rd (by assumption)) | assumption) hb4 rfl (fun w31 hXw31 hb4 => ?_))
        have hB := hB.updL hXw31 hl4
        have hb1 := hb1.updD hXw31 hd1_4
        have hb2 := hb2.updD hXw31 hd2_4
        have hb3 := hb3.updD hXw31 hd3_4
        have ho39 := ho39.updD hXw31 (Dj.symm hd4_39)
        have ho41 := ho41.updD hXw31 (Dj.symm hd4_41)
        have ho42 := ho42.updD hXw31 (Dj.symm hd4_42)
        have hU6 := hU6.step hXw31 hk6_4
        have hU7 := hU7.step hXw31 hk7_4
        refine WL.nil ?_
        refine NQ.block ?_
        refine NQ.then ?_
        refine CW.reg ?_
        refine WL.pure rfl rfl rfl (PV.add rfl rfl (by constructor <;> omega)) ?_
        refine WL.mv rfl rfl ?_
        refine WL.nil ?_
        refine NQ.next (ρ := [(193, _)]) ⟨rfl, rfl, rfl, rfl, rfl, rfl, rfl, rfl, rfl, rfl, trivial⟩ ?_
        exact ⟨_, ⟨v42, og42, v39, og39, k + 1, rfl, rfl, hU7, osE ho42 (by first | exact rowF_put (chE_t (by assumption)) | exact rowF_put (chE_f (by assumption))), (by first | exact hg7_42 | exact OgR.weak hg7_42), osnE ho39 (by first | rfl | (simp_all; done) | (simp_all; omega)), (by first | exact hg7_39 | exact OgR.weak hg7_39), bxE hb4 (by first | rfl | (simp_all; done) | (simp_all; omega)), (Dj.symm hd39_42), (by first | omega | assumption | (simp_all; done) | (simp_all; omega))⟩, by omega⟩
      try simp only [nq] at hc17
      refine WL.pureG rfl rfl rfl rfl rfl (PV.move rfl) ?_
      refine WL.pure rfl rfl rfl (PV.pickT rfl rfl) ?_
      refine WL.op rfl (OpK.buildS VB (os := [.tmp 202]) [_] rfl T.sl62 rfl rfl T.zv4 rfl (by intro z hz; first | rfl | (simp only [List.mem_cons, List.not_mem_nil, or_false] at hz; subst hz; exact (by first | exact Rd.cells1 (by assumption) | exact Osl.cells1 (by assumption) | exact Osn.cells1 (by assumption) | exact Rd.cells1 (NL.rd (by assumption)) | exact Inn.cell1 (by assumption) (by omega) | assumption | rfl))) rfl (fun v43 g43 w32 hXw32 ho43 hge43 => ?_))
      have hl43 := Lo.new hB hge43
      have hd1_43 := Dj.new hb1.ltO hge43
      have hd2_43 := Dj.new hb2.ltO hge43
      have hd3_43 := Dj.new hb3.ltO hge43
      have hd4_43 := Dj.new hb4.ltO hge43
      have hd38_43 := Dj.new ho38.ltO hge43
      have hd39_43 := Dj.new ho39.ltO hge43
      have hk6_43 := OkN.new hU6 hge43
      have hg6_43 := OgR.new hU6.size hge43
      have hk7_43 := OkN.new hU7 hge43
      have hg7_43 := OgR.new hU7.size hge43
      have hB := hB.trans hXw32
      have hb1 := hb1.up hXw32
      have hb2 := hb2.up hXw32
      have hb3 := hb3.up hXw32
      have hb4 := hb4.up hXw32
      have ho38 := ho38.up hXw32
      have ho39 := ho39.up hXw32
      have hU6 := hU6.ext hXw32
      have hU7 := hU7.ext hXw32
      refine WL.op rfl (OpK.appendS (f := VB) rfl T.sl62 T.zv4 rfl rfl ho38 rfl (Osl.src ho43 (fun _ => rfl)) (by first | (simp only [List.length_cons, List.length_nil]; omega) | (simp_all; omega)) (fun v44 og44 w33 hXw33 ho44 hap44 => ?_))
      have hl44 := Lo.app hl38 hB hap44
      have hd1_44 := Dj.app hd1_38 hb1.ltO hap44
      have hd2_44 := Dj.app hd2_38 hb2.ltO hap44
      have hd3_44 := Dj.app hd3_38 hb3.ltO hap44
      have hd4_44 := Dj.app hd4_38 hb4.ltO hap44
      have hd39_44 := Dj.app (Dj.symm hd38_39) ho39.ltO hap44
      have hd43_44 := Dj.app (Dj.symm hd38_43) ho43.ltO hap44
      have hk6_44 := OkN.app hU6 hk6_38 hap44
      have hg6_44 := OgR.app hg6_38 hU6.size hap44
      have hk7_44 := OkN.app hU7 hk7_38 hap44
      have hg7_44 := OgR.app hg7_38 hU7.size hap44
      have hB := hB.updL hXw33 hl38
      have hb1 := hb1.updD hXw33 hd1_38
      have hb2 := hb2.updD hXw33 hd2_38
      have hb3 := hb3.updD hXw33 hd3_38
      have hb4 := hb4.updD hXw33 hd4_38
      have ho39 := ho39.updD hXw33 (Dj.symm hd38_39)
      have ho43 := ho43.updD hXw33 (Dj.symm hd38_43)
      have hU6 := hU6.step hXw33 hk6_38
      have hU7 := hU7.step hXw33 hk7_38
      refine WL.pure rfl rfl rfl (PV.fieldAddr T.fl88_3 rfl hb4.cells) ?_
      refine WL.op rfl (OpK.storeB T.sz62 rfl rfl (by first | rfl | exact Inn.one1 (by assumption) (by omega) | exact Osl.oneCell (by assumption) | exact Osn.oneCell (by assumption) | exact Rd.oneCell (by assumption) | exact Rd.oneCell (NL.rd (by assumption)) | assumption) hb4 rfl (fun w34 hXw34 hb4 => ?_))
      have hB := hB.updL hXw34 hl4
      have hb1 := hb1.updD hXw34 hd1_4
      have hb2 := hb2.updD hXw34 hd2_4
      have hb3 := hb3.updD hXw34 hd3_4
      have ho39 := ho39.updD hXw34 (Dj.symm hd4_39)
      have ho43 := ho43.updD hXw34 (Dj.symm hd4_43)
      have ho44 := ho44.updD hXw34 (Dj.symm hd4_44)
      have hU6 := hU6.step hXw34 hk6_4
      have hU7 := hU7.step hXw34 hk7_4
      refine WL.nil ?_
      refine NQ.block ?_
      refine NQ.then ?_
      refine CW.reg ?_
      refine WL.pure rfl rfl rfl (PV.add rfl rfl (by constructor <;> omega)) ?_
      refine WL.mv rfl rfl ?_
      refine WL.nil ?_
      refine NQ.next (ρ := [(193, _)]) ⟨rfl, rfl, rfl, rfl, rfl, rfl, rfl, rfl, rfl, rfl, trivial⟩ ?_
      exact ⟨_, ⟨v44, og44, v39, og39, k + 1, rfl, rfl, hU7, osE ho44 (by first | exact rowF_put (chE_t (by assumption)) | exact rowF_put (chE_f (by assumption))), (by first | exact hg7_44 | exact OgR.weak hg7_44), osnE ho39 (by first | rfl | (simp_all; done) | (simp_all; omega)), (by first | exact hg7_39 | exact OgR.weak hg7_39), bxE hb4 (by first | rfl | (simp_all; done) | (simp_all; omega)), (Dj.symm hd39_44), (by first | omega | assumption | (simp_all; done) | (simp_all; omega))⟩, by omega⟩
    try simp only [nq] at hc16
    refine CW.exit ?_
    refine XQ.then ?_
    refine XQ.then ?_
    refine XQ.here ?_
    refine NQ.block ?_
    refine NQ.then ?_
    refine CW.reg ?_
    refine WL.pure rfl rfl rfl (PV.add rfl rfl (by constructor <;> omega)) ?_
    refine WL.mv rfl rfl ?_
    refine WL.nil ?_
    refine NQ.next (ρ := [(186, _)]) ⟨rfl, rfl, rfl, rfl, rfl, rfl, trivial⟩ ?_
    exact ⟨_, ⟨v38, og38, v39, og39, i + 1, rfl, rfl, hU6, osE ho38 (by exact dblF_succ (by omega)), (by first | exact hg6_38 | exact OgR.weak hg6_38), osnE ho39 (by first | rfl | (simp_all; done) | (simp_all; omega)), (by first | exact hg6_39 | exact OgR.weak hg6_39), bxE hb4 (by first | rfl | (simp_all; done) | (simp_all; omega)), hd38_39, (by first | omega | assumption | (simp_all; done) | (simp_all; omega))⟩, by omega⟩
  try simp only [nq] at hc15
  refine CW.exit ?_
  refine XQ.then ?_
  refine XQ.then ?_
  refine XQ.here ?_
  refine NQ.then ?_
  refine CW.seq ?_
  refine CW.reg ?_
  obtain rfl : i = xa3.length := (by omega)
  refine WL.pure rfl rfl rfl (PV.loadA T.ag88 rfl hb4.cells (Ext.refl _) rfl) ?_
  refine WL.op rfl (OpK.call rfl T.cf149 rfl (c_impl_validSided (Osn.rdR ho36) (Osl.rd ho35)) (fun rv1 w35 hR => ?_))
  rcases hR with ⟨hXw35, ⟨hal, rfl⟩ | ⟨hal, rfl⟩⟩
  · skip
    have hB := hB.trans hXw35
    have hb1 := hb1.up hXw35
    have hb2 := hb2.up hXw35
    have hb3 := hb3.up hXw35
    have hb4 := hb4.up hXw35
    have ho35 := ho35.up hXw35
    have ho36 := ho36.up hXw35
    refine WL.pure rfl rfl rfl (PV.extract rfl rfl) ?_
    refine WL.pure rfl rfl rfl (PV.extract rfl rfl) ?_
    refine WL.op rfl (OpK.storeA T.sz88 rfl rfl rfl rfl (by simp [Value.oneCell'] <;> first | done | (repeat' apply And.intro) <;> first | rfl | exact Inn.one1 (by assumption) (by omega) | exact Osl.oneCell (by assumption) | exact Osn.oneCell (by assumption) | exact Rd.oneCell (by assumption) | exact Rd.oneCell (NL.rd (by assumption)) | assumption) hb3 (fun w36 hXw36 hb3 => ?_))
    have hB := hB.updL hXw36 hl3
    have hb1 := hb1.updD hXw36 hd1_3
    have hb2 := hb2.updD hXw36 hd2_3
    have hb4 := hb4.updD hXw36 (Dj.symm hd3_4)
    have ho35 := ho35.updD hXw36 (Dj.symm hd3_35)
    have ho36 := ho36.updD hXw36 (Dj.symm hd3_36)
    refine WL.asg rfl rfl ?_
    refine WL.nilS ?_
    refine CW.ret ?_
    refine RQ.rc1 T.ag88 rfl (by first | exact Cells.up (by assumption) hB | exact Bx.cells (by assumption) | assumption) rfl rfl ?_
    refine ⟨hB, v36, og36, v35, og35, ?_, osnE ho36 ?_, hl36, osE ho35 ?_, hl35, (Dj.symm hd35_36)⟩
    · skip
      first | (have hn : ¬ (chainB a0 a1 xa2 xa3 y0 y1 xy2 xy3) = true := (by first | exact chain_n1 (by assumption) | exact chain_n2 (by assumption) | exact chain_n3 (by omega) | exact chain_n6 (by assumption) | exact chain_n5 (by assumption) | exact chain_n4 (by assumption)); first | exact tE2 (by rw [onI_no hn, onI_no hn]) (bE (Bool.eq_false_iff.2 hn).symm) | exact tE2 (by rw [onI_no hn, onI_no hn]; rfl) (bE (Bool.eq_false_iff.2 hn).symm)) | (have hy : (chainB a0 a1 xa2 xa3 y0 y1 xy2 xy3) = true := (chain_yes (by assumption) (by assumption) (by omega) (by assumption)); first | exact tE2 (by rw [onI_yes hy, onI_yes hy]; rfl) (bE hy.symm) | exact tE2 (by rw [onI_yes hy, onI_yes hy]) (bE hy.symm))
    · skip
      first | (rw [onT_no (by first | exact chain_n1 (by assumption) | exact chain_n2 (by assumption) | exact chain_n3 (by omega) | exact chain_n6 (by assumption) | exact chain_n5 (by assumption) | exact chain_n4 (by assumption))]; done) | (rw [onT_yes (chain_yes (by assumption) (by assumption) (by omega) (by assumption))]; first | done | rfl)
    · skip
      first | (rw [onT_no (by first | exact chain_n1 (by assumption) | exact chain_n2 (by assumption) | exact chain_n3 (by omega) | exact chain_n6 (by assumption) | exact chain_n5 (by assumption) | exact chain_n4 (by assumption))]; done) | (rw [onT_yes (chain_yes (by assumption) (by assumption) (by omega) (by assumption))]; first | done | rfl)
  · skip
    have hB := hB.trans hXw35
    have hb1 := hb1.up hXw35
    have hb2 := hb2.up hXw35
    have hb3 := hb3.up hXw35
    have hb4 := hb4.up hXw35
    have ho35 := ho35.up hXw35
    have ho36 := ho36.up hXw35
    refine WL.pure rfl rfl rfl (PV.extract rfl rfl) ?_
    refine WL.pure rfl rfl rfl (PV.extract rfl rfl) ?_
    refine WL.op rfl (OpK.storeA T.sz88 rfl rfl rfl rfl (by simp [Value.oneCell'] <;> first | done | (repeat' apply And.intro) <;> first | rfl | exact Inn.one1 (by assumption) (by omega) | exact Osl.oneCell (by assumption) | exact Osn.oneCell (by assumption) | exact Rd.oneCell (by assumption) | exact Rd.oneCell (NL.rd (by assumption)) | assumption) hb3 (fun w37 hXw37 hb3 => ?_))
    have hB := hB.updL hXw37 hl3
    have hb1 := hb1.updD hXw37 hd1_3
    have hb2 := hb2.updD hXw37 hd2_3
    have hb4 := hb4.updD hXw37 (Dj.symm hd3_4)
    have ho35 := ho35.updD hXw37 (Dj.symm hd3_35)
    have ho36 := ho36.updD hXw37 (Dj.symm hd3_36)
    refine WL.asg rfl rfl ?_
    refine WL.nilS ?_
    refine CW.ret ?_
    refine RQ.rc1 T.ag88 rfl (by first | exact Cells.up (by assumption) hB | exact Bx.cells (by assumption) | assumption) rfl rfl ?_
    refine ⟨hB, (.slice none 0 0), none, (.slice none 0 0), none, ?_, osnE (Osn.nil gR_ok _) ?_, Lo.nl _, osE (Osl.nil _ _) ?_, Lo.nl _, (Dj.nl _)⟩
    · skip
      first | (have hn : ¬ (chainB a0 a1 xa2 xa3 y0 y1 xy2 xy3) = true := (by first | exact chain_n1 (by assumption) | exact chain_n2 (by assumption) | exact chain_n3 (by omega) | exact chain_n6 (by assumption) | exact chain_n5 (by assumption) | exact chain_n4 (by assumption)); first | exact tE2 (by rw [onI_no hn, onI_no hn]) (bE (Bool.eq_false_iff.2 hn).symm) | exact tE2 (by rw [onI_no hn, onI_no hn]; rfl) (bE (Bool.eq_false_iff.2 hn).symm)) | (have hy : (chainB a0 a1 xa2 xa3 y0 y1 xy2 xy3) = true := (chain_yes (by assumption) (by assumption) (by omega) (by assumption)); first | exact tE2 (by rw [onI_yes hy, onI_yes hy]; rfl) (bE hy.symm) | exact tE2 (by rw [onI_yes hy, onI_yes hy]) (bE hy.symm))
    · skip
      first | (rw [onT_no (by first | exact chain_n1 (by assumption) | exact chain_n2 (by assumption) | exact chain_n3 (by omega) | exact chain_n6 (by assumption) | exact chain_n5 (by assumption) | exact chain_n4 (by assumption))]; done) | (rw [onT_yes (chain_yes (by assumption) (by assumption) (by omega) (by assumption))]; first | done | rfl)
    · skip
      first | (rw [onT_no (by first | exact chain_n1 (by assumption) | exact chain_n2 (by assumption) | exact chain_n3 (by omega) | exact chain_n6 (by assumption) | exact chain_n5 (by assumption) | exact chain_n4 (by assumption))]; done) | (rw [onT_yes (chain_yes (by assumption) (by assumption) (by omega) (by assumption))]; first | done | rfl)
theorem c_spec_l00In {w : World} {n lo hi : Int} : Calls Try.prog 98 #[.int .i64 n, .int .i64 lo, .int .i64 hi] w (Ret1 (RQt (.bool (decide (lo ≤ n ∧ n ≤ hi))) w)) := by
  have hB : Ext w w := Ext.refl w
  refine callsOf (vs := [_, _, _]) Try.func98 rfl Try.ntmps98 rfl rfl ?_
  refine CW.seq ?_
  refine CW.reg ?_
  refine WL.asg rfl rfl ?_
  refine WL.nilS ?_
  refine CW.seq ?_
  refine CW.reg ?_
  refine WL.mv rfl rfl ?_
  refine WL.mv rfl rfl ?_
  refine WL.pure rfl rfl rfl (PV.geq rfl rfl) ?_
  refine WL.mv rfl rfl ?_
  refine WL.split (t := 10) rfl (fun hc1 => ?_) (fun hc1 => ?_)
  rotate_left
  · skip
    try simp only [nq] at hc1
    refine WL.skip rfl rfl rfl rfl rfl ?_
    refine WL.skip rfl rfl rfl rfl rfl ?_
    refine WL.skip rfl rfl rfl rfl rfl ?_
    refine WL.pure rfl rfl rfl (PV.pickF rfl rfl) ?_
    refine WL.asg rfl rfl ?_
    refine WL.nilS ?_
    refine CW.ret ?_
    refine RQ.r1 rfl ?_
    refine ⟨?_, hB⟩
    first | rfl | exact bT (by omega) | exact bF (by omega) | exact bD (by omega) | exact iE (by omega) | (simp_all; done) | (simp_all; omega) | (simp_all; intros; omega)
  try simp only [nq] at hc1
  refine WL.pureG rfl rfl rfl rfl rfl (PV.move rfl) ?_
  refine WL.pureG rfl rfl rfl rfl rfl (PV.move rfl) ?_
  refine WL.pureG rfl rfl rfl rfl rfl (PV.leq rfl rfl) ?_
  refine WL.pure rfl rfl rfl (PV.pickT rfl rfl) ?_
  refine WL.asg rfl rfl ?_
  refine WL.nilS ?_
  refine CW.ret ?_
  refine RQ.r1 rfl ?_
  refine ⟨?_, hB⟩
  first | rfl | exact bT (by omega) | exact bF (by omega) | exact bD (by omega) | exact iE (by omega) | (simp_all; done) | (simp_all; omega) | (simp_all; intros; omega)
theorem c_spec_l05Letters {w : World} {L : Int} : Calls Try.prog 208 #[.int .i64 L] w (Ret1 (RQt (.bool (decide (1 ≤ L ∧ L ≤ 4))) w)) := by
  have hB : Ext w w := Ext.refl w
  refine callsOf (vs := [_]) Try.func208 rfl Try.ntmps208 rfl rfl ?_
  refine CW.seq ?_
  refine CW.reg ?_
  refine WL.asg rfl rfl ?_
  refine WL.nilS ?_
  refine CW.seq ?_
  refine CW.reg ?_
  refine WL.mv rfl rfl ?_
  refine WL.op rfl (OpK.callR rfl T.cf98 rfl (c_spec_l00In) (fun w1 hXw1 => ?_))
  have hB := hB.trans hXw1
  refine WL.asg rfl rfl ?_
  refine WL.nilS ?_
  refine CW.ret ?_
  refine RQ.r1 rfl ?_
  refine ⟨?_, hB⟩
  first | rfl | exact bT (by omega) | exact bF (by omega) | exact bD (by omega) | exact iE (by omega) | (simp_all; done) | (simp_all; omega) | (simp_all; intros; omega)
theorem c_spec_l05Sided {w : World} {pa : Addr} {a0 : Int} {a1 : Int} {va2 : Value} {xa2 : List R4} {va3 : Value} {xa3 : List Bool}  (hba : Cells w pa [.int .i64 a0, .int .i64 a1, va2, va3]) (ha2 : Rd ER w va2 xa2) (ha3 : Rd EB w va3 xa3) : Calls Try.prog 158 #[.pointer (some pa)] w (Ret1 (RQt (.bool (decide (sidedV a0 a1 xa2 xa3))) w)) := by
  have hB : Ext w w := Ext.refl w
  have hla2 := ha2.leI; have hla3 := ha3.leI
  refine callsOf (vs := [_]) Try.func158 rfl Try.ntmps158 rfl rfl ?_
  refine CW.seq ?_
  refine CW.reg ?_
  refine WL.asg rfl rfl ?_
  refine WL.nilS ?_
  refine CW.seq ?_
  refine CW.seq ?_
  refine CW.draw T.mixed (by kernel_rfl) (fun _ _ _ _ _ h => h) (fun w8 w9 => Upd none w8 w9) 34 (.take 0 (.take 1 (.take 2 (.take 3 (.must 4 (.take 5 (.take 6 (.split (.take 7 (.take 8 (.take 9 (.take 10 (.take 11 (.take 12 (.take 13 (.take 14 (.take 15 (.take 16 (.take 17 (.take 18 (.take 19 (.take 20 (.take 21 (.take 22 (.take 23 (.take 24 (.take 25 (.take 26 (.take 27 (.take 28 (.take 29 (.take 30 (.take 31 (.take 32 (.take 33 .done))))))))))))))))))))))))))) (.take 7 (.take 8 (.take 9 (.take 10 (.must 11 (.take 12 (.take 13 (.take 14 (.split (.take 15 (.take 16 (.take 17 (.take 18 (.take 19 (.take 20 (.take 21 (.take 22 (.take 23 (.take 24 (.take 25 (.take 26 (.take 27 (.take 28 (.take 29 (.take 30 (.take 31 (.take 32 (.take 33 .done))))))))))))))))))) (.take 15 (.take 16 (.take 17 (.take 18 (.take 19 (.take 20 (.take 21 (.take 22 (.split (.take 23 (.take 24 (.take 25 (.take 26 (.take 27 (.take 28 (.take 29 (.take 30 (.take 31 (.take 32 (.take 33 .done))))))))))) (.take 23 (.take 24 (.take 25 (.take 26 (.take 27 (.take 28 (.take 29 (.take 30 (.take 31 (.take 32 (.take 33 .done))))))))))))))))))))))))))))))))))))) (by kernel_rfl) (fun w1 hXd => ?_)
  have hB := hB.trans hXd
  have hBr := hB
  have hS : Upd none w1 w1 := Ext.toUpd (Ext.refl _)
  refine HP.take rfl rfl rfl rfl hS (fun wS hS1 => PV.move rfl) ?_
  refine HP.take rfl rfl rfl rfl hS (fun wS hS1 => PV.nilCheck rfl) ?_
  refine HP.take rfl rfl rfl rfl hS (fun wS hS1 => (by first | exact PV.fieldAddr T.fl88_0 rfl (by first | assumption | exact Bx.cells (by assumption)) | exact PV.fieldAddrP T.fl88_0 rfl rfl)) ?_
  refine HP.take rfl rfl rfl rfl hS (fun wS hS1 => (by first | exact PV.load0 T.na2 rfl (by first | exact Cells.up (by assumption) (hBr.trans hS1) | exact Bx.cells (Bx.updD (by assumption) hS1 (Dj.nlR _)) | exact Cells.upd (by assumption) hS1 (by simp)) (Ext.refl _) rfl | exact PV.load1 T.na2 rfl (by first | exact Cells.up (by assumption) (hBr.trans hS1) | exact Bx.cells (Bx.updD (by assumption) hS1 (Dj.nlR _)) | exact Cells.upd (by assumption) hS1 (by simp)) (Ext.refl _) rfl)) ?_
  refine HP.must rfl rfl (OpK.callR rfl T.cf98 rfl (c_spec_l00In) (fun w2 hXw2 => ?_))
  refine ⟨Upd.trans hS hXw2, ?_⟩
  have hS := Upd.trans hS hXw2
  have hB := hB.trans hXw2
  refine HP.take rfl rfl rfl rfl hS (fun wS hS1 => PV.not rfl) ?_
  refine HP.take rfl rfl rfl rfl hS (fun wS hS1 => PV.move rfl) ?_
  refine HP.split (t := 11) rfl (fun hc1 => ?_) (fun hc1 => ?_)
  · skip
    try simp only [nq] at hc1
    refine HP.skip rfl rfl rfl rfl rfl rfl hS ?_
    refine HP.skip rfl rfl rfl rfl rfl rfl hS ?_
    refine HP.skip rfl rfl rfl rfl rfl rfl hS ?_
    refine HP.skip rfl rfl rfl rfl rfl rfl hS ?_
    refine HP.skip rfl rfl rfl rfl rfl rfl hS ?_
    refine HP.skip rfl rfl rfl rfl rfl rfl hS ?_
    refine HP.take rfl rfl rfl rfl hS (fun wS hS1 => PV.pickT rfl rfl) ?_
    refine HP.take rfl rfl rfl rfl hS (fun wS hS1 => PV.move rfl) ?_
    refine HP.skip rfl rfl rfl rfl rfl rfl hS ?_
    refine HP.skip rfl rfl rfl rfl rfl rfl hS ?_
    refine HP.skip rfl rfl rfl rfl rfl rfl hS ?_
    refine HP.skip rfl rfl rfl rfl rfl rfl hS ?_
    refine HP.skip rfl rfl rfl rfl rfl rfl hS ?_
    refine HP.skip rfl rfl rfl rfl rfl rfl hS ?_
    refine HP.take rfl rfl rfl rfl hS (fun wS hS1 => PV.pickT rfl rfl) ?_
    refine HP.take rfl rfl rfl rfl hS (fun wS hS1 => PV.move rfl) ?_
    refine HP.skip rfl rfl rfl rfl rfl rfl hS ?_
    refine HP.skip rfl rfl rfl rfl rfl rfl hS ?_
    refine HP.skip rfl rfl rfl rfl rfl rfl hS ?_
    refine HP.skip rfl rfl rfl rfl rfl rfl hS ?_
    refine HP.skip rfl rfl rfl rfl rfl rfl hS ?_
    refine HP.skip rfl rfl rfl rfl rfl rfl hS ?_
    refine HP.skip rfl rfl rfl rfl rfl rfl hS ?_
    refine HP.skip rfl rfl rfl rfl rfl rfl hS ?_
    refine HP.skip rfl rfl rfl rfl rfl rfl hS ?_
    refine HP.skip rfl rfl rfl rfl rfl rfl hS ?_
    refine HP.take rfl rfl rfl rfl hS (fun wS hS1 => PV.pickT rfl rfl) ?_
    refine HP.doneS ?_
    refine CW.condT rfl ?_
    refine CW.seq ?_
    refine CW.reg ?_
    refine WL.asg rfl rfl ?_
    refine WL.nilS ?_
    refine CW.ret ?_
    refine RQ.then ?_
    refine RQ.r1 rfl ?_
    refine ⟨?_, hB⟩
    first | exact bT ⟨by omega, by omega, by omega, by omega, fun q h => hq q (by omega)⟩ | exact bF (by rintro ⟨h1, h2, h3, h4, h5⟩; first | omega | (have h6 := h5 k (by omega); simp only [okArc] at h6; omega))
  try simp only [nq] at hc1
  refine HP.takeG rfl rfl rfl rfl rfl rfl hS (fun wS hS1 => PV.move rfl) ?_
  refine HP.takeG rfl rfl rfl rfl rfl rfl hS (fun wS hS1 => PV.nilCheck rfl) ?_
  refine HP.takeG rfl rfl rfl rfl rfl rfl hS (fun wS hS1 => (by first | exact PV.fieldAddr T.fl88_1 rfl (by first | assumption | exact Bx.cells (by assumption)) | exact PV.fieldAddrP T.fl88_1 rfl rfl)) ?_
  refine HP.takeG rfl rfl rfl rfl rfl rfl hS (fun wS hS1 => (by first | exact PV.load0 T.na2 rfl (by first | exact Cells.up (by assumption) (hBr.trans hS1) | exact Bx.cells (Bx.updD (by assumption) hS1 (Dj.nlR _)) | exact Cells.upd (by assumption) hS1 (by simp)) (Ext.refl _) rfl | exact PV.load1 T.na2 rfl (by first | exact Cells.up (by assumption) (hBr.trans hS1) | exact Bx.cells (Bx.updD (by assumption) hS1 (Dj.nlR _)) | exact Cells.upd (by assumption) hS1 (by simp)) (Ext.refl _) rfl)) ?_
  refine HP.mustG rfl rfl rfl rfl (OpK.callR rfl T.cf208 rfl (c_spec_l05Letters) (fun w3 hXw3 => ?_))
  refine ⟨Upd.trans hS hXw3, ?_⟩
  have hS := Upd.trans hS hXw3
  have hB := hB.trans hXw3
  refine HP.takeG rfl rfl rfl rfl rfl rfl hS (fun wS hS1 => PV.not rfl) ?_
  refine HP.take rfl rfl rfl rfl hS (fun wS hS1 => PV.pickF rfl rfl) ?_
  refine HP.take rfl rfl rfl rfl hS (fun wS hS1 => PV.move rfl) ?_
  refine HP.split (t := 19) rfl (fun hc2 => ?_) (fun hc2 => ?_)
  · skip
    try simp only [nq] at hc2
    refine HP.skip rfl rfl rfl rfl rfl rfl hS ?_
    refine HP.skip rfl rfl rfl rfl rfl rfl hS ?_
    refine HP.skip rfl rfl rfl rfl rfl rfl hS ?_
    refine HP.skip rfl rfl rfl rfl rfl rfl hS ?_
    refine HP.skip rfl rfl rfl rfl rfl rfl hS ?_
    refine HP.skip rfl rfl rfl rfl rfl rfl hS ?_
    refine HP.take rfl rfl rfl rfl hS (fun wS hS1 => PV.pickT rfl rfl) ?_
    refine HP.take rfl rfl rfl rfl hS (fun wS hS1 => PV.move rfl) ?_
    refine HP.skip rfl rfl rfl rfl rfl rfl hS ?_
    refine HP.skip rfl rfl rfl rfl rfl rfl hS ?_
    refine HP.skip rfl rfl rfl rfl rfl rfl hS ?_
    refine HP.skip rfl rfl rfl rfl rfl rfl hS ?_
    refine HP.skip rfl rfl rfl rfl rfl rfl hS ?_
    refine HP.skip rfl rfl rfl rfl rfl rfl hS ?_
    refine HP.skip rfl rfl rfl rfl rfl rfl hS ?_
    refine HP.skip rfl rfl rfl rfl rfl rfl hS ?_
    refine HP.skip rfl rfl rfl rfl rfl rfl hS ?_
    refine HP.skip rfl rfl rfl rfl rfl rfl hS ?_
    refine HP.take rfl rfl rfl rfl hS (fun wS hS1 => PV.pickT rfl rfl) ?_
    refine HP.doneS ?_
    refine CW.condT rfl ?_
    refine CW.seq ?_
    refine CW.reg ?_
    refine WL.asg rfl rfl ?_
    refine WL.nilS ?_
    refine CW.ret ?_
    refine RQ.then ?_
    refine RQ.r1 rfl ?_
    refine ⟨?_, hB⟩
    first | exact bT ⟨by omega, by omega, by omega, by omega, fun q h => hq q (by omega)⟩ | exact bF (by rintro ⟨h1, h2, h3, h4, h5⟩; first | omega | (have h6 := h5 k (by omega); simp only [okArc] at h6; omega))
  try simp only [nq] at hc2
  refine HP.takeG rfl rfl rfl rfl rfl rfl hS (fun wS hS1 => PV.move rfl) ?_
  refine HP.takeG rfl rfl rfl rfl rfl rfl hS (fun wS hS1 => PV.nilCheck rfl) ?_
  refine HP.takeG rfl rfl rfl rfl rfl rfl hS (fun wS hS1 => (by first | exact PV.fieldAddr T.fl88_2 rfl (by first | assumption | exact Bx.cells (by assumption)) | exact PV.fieldAddrP T.fl88_2 rfl rfl)) ?_
  refine HP.takeG rfl rfl rfl rfl rfl rfl hS (fun wS hS1 => (by first | exact PV.load0 T.na86 rfl (by first | exact Cells.up (by assumption) (hBr.trans hS1) | exact Bx.cells (Bx.updD (by assumption) hS1 (Dj.nlR _)) | exact Cells.upd (by assumption) hS1 (by simp)) (Ext.refl _) rfl | exact PV.load1 T.na86 rfl (by first | exact Cells.up (by assumption) (hBr.trans hS1) | exact Bx.cells (Bx.updD (by assumption) hS1 (Dj.nlR _)) | exact Cells.upd (by assumption) hS1 (by simp)) (Ext.refl _) rfl)) ?_
  refine HP.takeG rfl rfl rfl rfl rfl rfl hS (fun wS hS1 => (by first | exact PV.len rfl (by assumption) T.sl86 | exact PV.lenOs rfl (by assumption) T.sl86 | exact PV.len rfl (NL.rd (by assumption)) T.sl86 | exact PV.len rfl (Inn.rd (by assumption) (by omega)) T.sl86)) ?_
  refine HP.takeG rfl rfl rfl rfl rfl rfl hS (fun wS hS1 => PV.gtr rfl rfl) ?_
  refine HP.take rfl rfl rfl rfl hS (fun wS hS1 => PV.pickF rfl rfl) ?_
  refine HP.take rfl rfl rfl rfl hS (fun wS hS1 => PV.move rfl) ?_
  refine HP.split (t := 27) rfl (fun hc3 => ?_) (fun hc3 => ?_)
  · skip
    try simp only [nq] at hc3
    refine HP.skip rfl rfl rfl rfl rfl rfl hS ?_
    refine HP.skip rfl rfl rfl rfl rfl rfl hS ?_
    refine HP.skip rfl rfl rfl rfl rfl rfl hS ?_
    refine HP.skip rfl rfl rfl rfl rfl rfl hS ?_
    refine HP.skip rfl rfl rfl rfl rfl rfl hS ?_
    refine HP.skip rfl rfl rfl rfl rfl rfl hS ?_
    refine HP.skip rfl rfl rfl rfl rfl rfl hS ?_
    refine HP.skip rfl rfl rfl rfl rfl rfl hS ?_
    refine HP.skip rfl rfl rfl rfl rfl rfl hS ?_
    refine HP.skip rfl rfl rfl rfl rfl rfl hS ?_
    refine HP.take rfl rfl rfl rfl hS (fun wS hS1 => PV.pickT rfl rfl) ?_
    refine HP.doneS ?_
    refine CW.condT rfl ?_
    refine CW.seq ?_
    refine CW.reg ?_
    refine WL.asg rfl rfl ?_
    refine WL.nilS ?_
    refine CW.ret ?_
    refine RQ.then ?_
    refine RQ.r1 rfl ?_
    refine ⟨?_, hB⟩
    first | exact bT ⟨by omega, by omega, by omega, by omega, fun q h => hq q (by omega)⟩ | exact bF (by rintro ⟨h1, h2, h3, h4, h5⟩; first | omega | (have h6 := h5 k (by omega); simp only [okArc] at h6; omega))
  try simp only [nq] at hc3
  refine HP.takeG rfl rfl rfl rfl rfl rfl hS (fun wS hS1 => PV.move rfl) ?_
  refine HP.takeG rfl rfl rfl rfl rfl rfl hS (fun wS hS1 => PV.nilCheck rfl) ?_
  refine HP.takeG rfl rfl rfl rfl rfl rfl hS (fun wS hS1 => (by first | exact PV.fieldAddr T.fl88_3 rfl (by first | assumption | exact Bx.cells (by assumption)) | exact PV.fieldAddrP T.fl88_3 rfl rfl)) ?_
  refine HP.takeG rfl rfl rfl rfl rfl rfl hS (fun wS hS1 => (by first | exact PV.load0 T.na62 rfl (by first | exact Cells.up (by assumption) (hBr.trans hS1) | exact Bx.cells (Bx.updD (by assumption) hS1 (Dj.nlR _)) | exact Cells.upd (by assumption) hS1 (by simp)) (Ext.refl _) rfl | exact PV.load1 T.na62 rfl (by first | exact Cells.up (by assumption) (hBr.trans hS1) | exact Bx.cells (Bx.updD (by assumption) hS1 (Dj.nlR _)) | exact Cells.upd (by assumption) hS1 (by simp)) (Ext.refl _) rfl)) ?_
  refine HP.takeG rfl rfl rfl rfl rfl rfl hS (fun wS hS1 => (by first | exact PV.len rfl (by assumption) T.sl62 | exact PV.lenOs rfl (by assumption) T.sl62 | exact PV.len rfl (NL.rd (by assumption)) T.sl62 | exact PV.len rfl (Inn.rd (by assumption) (by omega)) T.sl62)) ?_
  refine HP.takeG rfl rfl rfl rfl rfl rfl hS (fun wS hS1 => PV.move rfl) ?_
  refine HP.takeG rfl rfl rfl rfl rfl rfl hS (fun wS hS1 => PV.nilCheck rfl) ?_
  refine HP.takeG rfl rfl rfl rfl rfl rfl hS (fun wS hS1 => (by first | exact PV.fieldAddr T.fl88_0 rfl (by first | assumption | exact Bx.cells (by assumption)) | exact PV.fieldAddrP T.fl88_0 rfl rfl)) ?_
  refine HP.takeG rfl rfl rfl rfl rfl rfl hS (fun wS hS1 => (by first | exact PV.load0 T.na2 rfl (by first | exact Cells.up (by assumption) (hBr.trans hS1) | exact Bx.cells (Bx.updD (by assumption) hS1 (Dj.nlR _)) | exact Cells.upd (by assumption) hS1 (by simp)) (Ext.refl _) rfl | exact PV.load1 T.na2 rfl (by first | exact Cells.up (by assumption) (hBr.trans hS1) | exact Bx.cells (Bx.updD (by assumption) hS1 (Dj.nlR _)) | exact Cells.upd (by assumption) hS1 (by simp)) (Ext.refl _) rfl)) ?_
  refine HP.takeG rfl rfl rfl rfl rfl rfl hS (fun wS hS1 => PV.neq rfl rfl) ?_
  refine HP.take rfl rfl rfl rfl hS (fun wS hS1 => PV.pickF rfl rfl) ?_
  refine HP.doneS ?_
  refine CW.cond rfl (fun hc4 => ?_) (fun hc4 => ?_)
  · skip
    try simp only [nq] at hc4
    refine CW.seq ?_
    refine CW.reg ?_
    refine WL.asg rfl rfl ?_
    refine WL.nilS ?_
    refine CW.ret ?_
    refine RQ.then ?_
    refine RQ.r1 rfl ?_
    refine ⟨?_, hB⟩
    first | exact bT ⟨by omega, by omega, by omega, by omega, fun q h => hq q (by omega)⟩ | exact bF (by rintro ⟨h1, h2, h3, h4, h5⟩; first | omega | (have h6 := h5 k (by omega); simp only [okArc] at h6; omega))
  try simp only [nq] at hc4
  refine CW.skipS ?_
  refine CW.seq ?_
  refine CW.seq ?_
  refine CW.reg ?_
  refine WL.mv rfl rfl ?_
  refine WL.pure rfl rfl rfl (PV.nilCheck rfl) ?_
  refine WL.pure rfl rfl rfl ((by first | exact PV.fieldAddr T.fl88_2 rfl (by first | assumption | exact Bx.cells (by assumption)) | exact PV.fieldAddrP T.fl88_2 rfl rfl)) ?_
  refine WL.pure rfl rfl rfl ((by first | exact PV.load0 T.na86 rfl (by first | exact Cells.up (by assumption) hB | exact Bx.cells (by assumption) | assumption) (Ext.refl _) rfl | exact PV.load1 T.na86 rfl (by first | exact Cells.up (by assumption) hB | exact Bx.cells (by assumption) | assumption) (Ext.refl _) rfl)) ?_
  refine WL.pure rfl rfl rfl ((by first | exact PV.len rfl (by assumption) T.sl86 | exact PV.lenOs rfl (by assumption) T.sl86 | exact PV.len rfl (NL.rd (by assumption)) T.sl86 | exact PV.len rfl (Inn.rd (by assumption) (by omega)) T.sl86)) ?_
  refine WL.mv rfl rfl ?_
  refine WL.nilS ?_
  refine CW.block ?_
  refine CW.loop (σk := [(0, _), (43, _)]) (fun ρ wz m => ∃ (k : Nat), ρ = [(44, .int .i64 (k : Nat))] ∧ m = xa2.length - k ∧ UpdL [] w3 wz ∧ (k ≤ xa2.length) ∧ (∀ q : Nat, q < k → okArc a0 a1 (xa2.getD q (0, 0, 0, 0)))) (ρ₀ := [(44, _)]) (m₀ := _) ⟨rfl, rfl, rfl, trivial⟩ ⟨0, rfl, rfl, (UpdL.refl _ _), (by first | omega | rfl | (simp; done) | assumption | (simp_all; done)), (by intro q h1; exact absurd h1 (by omega))⟩ ?_
  rintro _ wl1 _ ⟨k, rfl, rfl, hU0, hk, hq⟩
  have hB := hB.loop hU0 trivial
  refine CW.seq ?_
  refine CW.reg ?_
  refine WL.pure rfl rfl rfl (PV.lss rfl rfl) ?_
  refine WL.nilS ?_
  refine CW.seq ?_
  refine CW.cond rfl (fun hc5 => ?_) (fun hc5 => ?_)
  · skip
    try simp only [nq] at hc5
    refine CW.skipS ?_
    refine CW.seq ?_
    refine CW.block ?_
    refine CW.seq ?_
    refine CW.reg ?_
    refine WL.mv rfl rfl ?_
    refine WL.asg rfl rfl ?_
    refine WL.nilS ?_
    refine CW.seq ?_
    refine CW.reg ?_
    refine WL.mv rfl rfl ?_
    refine WL.pure rfl rfl rfl (PV.nilCheck rfl) ?_
    refine WL.pure rfl rfl rfl ((by first | exact PV.fieldAddr T.fl88_2 rfl (by first | assumption | exact Bx.cells (by assumption)) | exact PV.fieldAddrP T.fl88_2 rfl rfl)) ?_
    refine WL.pure rfl rfl rfl ((by first | exact PV.load0 T.na86 rfl (by first | exact Cells.up (by assumption) hB | exact Bx.cells (by assumption) | assumption) (Ext.refl _) rfl | exact PV.load1 T.na86 rfl (by first | exact Cells.up (by assumption) hB | exact Bx.cells (by assumption) | assumption) (Ext.refl _) rfl)) ?_
    refine WL.mv rfl rfl ?_
    first
      | refine WL.at (x := .tmp 50) (y := .tmp 51) (E := ER) ((0, 0, 0, 0)) rfl rfl (by first | assumption | exact Inn.rd (by assumption) (by omega)) (by first | omega | (simp only [List.length_set]; omega) | (simp only [List.length_append, List.length_take, List.length_replicate, List.length_drop]; omega)) (fun p1 csp1 hpp1 hcp1 hq => ?_)
      | refine WL.atZ (x := .tmp 50) (y := .tmp 51) (E := ER) ((0, 0, 0, 0)) rfl rfl (by first | assumption | exact Inn.rd (by assumption) (by omega)) (by first | omega | (simp only [List.length_set]; omega) | (simp only [List.length_append, List.length_take, List.length_replicate, List.length_drop]; omega)) (fun p1 csp1 hpp1 hzp1 hcp1 hq => ?_)
    cases hq
    refine WL.pure rfl rfl rfl ((by first | exact PV.indexAddr hpp1 rfl rfl T.sl86 | exact PV.indexAddr hpp1 rfl (by rw [← hzp1]; rfl) T.sl86)) ?_
    refine WL.asg rfl rfl ?_
    refine WL.nilS ?_
    refine CW.seq ?_
    refine CW.draw T.mixed (by kernel_rfl) (fun _ _ _ _ _ h => h) (fun w8 w9 => Upd none w8 w9) 50 (.take 0 (.take 1 (.take 2 (.take 3 (.take 4 (.take 5 (.take 6 (.take 7 (.take 8 (.must 9 (.take 10 (.take 11 (.split (.take 12 (.take 13 (.take 14 (.take 15 (.take 16 (.take 17 (.take 18 (.take 19 (.take 20 (.take 21 (.take 22 (.take 23 (.take 24 (.take 25 (.take 26 (.take 27 (.take 28 (.take 29 (.take 30 (.take 31 (.take 32 (.take 33 (.take 34 (.take 35 (.take 36 (.take 37 (.take 38 (.take 39 (.take 40 (.take 41 (.take 42 (.take 43 (.take 44 (.take 45 (.take 46 (.take 47 (.take 48 (.take 49 .done)))))))))))))))))))))))))))))))))))))) (.take 12 (.take 13 (.take 14 (.take 15 (.take 16 (.take 17 (.take 18 (.take 19 (.take 20 (.must 21 (.take 22 (.take 23 (.take 24 (.split (.take 25 (.take 26 (.take 27 (.take 28 (.take 29 (.take 30 (.take 31 (.take 32 (.take 33 (.take 34 (.take 35 (.take 36 (.take 37 (.take 38 (.take 39 (.take 40 (.take 41 (.take 42 (.take 43 (.take 44 (.take 45 (.take 46 (.take 47 (.take 48 (.take 49 .done))))))))))))))))))))))))) (.take 25 (.take 26 (.take 27 (.take 28 (.take 29 (.take 30 (.take 31 (.take 32 (.take 33 (.must 34 (.take 35 (.take 36 (.take 37 (.split (.take 38 (.take 39 (.take 40 (.take 41 (.take 42 (.take 43 (.take 44 (.take 45 (.take 46 (.take 47 (.take 48 (.take 49 .done)))))))))))) (.take 38 (.take 39 (.take 40 (.take 41 (.take 42 (.take 43 (.take 44 (.take 45 (.take 46 (.must 47 (.take 48 (.take 49 .done))))))))))))))))))))))))))))))))))))))))))))))))))))) (by kernel_rfl) (fun w4 hXd => ?_)
    have hB := hB.trans hXd
    have hU0 := hU0.ext hXd
    have hBr := hB
    have hS : Upd none w4 w4 := Ext.toUpd (Ext.refl _)
    refine HP.take rfl rfl rfl rfl hS (fun wS hS1 => PV.move rfl) ?_
    refine HP.take rfl rfl rfl rfl hS (fun wS hS1 => PV.nilCheck rfl) ?_
    refine HP.take rfl rfl rfl rfl hS (fun wS hS1 => (by first | exact PV.fieldAddr T.fl178_0 rfl (by first | assumption | exact Bx.cells (by assumption)) | exact PV.fieldAddrP T.fl178_0 rfl rfl)) ?_
    refine HP.take rfl rfl rfl rfl hS (fun wS hS1 => (by first | exact PV.load0 T.na2 rfl (by first | exact Cells.up (by assumption) (hBr.trans hS1) | exact Bx.cells (Bx.updD (by assumption) hS1 (Dj.nlR _)) | exact Cells.upd (by assumption) hS1 (by simp)) (Ext.refl _) rfl | exact PV.load1 T.na2 rfl (by first | exact Cells.up (by assumption) (hBr.trans hS1) | exact Bx.cells (Bx.updD (by assumption) hS1 (Dj.nlR _)) | exact Cells.upd (by assumption) hS1 (by simp)) (Ext.refl _) rfl)) ?_
    refine HP.take rfl rfl rfl rfl hS (fun wS hS1 => PV.move rfl) ?_
    refine HP.take rfl rfl rfl rfl hS (fun wS hS1 => PV.nilCheck rfl) ?_
    refine HP.take rfl rfl rfl rfl hS (fun wS hS1 => (by first | exact PV.fieldAddr T.fl88_0 rfl (by first | assumption | exact Bx.cells (by assumption)) | exact PV.fieldAddrP T.fl88_0 rfl rfl)) ?_
    refine HP.take rfl rfl rfl rfl hS (fun wS hS1 => (by first | exact PV.load0 T.na2 rfl (by first | exact Cells.up (by assumption) (hBr.trans hS1) | exact Bx.cells (Bx.updD (by assumption) hS1 (Dj.nlR _)) | exact Cells.upd (by assumption) hS1 (by simp)) (Ext.refl _) rfl | exact PV.load1 T.na2 rfl (by first | exact Cells.up (by assumption) (hBr.trans hS1) | exact Bx.cells (Bx.updD (by assumption) hS1 (Dj.nlR _)) | exact Cells.upd (by assumption) hS1 (by simp)) (Ext.refl _) rfl)) ?_
    refine HP.take rfl rfl rfl rfl hS (fun wS hS1 => PV.sub rfl rfl (by constructor <;> omega)) ?_
    refine HP.must rfl rfl (OpK.callR rfl T.cf98 rfl (c_spec_l00In) (fun w5 hXw5 => ?_))
    refine ⟨Upd.trans hS hXw5, ?_⟩
    have hS := Upd.trans hS hXw5
    have hB := hB.trans hXw5
    have hU0 := hU0.ext hXw5
    refine HP.take rfl rfl rfl rfl hS (fun wS hS1 => PV.not rfl) ?_
    refine HP.take rfl rfl rfl rfl hS (fun wS hS1 => PV.move rfl) ?_
    refine HP.split (t := 64) rfl (fun hc6 => ?_) (fun hc6 => ?_)
    · skip
      try simp only [nq] at hc6
      refine HP.skip rfl rfl rfl rfl rfl rfl hS ?_
      refine HP.skip rfl rfl rfl rfl rfl rfl hS ?_
      refine HP.skip rfl rfl rfl rfl rfl rfl hS ?_
      refine HP.skip rfl rfl rfl rfl rfl rfl hS ?_
      refine HP.skip rfl rfl rfl rfl rfl rfl hS ?_
      refine HP.skip rfl rfl rfl rfl rfl rfl hS ?_
      refine HP.skip rfl rfl rfl rfl rfl rfl hS ?_
      refine HP.skip rfl rfl rfl rfl rfl rfl hS ?_
      refine HP.skip rfl rfl rfl rfl rfl rfl hS ?_
      refine HP.skip rfl rfl rfl rfl rfl rfl hS ?_
      refine HP.skip rfl rfl rfl rfl rfl rfl hS ?_
      refine HP.take rfl rfl rfl rfl hS (fun wS hS1 => PV.pickT rfl rfl) ?_
      refine HP.take rfl rfl rfl rfl hS (fun wS hS1 => PV.move rfl) ?_
      refine HP.skip rfl rfl rfl rfl rfl rfl hS ?_
      refine HP.skip rfl rfl rfl rfl rfl rfl hS ?_
      refine HP.skip rfl rfl rfl rfl rfl rfl hS ?_
      refine HP.skip rfl rfl rfl rfl rfl rfl hS ?_
      refine HP.skip rfl rfl rfl rfl rfl rfl hS ?_
      refine HP.skip rfl rfl rfl rfl rfl rfl hS ?_
      refine HP.skip rfl rfl rfl rfl rfl rfl hS ?_
      refine HP.skip rfl rfl rfl rfl rfl rfl hS ?_
      refine HP.skip rfl rfl rfl rfl rfl rfl hS ?_
      refine HP.skip rfl rfl rfl rfl rfl rfl hS ?_
      refine HP.skip rfl rfl rfl rfl rfl rfl hS ?_
      refine HP.take rfl rfl rfl rfl hS (fun wS hS1 => PV.pickT rfl rfl) ?_
      refine HP.take rfl rfl rfl rfl hS (fun wS hS1 => PV.move rfl) ?_
      refine HP.skip rfl rfl rfl rfl rfl rfl hS ?_
      refine HP.skip rfl rfl rfl rfl rfl rfl hS ?_
      refine HP.skip rfl rfl rfl rfl rfl rfl hS ?_
      refine HP.skip rfl rfl rfl rfl rfl rfl hS ?_
      refine HP.skip rfl rfl rfl rfl rfl rfl hS ?_
      refine HP.skip rfl rfl rfl rfl rfl rfl hS ?_
      refine HP.skip rfl rfl rfl rfl rfl rfl hS ?_
      refine HP.skip rfl rfl rfl rfl rfl rfl hS ?_
      refine HP.skip rfl rfl rfl rfl rfl rfl hS ?_
      refine HP.skip rfl rfl rfl rfl rfl rfl hS ?_
      refine HP.skip rfl rfl rfl rfl rfl rfl hS ?_
      refine HP.take rfl rfl rfl rfl hS (fun wS hS1 => PV.pickT rfl rfl) ?_
      refine HP.doneS ?_
      refine CW.condT rfl ?_
      refine CW.seq ?_
      refine CW.reg ?_
      refine WL.asg rfl rfl ?_
      refine WL.nilS ?_
      refine CW.ret ?_
      refine RQ.block ?_
      refine RQ.then ?_
      refine RQ.then ?_
      refine RQ.block ?_
      refine RQ.then ?_
      refine RQ.r1 rfl ?_
      refine ⟨?_, hB⟩
      first | exact bT ⟨by omega, by omega, by omega, by omega, fun q h => hq q (by omega)⟩ | exact bF (by rintro ⟨h1, h2, h3, h4, h5⟩; first | omega | (have h6 := h5 k (by omega); simp only [okArc] at h6; omega))
    try simp only [nq] at hc6
    refine HP.takeG rfl rfl rfl rfl rfl rfl hS (fun wS hS1 => PV.move rfl) ?_
    refine HP.takeG rfl rfl rfl rfl rfl rfl hS (fun wS hS1 => PV.nilCheck rfl) ?_
    refine HP.takeG rfl rfl rfl rfl rfl rfl hS (fun wS hS1 => (by first | exact PV.fieldAddr T.fl178_1 rfl (by first | assumption | exact Bx.cells (by assumption)) | exact PV.fieldAddrP T.fl178_1 rfl rfl)) ?_
    refine HP.takeG rfl rfl rfl rfl rfl rfl hS (fun wS hS1 => (by first | exact PV.load0 T.na2 rfl (by first | exact Cells.up (by assumption) (hBr.trans hS1) | exact Bx.cells (Bx.updD (by assumption) hS1 (Dj.nlR _)) | exact Cells.upd (by assumption) hS1 (by simp)) (Ext.refl _) rfl | exact PV.load1 T.na2 rfl (by first | exact Cells.up (by assumption) (hBr.trans hS1) | exact Bx.cells (Bx.updD (by assumption) hS1 (Dj.nlR _)) | exact Cells.upd (by assumption) hS1 (by simp)) (Ext.refl _) rfl)) ?_
    refine HP.takeG rfl rfl rfl rfl rfl rfl hS (fun wS hS1 => PV.move rfl) ?_
    refine HP.takeG rfl rfl rfl rfl rfl rfl hS (fun wS hS1 => PV.nilCheck rfl) ?_
    refine HP.takeG rfl rfl rfl rfl rfl rfl hS (fun wS hS1 => (by first | exact PV.fieldAddr T.fl88_0 rfl (by first | assumption | exact Bx.cells (by assumption)) | exact PV.fieldAddrP T.fl88_0 rfl rfl)) ?_
    refine HP.takeG rfl rfl rfl rfl rfl rfl hS (fun wS hS1 => (by first | exact PV.load0 T.na2 rfl (by first | exact Cells.up (by assumption) (hBr.trans hS1) | exact Bx.cells (Bx.updD (by assumption) hS1 (Dj.nlR _)) | exact Cells.upd (by assumption) hS1 (by simp)) (Ext.refl _) rfl | exact PV.load1 T.na2 rfl (by first | exact Cells.up (by assumption) (hBr.trans hS1) | exact Bx.cells (Bx.updD (by assumption) hS1 (Dj.nlR _)) | exact Cells.upd (by assumption) hS1 (by simp)) (Ext.refl _) rfl)) ?_
    refine HP.takeG rfl rfl rfl rfl rfl rfl hS (fun wS hS1 => PV.sub rfl rfl (by constructor <;> omega)) ?_
    refine HP.mustG rfl rfl rfl rfl (OpK.callR rfl T.cf98 rfl (c_spec_l00In) (fun w6 hXw6 => ?_))
    refine ⟨Upd.trans hS hXw6, ?_⟩
    have hS := Upd.trans hS hXw6
    have hB := hB.trans hXw6
    have hU0 := hU0.ext hXw6
    refine HP.takeG rfl rfl rfl rfl rfl rfl hS (fun wS hS1 => PV.not rfl) ?_
    refine HP.take rfl rfl rfl rfl hS (fun wS hS1 => PV.pickF rfl rfl) ?_
    refine HP.take rfl rfl rfl rfl hS (fun wS hS1 => PV.move rfl) ?_
    refine HP.split (t := 77) rfl (fun hc7 => ?_) (fun hc7 => ?_)
    · skip
      try simp only [nq] at hc7
      refine HP.skip rfl rfl rfl rfl rfl rfl hS ?_
      refine HP.skip rfl rfl rfl rfl rfl rfl hS ?_
      refine HP.skip rfl rfl rfl rfl rfl rfl hS ?_
      refine HP.skip rfl rfl rfl rfl rfl rfl hS ?_
      refine HP.skip rfl rfl rfl rfl rfl rfl hS ?_
      refine HP.skip rfl rfl rfl rfl rfl rfl hS ?_
      refine HP.skip rfl rfl rfl rfl rfl rfl hS ?_
      refine HP.skip rfl rfl rfl rfl rfl rfl hS ?_
      refine HP.skip rfl rfl rfl rfl rfl rfl hS ?_
      refine HP.skip rfl rfl rfl rfl rfl rfl hS ?_
      refine HP.skip rfl rfl rfl rfl rfl rfl hS ?_
      refine HP.take rfl rfl rfl rfl hS (fun wS hS1 => PV.pickT rfl rfl) ?_
      refine HP.take rfl rfl rfl rfl hS (fun wS hS1 => PV.move rfl) ?_
      refine HP.skip rfl rfl rfl rfl rfl rfl hS ?_
      refine HP.skip rfl rfl rfl rfl rfl rfl hS ?_
      refine HP.skip rfl rfl rfl rfl rfl rfl hS ?_
      refine HP.skip rfl rfl rfl rfl rfl rfl hS ?_
      refine HP.skip rfl rfl rfl rfl rfl rfl hS ?_
      refine HP.skip rfl rfl rfl rfl rfl rfl hS ?_
      refine HP.skip rfl rfl rfl rfl rfl rfl hS ?_
      refine HP.skip rfl rfl rfl rfl rfl rfl hS ?_
      refine HP.skip rfl rfl rfl rfl rfl rfl hS ?_
      refine HP.skip rfl rfl rfl rfl rfl rfl hS ?_
      refine HP.skip rfl rfl rfl rfl rfl rfl hS ?_
      refine HP.take rfl rfl rfl rfl hS (fun wS hS1 => PV.pickT rfl rfl) ?_
      refine HP.doneS ?_
      refine CW.condT rfl ?_
      refine CW.seq ?_
      refine CW.reg ?_
      refine WL.asg rfl rfl ?_
      refine WL.nilS ?_
      refine CW.ret ?_
      refine RQ.block ?_
      refine RQ.then ?_
      refine RQ.then ?_
      refine RQ.block ?_
      refine RQ.then ?_
      refine RQ.r1 rfl ?_
      refine ⟨?_, hB⟩
      first | exact bT ⟨by omega, by omega, by omega, by omega, fun q h => hq q (by omega)⟩ | exact bF (by rintro ⟨h1, h2, h3, h4, h5⟩; first | omega | (have h6 := h5 k (by omega); simp only [okArc] at h6; omega))
    try simp only [nq] at hc7
    refine HP.takeG rfl rfl rfl rfl rfl rfl hS (fun wS hS1 => PV.move rfl) ?_
    refine HP.takeG rfl rfl rfl rfl rfl rfl hS (fun wS hS1 => PV.nilCheck rfl) ?_
    refine HP.takeG rfl rfl rfl rfl rfl rfl hS (fun wS hS1 => (by first | exact PV.fieldAddr T.fl178_2 rfl (by first | assumption | exact Bx.cells (by assumption)) | exact PV.fieldAddrP T.fl178_2 rfl rfl)) ?_
    refine HP.takeG rfl rfl rfl rfl rfl rfl hS (fun wS hS1 => (by first | exact PV.load0 T.na2 rfl (by first | exact Cells.up (by assumption) (hBr.trans hS1) | exact Bx.cells (Bx.updD (by assumption) hS1 (Dj.nlR _)) | exact Cells.upd (by assumption) hS1 (by simp)) (Ext.refl _) rfl | exact PV.load1 T.na2 rfl (by first | exact Cells.up (by assumption) (hBr.trans hS1) | exact Bx.cells (Bx.updD (by assumption) hS1 (Dj.nlR _)) | exact Cells.upd (by assumption) hS1 (by simp)) (Ext.refl _) rfl)) ?_
    refine HP.takeG rfl rfl rfl rfl rfl rfl hS (fun wS hS1 => PV.move rfl) ?_
    refine HP.takeG rfl rfl rfl rfl rfl rfl hS (fun wS hS1 => PV.nilCheck rfl) ?_
    refine HP.takeG rfl rfl rfl rfl rfl rfl hS (fun wS hS1 => (by first | exact PV.fieldAddr T.fl88_1 rfl (by first | assumption | exact Bx.cells (by assumption)) | exact PV.fieldAddrP T.fl88_1 rfl rfl)) ?_
    refine HP.takeG rfl rfl rfl rfl rfl rfl hS (fun wS hS1 => (by first | exact PV.load0 T.na2 rfl (by first | exact Cells.up (by assumption) (hBr.trans hS1) | exact Bx.cells (Bx.updD (by assumption) hS1 (Dj.nlR _)) | exact Cells.upd (by assumption) hS1 (by simp)) (Ext.refl _) rfl | exact PV.load1 T.na2 rfl (by first | exact Cells.up (by assumption) (hBr.trans hS1) | exact Bx.cells (Bx.updD (by assumption) hS1 (Dj.nlR _)) | exact Cells.upd (by assumption) hS1 (by simp)) (Ext.refl _) rfl)) ?_
    refine HP.takeG rfl rfl rfl rfl rfl rfl hS (fun wS hS1 => PV.sub rfl rfl (by constructor <;> omega)) ?_
    refine HP.mustG rfl rfl rfl rfl (OpK.callR rfl T.cf98 rfl (c_spec_l00In) (fun w7 hXw7 => ?_))
    refine ⟨Upd.trans hS hXw7, ?_⟩
    have hS := Upd.trans hS hXw7
    have hB := hB.trans hXw7
    have hU0 := hU0.ext hXw7
    refine HP.takeG rfl rfl rfl rfl rfl rfl hS (fun wS hS1 => PV.not rfl) ?_
    refine HP.take rfl rfl rfl rfl hS (fun wS hS1 => PV.pickF rfl rfl) ?_
    refine HP.take rfl rfl rfl rfl hS (fun wS hS1 => PV.move rfl) ?_
    refine HP.split (t := 90) rfl (fun hc8 => ?_) (fun hc8 => ?_)
    · skip
      try simp only [nq] at hc8
      refine HP.skip rfl rfl rfl rfl rfl rfl hS ?_
      refine HP.skip rfl rfl rfl rfl rfl rfl hS ?_
      refine HP.skip rfl rfl rfl rfl rfl rfl hS ?_
      refine HP.skip rfl rfl rfl rfl rfl rfl hS ?_
      refine HP.skip rfl rfl rfl rfl rfl rfl hS ?_
      refine HP.skip rfl rfl rfl rfl rfl rfl hS ?_
      refine HP.skip rfl rfl rfl rfl rfl rfl hS ?_
      refine HP.skip rfl rfl rfl rfl rfl rfl hS ?_
      refine HP.skip rfl rfl rfl rfl rfl rfl hS ?_
      refine HP.skip rfl rfl rfl rfl rfl rfl hS ?_
      refine HP.skip rfl rfl rfl rfl rfl rfl hS ?_
      refine HP.take rfl rfl rfl rfl hS (fun wS hS1 => PV.pickT rfl rfl) ?_
      refine HP.doneS ?_
      refine CW.condT rfl ?_
      refine CW.seq ?_
      refine CW.reg ?_
      refine WL.asg rfl rfl ?_
      refine WL.nilS ?_
      refine CW.ret ?_
      refine RQ.block ?_
      refine RQ.then ?_
      refine RQ.then ?_
      refine RQ.block ?_
      refine RQ.then ?_
      refine RQ.r1 rfl ?_
      refine ⟨?_, hB⟩
      first | exact bT ⟨by omega, by omega, by omega, by omega, fun q h => hq q (by omega)⟩ | exact bF (by rintro ⟨h1, h2, h3, h4, h5⟩; first | omega | (have h6 := h5 k (by omega); simp only [okArc] at h6; omega))
    try simp only [nq] at hc8
    refine HP.takeG rfl rfl rfl rfl rfl rfl hS (fun wS hS1 => PV.move rfl) ?_
    refine HP.takeG rfl rfl rfl rfl rfl rfl hS (fun wS hS1 => PV.nilCheck rfl) ?_
    refine HP.takeG rfl rfl rfl rfl rfl rfl hS (fun wS hS1 => (by first | exact PV.fieldAddr T.fl178_3 rfl (by first | assumption | exact Bx.cells (by assumption)) | exact PV.fieldAddrP T.fl178_3 rfl rfl)) ?_
    refine HP.takeG rfl rfl rfl rfl rfl rfl hS (fun wS hS1 => (by first | exact PV.load0 T.na2 rfl (by first | exact Cells.up (by assumption) (hBr.trans hS1) | exact Bx.cells (Bx.updD (by assumption) hS1 (Dj.nlR _)) | exact Cells.upd (by assumption) hS1 (by simp)) (Ext.refl _) rfl | exact PV.load1 T.na2 rfl (by first | exact Cells.up (by assumption) (hBr.trans hS1) | exact Bx.cells (Bx.updD (by assumption) hS1 (Dj.nlR _)) | exact Cells.upd (by assumption) hS1 (by simp)) (Ext.refl _) rfl)) ?_
    refine HP.takeG rfl rfl rfl rfl rfl rfl hS (fun wS hS1 => PV.move rfl) ?_
    refine HP.takeG rfl rfl rfl rfl rfl rfl hS (fun wS hS1 => PV.nilCheck rfl) ?_
    refine HP.takeG rfl rfl rfl rfl rfl rfl hS (fun wS hS1 => (by first | exact PV.fieldAddr T.fl88_1 rfl (by first | assumption | exact Bx.cells (by assumption)) | exact PV.fieldAddrP T.fl88_1 rfl rfl)) ?_
    refine HP.takeG rfl rfl rfl rfl rfl rfl hS (fun wS hS1 => (by first | exact PV.load0 T.na2 rfl (by first | exact Cells.up (by assumption) (hBr.trans hS1) | exact Bx.cells (Bx.updD (by assumption) hS1 (Dj.nlR _)) | exact Cells.upd (by assumption) hS1 (by simp)) (Ext.refl _) rfl | exact PV.load1 T.na2 rfl (by first | exact Cells.up (by assumption) (hBr.trans hS1) | exact Bx.cells (Bx.updD (by assumption) hS1 (Dj.nlR _)) | exact Cells.upd (by assumption) hS1 (by simp)) (Ext.refl _) rfl)) ?_
    refine HP.takeG rfl rfl rfl rfl rfl rfl hS (fun wS hS1 => PV.sub rfl rfl (by constructor <;> omega)) ?_
    refine HP.mustG rfl rfl rfl rfl (OpK.callR rfl T.cf98 rfl (c_spec_l00In) (fun w8 hXw8 => ?_))
    refine ⟨Upd.trans hS hXw8, ?_⟩
    have hS := Upd.trans hS hXw8
    have hB := hB.trans hXw8
    have hU0 := hU0.ext hXw8
    refine HP.takeG rfl rfl rfl rfl rfl rfl hS (fun wS hS1 => PV.not rfl) ?_
    refine HP.take rfl rfl rfl rfl hS (fun wS hS1 => PV.pickF rfl rfl) ?_
    refine HP.doneS ?_
    refine CW.cond rfl (fun hc9 => ?_) (fun hc9 => ?_)
    · skip
      try simp only [nq] at hc9
      refine CW.seq ?_
      refine CW.reg ?_
      refine WL.asg rfl rfl ?_
      refine WL.nilS ?_
      refine CW.ret ?_
      refine RQ.block ?_
      refine RQ.then ?_
      refine RQ.then ?_
      refine RQ.block ?_
      refine RQ.then ?_
      refine RQ.r1 rfl ?_
      refine ⟨?_, hB⟩
      first | exact bT ⟨by omega, by omega, by omega, by omega, fun q h => hq q (by omega)⟩ | exact bF (by rintro ⟨h1, h2, h3, h4, h5⟩; first | omega | (have h6 := h5 k (by omega); simp only [okArc] at h6; omega))
    try simp only [nq] at hc9
    refine CW.skip ?_
    refine NQ.block ?_
    refine NQ.then ?_
    refine CW.reg ?_
    refine WL.pure rfl rfl rfl (PV.add rfl rfl (by constructor <;> omega)) ?_
    refine WL.mv rfl rfl ?_
    refine WL.nil ?_
    refine NQ.next (ρ := [(44, _)]) ⟨rfl, rfl, rfl, trivial⟩ ?_
    exact ⟨_, ⟨k + 1, rfl, rfl, hU0, (by first | omega | assumption | (simp_all; done) | (simp_all; omega)), (by intro q h1; by_cases h : q < k; exact hq q h; obtain rfl : q = k := (by omega); simp only [okArc]; omega)⟩, by omega⟩
  try simp only [nq] at hc5
  refine CW.exit ?_
  refine XQ.then ?_
  refine XQ.then ?_
  refine XQ.here ?_
  refine NQ.then ?_
  refine CW.seq ?_
  refine CW.reg ?_
  refine WL.asg rfl rfl ?_
  refine WL.nilS ?_
  refine CW.ret ?_
  refine RQ.r1 rfl ?_
  refine ⟨?_, hB⟩
  first | exact bT ⟨by omega, by omega, by omega, by omega, fun q h => hq q (by omega)⟩ | exact bF (by rintro ⟨h1, h2, h3, h4, h5⟩; first | omega | (have h6 := h5 k (by omega); simp only [okArc] at h6; omega))
theorem c_spec_l05Two {w : World} {pa : Addr} {a0 : Int} {a1 : Int} {va2 : Value} {xa2 : List R4} {va3 : Value} {xa3 : List Bool} {py : Addr} {y0 : Int} {y1 : Int} {vy2 : Value} {xy2 : List R4} {vy3 : Value} {xy3 : List Bool}  (hba : Cells w pa [.int .i64 a0, .int .i64 a1, va2, va3]) (hby : Cells w py [.int .i64 y0, .int .i64 y1, vy2, vy3]) (ha2 : Rd ER w va2 xa2) (ha3 : Rd EB w va3 xa3) (hy2 : Rd ER w vy2 xy2) (hy3 : Rd EB w vy3 xy3) : Calls Try.prog 150 #[.pointer (some pa), .pointer (some py)] w (Ret1 (RQt (.bool (decide (sidedV a0 a1 xa2 xa3 ∧ sidedV y0 y1 xy2 xy3 ∧ a1 = y1))) w)) := by
  have hB : Ext w w := Ext.refl w
  have hla2 := ha2.leI; have hla3 := ha3.leI; have hly2 := hy2.leI; have hly3 := hy3.leI
  refine callsOf (vs := [_, _]) Try.func150 rfl Try.ntmps150 rfl rfl ?_
  refine CW.seq ?_
  refine CW.reg ?_
  refine WL.asg rfl rfl ?_
  refine WL.nilS ?_
  refine CW.seq ?_
  refine CW.draw T.mixed (by kernel_rfl) (fun _ _ _ _ _ h => h) (fun w8 w9 => Upd none w8 w9) 18 (.take 0 (.must 1 (.take 2 (.split (.take 3 (.must 4 (.take 5 (.take 6 (.split (.take 7 (.take 8 (.take 9 (.take 10 (.take 11 (.take 12 (.take 13 (.take 14 (.take 15 (.take 16 (.take 17 .done))))))))))) (.take 7 (.take 8 (.take 9 (.take 10 (.take 11 (.take 12 (.take 13 (.take 14 (.take 15 (.take 16 (.take 17 .done)))))))))))))))) (.take 3 (.take 4 (.take 5 (.take 6 (.take 7 (.take 8 (.take 9 (.take 10 (.take 11 (.take 12 (.take 13 (.take 14 (.take 15 (.take 16 (.take 17 .done))))))))))))))))))) (by kernel_rfl) (fun w1 hXd => ?_)
  have hB := hB.trans hXd
  have hBr := hB
  have hS : Upd none w1 w1 := Ext.toUpd (Ext.refl _)
  refine HP.take rfl rfl rfl rfl hS (fun wS hS1 => PV.move rfl) ?_
  refine HP.must rfl rfl (OpK.callR rfl T.cf158 rfl (c_spec_l05Sided (by first | exact Bx.cells (by assumption) | exact Cells.up (by assumption) hB | assumption | exact Cells.add (Bx.cells (by assumption)) _ | exact Cells.add (Cells.up (by assumption) hB) _) (by first | assumption | exact Rd.up (by assumption) hB | exact Osl.rd (by assumption) | exact Osn.rdR (by assumption) | exact NL.rd (by assumption) | exact rdII (by assumption) (by assumption) | exact Inn.rd (by assumption) (by omega)) (by first | assumption | exact Rd.up (by assumption) hB | exact Osl.rd (by assumption) | exact Osn.rdR (by assumption) | exact NL.rd (by assumption) | exact rdII (by assumption) (by assumption) | exact Inn.rd (by assumption) (by omega))) (fun w2 hXw2 => ?_))
  refine ⟨Upd.trans hS hXw2, ?_⟩
  have hS := Upd.trans hS hXw2
  have hB := hB.trans hXw2
  refine HP.take rfl rfl rfl rfl hS (fun wS hS1 => PV.move rfl) ?_
  refine HP.split (t := 7) rfl (fun hc1 => ?_) (fun hc1 => ?_)
  rotate_left
  · skip
    try simp only [nq] at hc1
    refine HP.skip rfl rfl rfl rfl rfl rfl hS ?_
    refine HP.skip rfl rfl rfl rfl rfl rfl hS ?_
    refine HP.take rfl rfl rfl rfl hS (fun wS hS1 => PV.pickF rfl rfl) ?_
    refine HP.take rfl rfl rfl rfl hS (fun wS hS1 => PV.move rfl) ?_
    refine HP.skip rfl rfl rfl rfl rfl rfl hS ?_
    refine HP.skip rfl rfl rfl rfl rfl rfl hS ?_
    refine HP.skip rfl rfl rfl rfl rfl rfl hS ?_
    refine HP.skip rfl rfl rfl rfl rfl rfl hS ?_
    refine HP.skip rfl rfl rfl rfl rfl rfl hS ?_
    refine HP.skip rfl rfl rfl rfl rfl rfl hS ?_
    refine HP.skip rfl rfl rfl rfl rfl rfl hS ?_
    refine HP.skip rfl rfl rfl rfl rfl rfl hS ?_
    refine HP.skip rfl rfl rfl rfl rfl rfl hS ?_
    refine HP.take rfl rfl rfl rfl hS (fun wS hS1 => PV.pickF rfl rfl) ?_
    refine HP.take rfl rfl rfl rfl hS (fun wS hS1 => PV.assign rfl) ?_
    refine HP.doneS ?_
    refine CW.ret ?_
    refine RQ.r1 rfl ?_
    refine ⟨?_, hB⟩
    first | exact bT ⟨by assumption, by assumption, by omega⟩ | exact bF (by rintro ⟨h1, h2, h3⟩; first | exact absurd h1 (by assumption) | exact absurd h2 (by assumption) | omega) | exact bD ⟨fun h => ⟨by assumption, by assumption, h⟩, fun h => h.2.2⟩
  try simp only [nq] at hc1
  refine HP.takeG rfl rfl rfl rfl rfl rfl hS (fun wS hS1 => PV.move rfl) ?_
  refine HP.mustG rfl rfl rfl rfl (OpK.callR rfl T.cf158 rfl (c_spec_l05Sided (by first | exact Bx.cells (by assumption) | exact Cells.up (by assumption) hB | assumption | exact Cells.add (Bx.cells (by assumption)) _ | exact Cells.add (Cells.up (by assumption) hB) _) (by first | assumption | exact Rd.up (by assumption) hB | exact Osl.rd (by assumption) | exact Osn.rdR (by assumption) | exact NL.rd (by assumption) | exact rdII (by assumption) (by assumption) | exact Inn.rd (by assumption) (by omega)) (by first | assumption | exact Rd.up (by assumption) hB | exact Osl.rd (by assumption) | exact Osn.rdR (by assumption) | exact NL.rd (by assumption) | exact rdII (by assumption) (by assumption) | exact Inn.rd (by assumption) (by omega))) (fun w3 hXw3 => ?_))
  refine ⟨Upd.trans hS hXw3, ?_⟩
  have hS := Upd.trans hS hXw3
  have hB := hB.trans hXw3
  refine HP.take rfl rfl rfl rfl hS (fun wS hS1 => PV.pickT rfl rfl) ?_
  refine HP.take rfl rfl rfl rfl hS (fun wS hS1 => PV.move rfl) ?_
  refine HP.split (t := 11) rfl (fun hc2 => ?_) (fun hc2 => ?_)
  rotate_left
  · skip
    try simp only [nq] at hc2
    refine HP.skip rfl rfl rfl rfl rfl rfl hS ?_
    refine HP.skip rfl rfl rfl rfl rfl rfl hS ?_
    refine HP.skip rfl rfl rfl rfl rfl rfl hS ?_
    refine HP.skip rfl rfl rfl rfl rfl rfl hS ?_
    refine HP.skip rfl rfl rfl rfl rfl rfl hS ?_
    refine HP.skip rfl rfl rfl rfl rfl rfl hS ?_
    refine HP.skip rfl rfl rfl rfl rfl rfl hS ?_
    refine HP.skip rfl rfl rfl rfl rfl rfl hS ?_
    refine HP.skip rfl rfl rfl rfl rfl rfl hS ?_
    refine HP.take rfl rfl rfl rfl hS (fun wS hS1 => PV.pickF rfl rfl) ?_
    refine HP.take rfl rfl rfl rfl hS (fun wS hS1 => PV.assign rfl) ?_
    refine HP.doneS ?_
    refine CW.ret ?_
    refine RQ.r1 rfl ?_
    refine ⟨?_, hB⟩
    first | exact bT ⟨by assumption, by assumption, by omega⟩ | exact bF (by rintro ⟨h1, h2, h3⟩; first | exact absurd h1 (by assumption) | exact absurd h2 (by assumption) | omega) | exact bD ⟨fun h => ⟨by assumption, by assumption, h⟩, fun h => h.2.2⟩
  try simp only [nq] at hc2
  refine HP.takeG rfl rfl rfl rfl rfl rfl hS (fun wS hS1 => PV.move rfl) ?_
  refine HP.takeG rfl rfl rfl rfl rfl rfl hS (fun wS hS1 => PV.nilCheck rfl) ?_
  refine HP.takeG rfl rfl rfl rfl rfl rfl hS (fun wS hS1 => (by first | exact PV.fieldAddr T.fl88_1 rfl (by first | assumption | exact Bx.cells (by assumption)) | exact PV.fieldAddrP T.fl88_1 rfl rfl)) ?_
  refine HP.takeG rfl rfl rfl rfl rfl rfl hS (fun wS hS1 => (by first | exact PV.load0 T.na2 rfl (by first | exact Cells.up (by assumption) (hBr.trans hS1) | exact Bx.cells (Bx.updD (by assumption) hS1 (Dj.nlR _)) | exact Cells.upd (by assumption) hS1 (by simp)) (Ext.refl _) rfl | exact PV.load1 T.na2 rfl (by first | exact Cells.up (by assumption) (hBr.trans hS1) | exact Bx.cells (Bx.updD (by assumption) hS1 (Dj.nlR _)) | exact Cells.upd (by assumption) hS1 (by simp)) (Ext.refl _) rfl)) ?_
  refine HP.takeG rfl rfl rfl rfl rfl rfl hS (fun wS hS1 => PV.move rfl) ?_
  refine HP.takeG rfl rfl rfl rfl rfl rfl hS (fun wS hS1 => PV.nilCheck rfl) ?_
  refine HP.takeG rfl rfl rfl rfl rfl rfl hS (fun wS hS1 => (by first | exact PV.fieldAddr T.fl88_1 rfl (by first | assumption | exact Bx.cells (by assumption)) | exact PV.fieldAddrP T.fl88_1 rfl rfl)) ?_
  refine HP.takeG rfl rfl rfl rfl rfl rfl hS (fun wS hS1 => (by first | exact PV.load0 T.na2 rfl (by first | exact Cells.up (by assumption) (hBr.trans hS1) | exact Bx.cells (Bx.updD (by assumption) hS1 (Dj.nlR _)) | exact Cells.upd (by assumption) hS1 (by simp)) (Ext.refl _) rfl | exact PV.load1 T.na2 rfl (by first | exact Cells.up (by assumption) (hBr.trans hS1) | exact Bx.cells (Bx.updD (by assumption) hS1 (Dj.nlR _)) | exact Cells.upd (by assumption) hS1 (by simp)) (Ext.refl _) rfl)) ?_
  refine HP.takeG rfl rfl rfl rfl rfl rfl hS (fun wS hS1 => PV.eql rfl rfl) ?_
  refine HP.take rfl rfl rfl rfl hS (fun wS hS1 => PV.pickT rfl rfl) ?_
  refine HP.take rfl rfl rfl rfl hS (fun wS hS1 => PV.assign rfl) ?_
  refine HP.doneS ?_
  refine CW.ret ?_
  refine RQ.r1 rfl ?_
  refine ⟨?_, hB⟩
  first | exact bT ⟨by assumption, by assumption, by omega⟩ | exact bF (by rintro ⟨h1, h2, h3⟩; first | exact absurd h1 (by assumption) | exact absurd h2 (by assumption) | omega) | exact bD ⟨fun h => ⟨by assumption, by assumption, h⟩, fun h => h.2.2⟩
theorem c_spec_l05Give {w : World} {a0 : Int} {a1 : Int} {va2 : Value} {xa2 : List R4} {va3 : Value} {xa3 : List Bool}  (ha2 : Rd ER w va2 xa2) (ha3 : Rd EB w va3 xa3) : Calls Try.prog 151 #[.agg #[.int .i64 a0, .int .i64 a1, va2, va3]] w (Ret1 (fun v w' => Ext w w' ∧ (((sidedV a0 a1 xa2 xa3) ∧ v = .tuple #[.agg #[.int .i64 a0, .int .i64 a1, va2, va3], .bool true]) ∨ ((¬ sidedV a0 a1 xa2 xa3) ∧ v = .tuple #[.agg #[.int .i64 0, .int .i64 0, .slice none 0 0, .slice none 0 0], .bool false])))) := by
  have hB : Ext w w := Ext.refl w
  have hla2 := ha2.leI; have hla3 := ha3.leI
  refine callsOf (vs := [_]) Try.func151 rfl Try.ntmps151 rfl rfl ?_
  refine CW.seq ?_
  refine CW.reg ?_
  refine WL.op rfl (OpK.box rfl rfl (by first | exact Rd.cells1 (by assumption) | exact Osl.cells1 (by assumption) | exact Osn.cells1 (by assumption) | exact Rd.cells1 (NL.rd (by assumption)) | exact Inn.cell1 (by assumption) (by omega) | assumption | rfl) (fun b1 w1 hXw1 hb1 hge1 => ?_))
  have hl1 := Lo.new hB hge1
  have hB := hB.trans hXw1
  refine WL.op rfl (OpK.alloc rfl T.zv88 rfl (fun b2 w2 hXw2 hb2 hge2 => ?_))
  have hl2 := Lo.new hB hge2
  have hd1_2 := Dj.new hb1.ltO hge2
  have hB := hB.trans hXw2
  have hb1 := hb1.up hXw2
  refine WL.asg rfl rfl ?_
  refine WL.nilS ?_
  refine CW.seq ?_
  refine CW.seq ?_
  refine CW.reg ?_
  refine WL.op rfl (OpK.callR rfl T.cf158 rfl (c_spec_l05Sided (by first | exact Bx.cells (by assumption) | exact Cells.up (by assumption) hB | assumption | exact Cells.add (Bx.cells (by assumption)) _ | exact Cells.add (Cells.up (by assumption) hB) _) (by first | assumption | exact Rd.up (by assumption) hB | exact Osl.rd (by assumption) | exact Osn.rdR (by assumption) | exact NL.rd (by assumption) | exact rdII (by assumption) (by assumption) | exact Inn.rd (by assumption) (by omega)) (by first | assumption | exact Rd.up (by assumption) hB | exact Osl.rd (by assumption) | exact Osn.rdR (by assumption) | exact NL.rd (by assumption) | exact rdII (by assumption) (by assumption) | exact Inn.rd (by assumption) (by omega))) (fun w3 hXw3 => ?_))
  have hB := hB.trans hXw3
  have hb1 := hb1.up hXw3
  have hb2 := hb2.up hXw3
  refine WL.pure rfl rfl rfl (PV.not rfl) ?_
  refine WL.nilS ?_
  refine CW.cond rfl (fun hc1 => ?_) (fun hc1 => ?_)
  · skip
    try simp only [nq] at hc1
    refine CW.seq ?_
    refine CW.reg ?_
    refine WL.pure rfl rfl rfl (PV.build (ks := []) (os := []) (css := []) (ds := [_, _, _, _]) T.bu88 rfl rfl trivial rfl) ?_
    refine WL.op rfl (OpK.storeA T.sz88 rfl rfl rfl rfl (by simp [Value.oneCell'] <;> first | done | (repeat' apply And.intro) <;> first | rfl | exact Inn.one1 (by assumption) (by omega) | exact Osl.oneCell (by assumption) | exact Osn.oneCell (by assumption) | exact Rd.oneCell (by assumption) | exact Rd.oneCell (NL.rd (by assumption)) | assumption) hb2 (fun w4 hXw4 hb2 => ?_))
    have hB := hB.updL hXw4 hl2
    have hb1 := hb1.updD hXw4 hd1_2
    refine WL.asg rfl rfl ?_
    refine WL.nilS ?_
    refine CW.ret ?_
    refine RQ.then ?_
    refine RQ.rc1 T.ag88 rfl (by first | exact Cells.up (by assumption) hB | exact Bx.cells (by assumption) | assumption) rfl rfl ?_
    first | exact ⟨hB, .inl ⟨by assumption, rfl⟩⟩ | exact ⟨hB, .inr ⟨by assumption, rfl⟩⟩
  try simp only [nq] at hc1
  refine CW.skipS ?_
  refine CW.seq ?_
  refine CW.reg ?_
  refine WL.pure rfl rfl rfl (PV.loadA T.ag88 rfl hb1.cells (Ext.refl _) rfl) ?_
  refine WL.op rfl (OpK.storeA T.sz88 rfl rfl rfl rfl (by simp [Value.oneCell'] <;> first | done | (repeat' apply And.intro) <;> first | rfl | exact Inn.one1 (by assumption) (by omega) | exact Osl.oneCell (by assumption) | exact Osn.oneCell (by assumption) | exact Rd.oneCell (by assumption) | exact Rd.oneCell (NL.rd (by assumption)) | assumption) hb2 (fun w5 hXw5 hb2 => ?_))
  have hB := hB.updL hXw5 hl2
  have hb1 := hb1.updD hXw5 hd1_2
  refine WL.asg rfl rfl ?_
  refine WL.nilS ?_
  refine CW.ret ?_
  refine RQ.rc1 T.ag88 rfl (by first | exact Cells.up (by assumption) hB | exact Bx.cells (by assumption) | assumption) rfl rfl ?_
  first | exact ⟨hB, .inl ⟨by assumption, rfl⟩⟩ | exact ⟨hB, .inr ⟨by assumption, rfl⟩⟩

end Go.Proofs.Ythemmoceomdccaa
