/- Walks of the functions that the law FnTrees reaches: each says what its function computes. No condition. -/
import Derived.Test.YthemmoceomdccaaProg
import Derived.Test.YthemmoceomdccaaLibM
import Derived.Test.YthemmoceomdccaaPlA
import Derived.Test.YthemmoceomdccaaPlM
import Derived.Test.YthemmoceomdccaaLibN
import Derived.Test.YthemmoceomdccaaLibO
import Derived.Test.YthemmoceomdccaaLibG2
import Derived.Test.YthemmoceomdccaaPlG
import Derived.Test.YthemmoceomdccaaLibRf
import Derived.Test.YthemmoceomdccaaPlTr
import Derived.Test.YthemmoceomdccaaPlTs
import Derived.Test.YthemmoceomdccaaLibRs
import Derived.Test.YthemmoceomdccaaLibR
import Derived.Test.YthemmoceomdccaaPlX
import Derived.Test.YthemmoceomdccaaPlCt
import Derived.Test.YthemmoceomdccaaPlFt
import Derived.Test.YthemmoceomdccaaLibKp
import Derived.Test.YthemmoceomdccaaLibKa
import Derived.Test.YthemmoceomdccaaPlCl
import Derived.Test.YthemmoceomdccaaPlR
import Derived.Test.YthemmoceomdccaaPlDq
import Derived.Test.YthemmoceomdccaaPlFu
import Derived.Test.YthemmoceomdccaaPlFv
import Derived.Test.YthemmoceomdccaaPlId
import Derived.Test.YthemmoceomdccaaPlCn
import Derived.Test.YthemmoceomdccaaPlFy
import Derived.Test.YthemmoceomdccaaPlR8
import Derived.Test.YthemmoceomdccaaWFnTreesa
namespace Go.Proofs.Ythemmoceomdccaa
open Go Go.WX Go.Proofs
set_option linter.unusedSimpArgs false
set_option linter.unusedVariables false

theorem c_impl_TreeMachine_join {w : World} {a0 : Int} {a1 : Int} {va2 : Value} {xa2 : List Int} {va3 : Value} {xa3 : List Int} {va4 : Value} {xa4 : List Bool} {q r : Int} (ha2 : Rd EI w va2 xa2) (ha3 : Rd EI w va3 xa3) (ha4 : Rd EB w va4 xa4) (h1 : 1 ≤ a0 ∧ a0 ≤ 16) (hq : 0 ≤ q ∧ q < a0) (hr : 0 ≤ r ∧ r < a0) (hn : (xa3.length : Int) = a0 * a0) : Calls Try.prog 138 #[.agg #[.int .i64 a0, .int .i64 a1, va2, va3, va4], .int .i64 q, .int .i64 r] w (Ret1 (RQt (.int .i64 (xa3.getD (q * a0 + r).toNat 0)) w)) := by
  have hB : Ext w w := Ext.refl w
  have hla2 := ha2.leI; have hla3 := ha3.leI; have hla4 := ha4.leI; have hix := sq_idx h1 hq hr hn
  refine callsOf (vs := [_, _, _]) Try.func138 rfl Try.ntmps138 rfl rfl ?_
  refine CW.seq ?_
  refine CW.reg ?_
  refine WL.op rfl (OpK.box rfl rfl (by first | exact Rd.cells1 (by assumption) | exact Osl.cells1 (by assumption) | exact Osn.cells1 (by assumption) | exact Rd.cells1 (NL.rd (by assumption)) | exact Inn.cell1 (by assumption) (by omega) | assumption | rfl) (fun b1 w1 hXw1 hb1 hge1 => ?_))
  have hl1 := Lo.new hB hge1
  have hB := hB.trans hXw1
  refine WL.asg rfl rfl ?_
  refine WL.nilS ?_
  refine CW.seq ?_
  refine CW.reg ?_
  refine WL.pure rfl rfl rfl (PV.fieldAddr T.fl72_3 rfl hb1.cells) ?_
  refine WL.pure rfl rfl rfl (PV.load1 T.na28 rfl hb1.cells (Ext.refl _) rfl) ?_
  refine WL.mv rfl rfl ?_
  refine WL.pure rfl rfl rfl (PV.fieldAddr T.fl72_0 rfl hb1.cells) ?_
  refine WL.pure rfl rfl rfl (PV.load1 T.na2 rfl hb1.cells (Ext.refl _) rfl) ?_
  refine WL.pure rfl rfl rfl (PV.mul rfl rfl (by constructor <;> omega)) ?_
  refine WL.mv rfl rfl ?_
  refine WL.pure rfl rfl rfl (PV.add rfl rfl (by constructor <;> omega)) ?_
  first
    | refine WL.at (x := .tmp 8) (y := .tmp 14) (E := EI) (0) rfl rfl (by first | assumption | exact Inn.rd (by assumption) (by omega)) (by omega) (fun p1 csp1 hpp1 hcp1 hq => ?_)
    | refine WL.atZ (x := .tmp 8) (y := .tmp 14) (E := EI) (0) rfl rfl (by first | assumption | exact Inn.rd (by assumption) (by omega)) (by omega) (fun p1 csp1 hpp1 hzp1 hcp1 hq => ?_)
  cases hq
  refine WL.pure rfl rfl rfl ((by first | exact PV.indexAddr hpp1 rfl rfl T.sl28 | exact PV.indexAddr hpp1 rfl (by rw [← hzp1]; rfl) T.sl28)) ?_
  refine WL.pure rfl rfl rfl ((by first | exact PV.load0 T.na2 rfl (by first | exact Cells.up (by assumption) hB | exact Bx.cells (by assumption) | assumption) (Ext.refl _) rfl | exact PV.load1 T.na2 rfl (by first | exact Cells.up (by assumption) hB | exact Bx.cells (by assumption) | assumption) (Ext.refl _) rfl)) ?_
  refine WL.asg rfl rfl ?_
  refine WL.nilS ?_
  refine CW.ret ?_
  refine RQ.r1 rfl ?_
  refine ⟨?_, hB⟩
  first | rfl | exact bT (by omega) | exact bF (by omega) | exact bD (by omega) | exact iE (by omega) | (simp_all; done) | (simp_all; omega) | (simp_all; intros; omega)
theorem c_impl_StateOfTree {w : World} {a0 : Int} {a1 : Int} {va2 : Value} {xa2 : List Int} {va3 : Value} {xa3 : List Int} {va4 : Value} {xa4 : List Bool} {vt : Value} {xs : List Int} (ha2 : Rd EI w va2 xa2) (ha3 : Rd EI w va3 xa3) (ha4 : Rd EB w va4 xa4) (ht : Rd EI w vt xs) (hN : xs.length ≤ 1048576) : Calls Try.prog 50 #[.agg #[.int .i64 a0, .int .i64 a1, va2, va3, va4], vt] w (Ret1 (RQt (.tuple #[.int .i64 (stL (treesB a0 a1 xa2 xa3 xa4) a0 a1 xa2 xa3 xs), .bool ((treesB a0 a1 xa2 xa3 xa4) && treeB a1 xs)]) w)) := by
  have hB : Ext w w := Ext.refl w
  have hla2 := ha2.leI; have hla3 := ha3.leI; have hla4 := ha4.leI
  refine callsOf (vs := [_, _]) Try.func50 rfl Try.ntmps50 rfl rfl ?_
  refine CW.seq ?_
  refine CW.reg ?_
  refine WL.op rfl (OpK.box rfl rfl (by first | exact Rd.cells1 (by assumption) | exact Osl.cells1 (by assumption) | exact Osn.cells1 (by assumption) | exact Rd.cells1 (NL.rd (by assumption)) | exact Inn.cell1 (by assumption) (by omega) | assumption | rfl) (fun b1 w1 hXw1 hb1 hge1 => ?_))
  have hl1 := Lo.new hB hge1
  have hB := hB.trans hXw1
  refine WL.asg rfl rfl ?_
  refine WL.asg rfl rfl ?_
  refine WL.nilS ?_
  refine CW.seq ?_
  refine CW.seq ?_
  refine CW.reg ?_
  refine WL.pure rfl rfl rfl (PV.loadA T.ag72 rfl hb1.cells (Ext.refl _) rfl) ?_
  refine WL.op rfl (OpK.callR rfl T.cf56 rfl (c_impl_ValidTrees (by first | assumption | exact Rd.up (by assumption) hB | exact Osl.rd (by assumption) | exact Osn.rdR (by assumption) | exact NL.rd (by assumption) | exact rdII (by assumption) (by assumption) | exact Inn.rd (by assumption) (by omega)) (by first | assumption | exact Rd.up (by assumption) hB | exact Osl.rd (by assumption) | exact Osn.rdR (by assumption) | exact NL.rd (by assumption) | exact rdII (by assumption) (by assumption) | exact Inn.rd (by assumption) (by omega)) (by first | assumption | exact Rd.up (by assumption) hB | exact Osl.rd (by assumption) | exact Osn.rdR (by assumption) | exact NL.rd (by assumption) | exact rdII (by assumption) (by assumption) | exact Inn.rd (by assumption) (by omega))) (fun w2 hXw2 => ?_))
  have hB := hB.trans hXw2
  have hb1 := hb1.up hXw2
  refine WL.pure rfl rfl rfl (PV.not rfl) ?_
  refine WL.mv rfl rfl ?_
  refine WL.split (t := 9) rfl (fun hc1 => ?_) (fun hc1 => ?_)
  · skip
    try simp only [nq] at hc1
    refine WL.skip rfl rfl rfl rfl rfl ?_
    refine WL.skip rfl rfl rfl rfl rfl ?_
    refine WL.skip rfl rfl rfl rfl rfl ?_
    refine WL.skip rfl rfl rfl rfl rfl ?_
    refine WL.skip rfl rfl rfl rfl rfl ?_
    refine WL.pure rfl rfl rfl (PV.pickT rfl rfl) ?_
    refine WL.nilS ?_
    refine CW.condT rfl ?_
    refine CW.seq ?_
    refine CW.reg ?_
    refine WL.asg rfl rfl ?_
    refine WL.asg rfl rfl ?_
    refine WL.nilS ?_
    refine CW.ret ?_
    refine RQ.then ?_
    refine RQ.r2 rfl rfl ?_
    refine ⟨?_, hB⟩
    first | (exact tE2 (by rw [stL_no (.inl (Bool.eq_false_iff.2 (treesB_no (by assumption))))]) (bE (by rw [Bool.eq_false_iff.2 (treesB_no (by assumption))]; rfl))) | (exact tE2 (by rw [stL_no (.inr (by assumption))]) (bE (by rw [(by assumption : treeB a1 xs = false), Bool.and_false]))) | (exact tE2 (by rw [stL_yes hvb hT h23]; try rfl) (bE (by rw [hvb, (by assumption : treeB a1 (flatT tr) = true)]; rfl)))
  try simp only [nq] at hc1
  refine WL.pureG rfl rfl rfl rfl rfl (PV.move rfl) ?_
  refine WL.pureG rfl rfl rfl rfl rfl (PV.fieldAddr T.fl72_1 rfl hb1.cells) ?_
  refine WL.pureG rfl rfl rfl rfl rfl (PV.load1 T.na2 rfl hb1.cells (Ext.refl _) rfl) ?_
  refine WL.opG rfl rfl rfl (OpK.callR rfl T.cf48 rfl (c_impl_IsTree (by first | assumption | exact Rd.up (by assumption) hB | exact Osl.rd (by assumption) | exact Osn.rdR (by assumption) | exact NL.rd (by assumption) | exact rdII (by assumption) (by assumption) | exact Inn.rd (by assumption) (by omega)) (by first | assumption | omega | (simp only [marks_len, marksB_len, marksR_len]; omega))) (fun w3 hXw3 => ?_))
  have hB := hB.trans hXw3
  have hb1 := hb1.up hXw3
  refine WL.pureG rfl rfl rfl rfl rfl (PV.not rfl) ?_
  refine WL.pure rfl rfl rfl (PV.pickF rfl rfl) ?_
  refine WL.nilS ?_
  refine CW.cond rfl (fun hc2 => ?_) (fun hc2 => ?_)
  · skip
    try simp only [nq] at hc2
    try rw [isTreeBL (by omega)] at *
    refine CW.seq ?_
    refine CW.reg ?_
    refine WL.asg rfl rfl ?_
    refine WL.asg rfl rfl ?_
    refine WL.nilS ?_
    refine CW.ret ?_
    refine RQ.then ?_
    refine RQ.r2 rfl rfl ?_
    refine ⟨?_, hB⟩
    first | (exact tE2 (by rw [stL_no (.inl (Bool.eq_false_iff.2 (treesB_no (by assumption))))]) (bE (by rw [Bool.eq_false_iff.2 (treesB_no (by assumption))]; rfl))) | (exact tE2 (by rw [stL_no (.inr (by assumption))]) (bE (by rw [(by assumption : treeB a1 xs = false), Bool.and_false]))) | (exact tE2 (by rw [stL_yes hvb hT h23]; try rfl) (bE (by rw [hvb, (by assumption : treeB a1 (flatT tr) = true)]; rfl)))
  try simp only [nq] at hc2
  rw [isTreeBL (by omega)] at *; have hv : (1 ≤ a0 ∧ a0 ≤ 16) ∧ (1 ≤ a1 ∧ a1 ≤ 4) ∧ (xa2.length : Int) = a1 ∧ (xa3.length : Int) = a0 * a0 ∧ (xa4.length : Int) = a0 ∧ allIn xa2 0 (a0 - 1) = true ∧ allIn xa3 0 (a0 - 1) = true := (by assumption); obtain ⟨tr, rfl, hT⟩ := tree_of (by assumption : treeB a1 _ = true); have h23 : (flatT tr).length ≤ 23 := (by have h9 := (by assumption : treeB a1 (flatT tr) = true); simp only [treeB, decide_eq_true_eq] at h9; exact h9.1); have hT4 := hT; have hvb := treesB_yes hv
  refine CW.skipS ?_
  refine CW.seq ?_
  refine CW.reg ?_
  refine WL.mv rfl rfl ?_
  refine WL.pure rfl rfl rfl (PV.loadA T.ag72 rfl hb1.cells (Ext.refl _) rfl) ?_
  refine WL.pure rfl rfl rfl (PV.makeFunc (fs := [.tmp 17]) (cs := []) rfl rfl) ?_
  refine WL.pure rfl rfl rfl (PV.loadA T.ag72 rfl hb1.cells (Ext.refl _) rfl) ?_
  refine WL.pure rfl rfl rfl (PV.makeFunc (fs := [.tmp 19]) (cs := []) rfl rfl) ?_
  refine WL.op rfl (OpK.callR rfl T.cf129 rfl (c_impl_foldTree_int64 (fl := (fun x => xa2.getD x.toNat 0)) (fb := (fbSt a0 xa3)) (PS := (fun s => 0 ≤ s ∧ s ≤ a0 - 1)) (ht.up hB) hT4 h23 rfl rfl (fun x W hW hx => ⟨137, [_], [], rfl, (by kernel_rfl), c_impl_TreeMachine_leaf (ha2.up (hB.trans hW)) (ha3.up (hB.trans hW)) (ha4.up (hB.trans hW)) (by omega)⟩) (fun x y W hW hx hy => ⟨138, [_], [], rfl, (by kernel_rfl), c_impl_TreeMachine_join (ha2.up (hB.trans hW)) (ha3.up (hB.trans hW)) (ha4.up (hB.trans hW)) hv.1 (by omega) (by omega) hv.2.2.2.1⟩) (fun x hx => st_rng hv.1 hv.2.2.1 hv.2.2.2.1 hv.2.2.2.2.2.1 hv.2.2.2.2.2.2 (.leaf x) hx) (fun x y hx hy => allIn_get hv.2.2.2.2.2.2 (by have hix := sq_idx (q := x) (r := y) hv.1 (by omega) (by omega) hv.2.2.2.1; omega))) (fun w4 hXw4 => ?_))
  have hB := hB.trans hXw4
  have hb1 := hb1.up hXw4
  refine WL.asg rfl rfl ?_
  refine WL.asg rfl rfl ?_
  refine WL.nilS ?_
  refine CW.ret ?_
  refine RQ.r2 rfl rfl ?_
  refine ⟨?_, hB⟩
  first | (exact tE2 (by rw [stL_no (.inl (Bool.eq_false_iff.2 (treesB_no (by assumption))))]) (bE (by rw [Bool.eq_false_iff.2 (treesB_no (by assumption))]; rfl))) | (exact tE2 (by rw [stL_no (.inr (by assumption))]) (bE (by rw [(by assumption : treeB a1 xs = false), Bool.and_false]))) | (exact tE2 (by rw [stL_yes hvb hT h23]; try rfl) (bE (by rw [hvb, (by assumption : treeB a1 (flatT tr) = true)]; rfl)))
theorem c_impl_ReadsTree {w : World} {a0 : Int} {a1 : Int} {va2 : Value} {xa2 : List Int} {va3 : Value} {xa3 : List Int} {va4 : Value} {xa4 : List Bool} {vt : Value} {xs : List Int} (ha2 : Rd EI w va2 xa2) (ha3 : Rd EI w va3 xa3) (ha4 : Rd EB w va4 xa4) (ht : Rd EI w vt xs) (hN : xs.length ≤ 1048576) : Calls Try.prog 51 #[.agg #[.int .i64 a0, .int .i64 a1, va2, va3, va4], vt] w (Ret1 (RQt (.tuple #[.bool (rdT (treesB a0 a1 xa2 xa3 xa4) a0 a1 xa2 xa3 xa4 xs), .bool ((treesB a0 a1 xa2 xa3 xa4) && treeB a1 xs)]) w)) := by
  have hB : Ext w w := Ext.refl w
  have hla2 := ha2.leI; have hla3 := ha3.leI; have hla4 := ha4.leI
  refine callsOf (vs := [_, _]) Try.func51 rfl Try.ntmps51 rfl rfl ?_
  refine CW.seq ?_
  refine CW.reg ?_
  refine WL.op rfl (OpK.box rfl rfl (by first | exact Rd.cells1 (by assumption) | exact Osl.cells1 (by assumption) | exact Osn.cells1 (by assumption) | exact Rd.cells1 (NL.rd (by assumption)) | exact Inn.cell1 (by assumption) (by omega) | assumption | rfl) (fun b1 w1 hXw1 hb1 hge1 => ?_))
  have hl1 := Lo.new hB hge1
  have hB := hB.trans hXw1
  refine WL.asg rfl rfl ?_
  refine WL.asg rfl rfl ?_
  refine WL.nilS ?_
  refine CW.seq ?_
  refine CW.reg ?_
  refine WL.pure rfl rfl rfl (PV.loadA T.ag72 rfl hb1.cells (Ext.refl _) rfl) ?_
  refine WL.mv rfl rfl ?_
  refine WL.op rfl (OpK.callR rfl T.cf50 rfl (c_impl_StateOfTree (by first | assumption | exact Rd.up (by assumption) hB | exact Osl.rd (by assumption) | exact Osn.rdR (by assumption) | exact NL.rd (by assumption) | exact rdII (by assumption) (by assumption) | exact Inn.rd (by assumption) (by omega)) (by first | assumption | exact Rd.up (by assumption) hB | exact Osl.rd (by assumption) | exact Osn.rdR (by assumption) | exact NL.rd (by assumption) | exact rdII (by assumption) (by assumption) | exact Inn.rd (by assumption) (by omega)) (by first | assumption | exact Rd.up (by assumption) hB | exact Osl.rd (by assumption) | exact Osn.rdR (by assumption) | exact NL.rd (by assumption) | exact rdII (by assumption) (by assumption) | exact Inn.rd (by assumption) (by omega)) (by first | assumption | exact Rd.up (by assumption) hB | exact Osl.rd (by assumption) | exact Osn.rdR (by assumption) | exact NL.rd (by assumption) | exact rdII (by assumption) (by assumption) | exact Inn.rd (by assumption) (by omega)) (by first | assumption | omega | (simp only [marks_len, marksB_len, marksR_len]; omega))) (fun w2 hXw2 => ?_))
  have hB := hB.trans hXw2
  have hb1 := hb1.up hXw2
  refine WL.mv rfl rfl ?_
  refine WL.pure rfl rfl rfl (PV.extract rfl rfl) ?_
  refine WL.pure rfl rfl rfl (PV.extract rfl rfl) ?_
  refine WL.asg rfl rfl ?_
  refine WL.asg rfl rfl ?_
  refine WL.nilS ?_
  refine CW.seq ?_
  refine CW.reg ?_
  refine WL.mv rfl rfl ?_
  refine WL.mv rfl rfl ?_
  refine WL.split (t := 15) rfl (fun hc1 => ?_) (fun hc1 => ?_)
  rotate_left
  · skip
    try simp only [nq] at hc1
    refine WL.skip rfl rfl rfl rfl rfl ?_
    refine WL.skip rfl rfl rfl rfl rfl ?_
    refine WL.skip rfl rfl rfl rfl rfl ?_
    refine WL.skip rfl rfl rfl rfl rfl ?_
    refine WL.skip rfl rfl rfl rfl rfl ?_
    refine WL.pure rfl rfl rfl (PV.pickF rfl rfl) ?_
    refine WL.mv rfl rfl ?_
    refine WL.asg rfl rfl ?_
    refine WL.asg rfl rfl ?_
    refine WL.nilS ?_
    refine CW.ret ?_
    refine RQ.r2 rfl rfl ?_
    refine ⟨?_, hB⟩
    first | (exact tE2 (bE (rdT_no (by assumption)).symm) (bE (by first | rfl | assumption | exact Eq.symm (by assumption)))) | (exact tE2 (bE (by rw [rdT_yes (by assumption)])) (bE (by first | rfl | assumption | exact Eq.symm (by assumption))))
  try simp only [nq] at hc1
  have hok := (by assumption : ((treesB a0 a1 xa2 xa3 xa4) && treeB a1 xs) = true); have hvv := treesB_of (Bool.and_eq_true_iff.1 hok).1; have hsr := stL_rng hvv.1 hvv.2.2.1 hvv.2.2.2.1 hvv.2.2.2.2.2.1 hvv.2.2.2.2.2.2 (Bool.and_eq_true_iff.1 hok).1 (Bool.and_eq_true_iff.1 hok).2; have hv5 := hvv.2.2.2.2.1
  refine WL.pureG rfl rfl rfl rfl rfl (PV.fieldAddr T.fl72_4 rfl hb1.cells) ?_
  refine WL.pureG rfl rfl rfl rfl rfl (PV.load1 T.na62 rfl hb1.cells (Ext.refl _) rfl) ?_
  refine WL.pureG rfl rfl rfl rfl rfl (PV.move rfl) ?_
  first
    | refine WL.at (x := .tmp 17) (y := .tmp 18) (E := EB) (false) rfl rfl (by first | assumption | exact Inn.rd (by assumption) (by omega)) (by omega) (fun p1 csp1 hpp1 hcp1 hq => ?_)
    | refine WL.atZ (x := .tmp 17) (y := .tmp 18) (E := EB) (false) rfl rfl (by first | assumption | exact Inn.rd (by assumption) (by omega)) (by omega) (fun p1 csp1 hpp1 hzp1 hcp1 hq => ?_)
  cases hq
  refine WL.pureG rfl rfl rfl rfl rfl ((by first | exact PV.indexAddr hpp1 rfl rfl T.sl62 | exact PV.indexAddr hpp1 rfl (by rw [← hzp1]; rfl) T.sl62)) ?_
  refine WL.pureG rfl rfl rfl rfl rfl ((by first | exact PV.load0 T.na4 rfl (by first | exact Cells.up (by assumption) hB | exact Bx.cells (by assumption) | assumption) (Ext.refl _) rfl | exact PV.load1 T.na4 rfl (by first | exact Cells.up (by assumption) hB | exact Bx.cells (by assumption) | assumption) (Ext.refl _) rfl)) ?_
  refine WL.pure rfl rfl rfl (PV.pickT rfl rfl) ?_
  refine WL.mv rfl rfl ?_
  refine WL.asg rfl rfl ?_
  refine WL.asg rfl rfl ?_
  refine WL.nilS ?_
  refine CW.ret ?_
  refine RQ.r2 rfl rfl ?_
  refine ⟨?_, hB⟩
  first | (exact tE2 (bE (rdT_no (by assumption)).symm) (bE (by first | rfl | assumption | exact Eq.symm (by assumption)))) | (exact tE2 (bE (by rw [rdT_yes (by assumption)])) (bE (by first | rfl | assumption | exact Eq.symm (by assumption))))
theorem c_impl_TreeMachine_find_1_1 {w : World} {f0 f1 f2 f3 : Int} {g0 g1 g2 g3 : Int} {pf : Addr} (hpf : Cells w pf [.int .i64 f0, .int .i64 f1, .int .i64 f2, .int .i64 f3]) : Calls Try.prog 204 #[.agg #[.int .i64 g0, .int .i64 g1, .int .i64 g2, .int .i64 g3], .pointer (some pf)] w (Ret1 (RQt (.bool (decide (g0 = f0))) w)) := by
  have hB : Ext w w := Ext.refl w
  refine callsOf (vs := [_, _]) Try.func204 rfl Try.ntmps204 rfl rfl ?_
  refine CW.seq ?_
  refine CW.reg ?_
  refine WL.op rfl (OpK.box rfl rfl (by first | exact Rd.cells1 (by assumption) | exact Osl.cells1 (by assumption) | exact Osn.cells1 (by assumption) | exact Rd.cells1 (NL.rd (by assumption)) | exact Inn.cell1 (by assumption) (by omega) | assumption | rfl) (fun b1 w1 hXw1 hb1 hge1 => ?_))
  have hl1 := Lo.new hB hge1
  have hB := hB.trans hXw1
  refine WL.asg rfl rfl ?_
  refine WL.nilS ?_
  refine CW.seq ?_
  refine CW.reg ?_
  refine WL.pure rfl rfl rfl (PV.fieldAddr T.fl167_0 rfl hb1.cells) ?_
  refine WL.pure rfl rfl rfl (PV.load1 T.na2 rfl hb1.cells (Ext.refl _) rfl) ?_
  refine WL.pure rfl rfl rfl ((by first | exact PV.fieldAddr T.fl167_0 rfl (by first | assumption | exact Bx.cells (by assumption)) | exact PV.fieldAddrP T.fl167_0 rfl rfl)) ?_
  refine WL.pure rfl rfl rfl ((by first | exact PV.load0 T.na2 rfl (by first | exact Cells.up (by assumption) hB | exact Bx.cells (by assumption) | assumption) (Ext.refl _) rfl | exact PV.load1 T.na2 rfl (by first | exact Cells.up (by assumption) hB | exact Bx.cells (by assumption) | assumption) (Ext.refl _) rfl)) ?_
  refine WL.pure rfl rfl rfl (PV.eql rfl rfl) ?_
  refine WL.asg rfl rfl ?_
  refine WL.nilS ?_
  refine CW.ret ?_
  refine RQ.r1 rfl ?_
  refine ⟨?_, hB⟩
  rfl
theorem c_slices_IndexFunc_impl_found_impl_found {w : World} {f0 f1 f2 f3 : Int} {pf : Addr} {va : Value} {xs : List R4} (ha : Rd ER w va xs) (hpf : Cells w pf [.int .i64 f0, .int .i64 f1, .int .i64 f2, .int .i64 f3]) : Calls Try.prog 227 #[va, .func (.func 204) #[] #[.pointer (some pf)]] w (Ret1 (RQt (.int .i64 (ixS xs f0)) w)) := by
  have hB : Ext w w := Ext.refl w
  have hla := ha.leI
  refine callsOf (vs := [_, _]) Try.func227 rfl Try.ntmps227 rfl rfl ?_
  refine CW.seq ?_
  refine CW.reg ?_
  refine WL.asg rfl rfl ?_
  refine WL.nilS ?_
  refine CW.seq ?_
  refine CW.seq ?_
  refine CW.reg ?_
  refine WL.mv rfl rfl ?_
  refine WL.pure rfl rfl rfl ((by first | exact PV.len rfl (by assumption) T.sl163 | exact PV.lenOs rfl (by assumption) T.sl163 | exact PV.len rfl (NL.rd (by assumption)) T.sl163 | exact PV.len rfl (Inn.rd (by assumption) (by omega)) T.sl163)) ?_
  refine WL.mv rfl rfl ?_
  refine WL.nilS ?_
  refine CW.block ?_
  refine CW.loop (σk := [(0, _), (1, _), (7, _)]) (fun ρ wz m => ∃ (k : Nat), ρ = [(8, .int .i64 (k : Nat))] ∧ m = xs.length - k ∧ UpdL [] w wz ∧ (k ≤ xs.length) ∧ (∀ j : Nat, j < k → rS xs j ≠ f0)) (ρ₀ := [(8, _)]) (m₀ := _) ⟨rfl, rfl, rfl, rfl, trivial⟩ ⟨0, rfl, rfl, (UpdL.refl _ _), (by first | omega | rfl | (simp; done) | assumption | (simp_all; done)), (by intro j h; omega)⟩ ?_
  rintro _ wl1 _ ⟨k, rfl, rfl, hU0, hk, hno⟩
  have hB := hB.loop hU0 trivial
  refine CW.seq ?_
  refine CW.reg ?_
  refine WL.pure rfl rfl rfl (PV.lss rfl rfl) ?_
  refine WL.nilS ?_
  refine CW.seq ?_
  refine CW.cond rfl (fun hc1 => ?_) (fun hc1 => ?_)
  · skip
    try simp only [nq] at hc1
    refine CW.skipS ?_
    refine CW.seq ?_
    refine CW.block ?_
    refine CW.seq ?_
    refine CW.reg ?_
    refine WL.mv rfl rfl ?_
    refine WL.asg rfl rfl ?_
    refine WL.nilS ?_
    refine CW.seq ?_
    refine CW.reg ?_
    refine WL.mv rfl rfl ?_
    refine WL.mv rfl rfl ?_
    refine WL.mv rfl rfl ?_
    first
      | refine WL.at (x := .tmp 12) (y := .tmp 13) (E := ER) ((0, 0, 0, 0)) rfl rfl (by first | assumption | exact Inn.rd (by assumption) (by omega)) (by first | omega | (simp only [List.length_set]; omega) | (simp only [List.length_append, List.length_take, List.length_replicate, List.length_drop]; omega)) (fun p1 csp1 hpp1 hcp1 hq => ?_)
      | refine WL.atZ (x := .tmp 12) (y := .tmp 13) (E := ER) ((0, 0, 0, 0)) rfl rfl (by first | assumption | exact Inn.rd (by assumption) (by omega)) (by first | omega | (simp only [List.length_set]; omega) | (simp only [List.length_append, List.length_take, List.length_replicate, List.length_drop]; omega)) (fun p1 csp1 hpp1 hzp1 hcp1 hq => ?_)
    cases hq
    refine WL.pure rfl rfl rfl ((by first | exact PV.indexAddr hpp1 rfl rfl T.sl163 | exact PV.indexAddr hpp1 rfl (by rw [← hzp1]; rfl) T.sl163)) ?_
    refine WL.pure rfl rfl rfl ((by first | exact PV.loadA T.ag167 rfl (by first | exact Cells.up (by assumption) hB | exact Bx.cells (by assumption) | assumption) (Ext.refl _) rfl | exact PV.loadP (ds := [_, _, _, _]) T.ag167 rfl (by first | exact Cells.up (by assumption) hB | exact Bx.cells (by assumption) | assumption) (Ext.refl _) rfl rfl)) ?_
    refine WL.op rfl (OpK.callV rfl T.cf204 rfl rfl (c_impl_TreeMachine_find_1_1 (by first | exact Bx.cells (by assumption) | exact Cells.up (by assumption) hB | assumption | exact Cells.add (Bx.cells (by assumption)) _ | exact Cells.add (Cells.up (by assumption) hB) _)) (fun w1 hXw1 => ?_))
    have hB := hB.trans hXw1
    have hU0 := hU0.ext hXw1
    refine WL.nilS ?_
    refine CW.cond rfl (fun hc2 => ?_) (fun hc2 => ?_)
    · skip
      try simp only [nq] at hc2
      refine CW.seq ?_
      refine CW.reg ?_
      refine WL.mv rfl rfl ?_
      refine WL.asg rfl rfl ?_
      refine WL.nilS ?_
      refine CW.ret ?_
      refine RQ.block ?_
      refine RQ.then ?_
      refine RQ.then ?_
      refine RQ.block ?_
      refine RQ.then ?_
      refine RQ.r1 rfl ?_
      refine ⟨?_, hB⟩
      exact iE (ixS_hit hno (by omega) (by assumption)).symm
    try simp only [nq] at hc2
    refine CW.skip ?_
    refine NQ.block ?_
    refine NQ.then ?_
    refine CW.reg ?_
    refine WL.pure rfl rfl rfl (PV.add rfl rfl (by constructor <;> omega)) ?_
    refine WL.mv rfl rfl ?_
    refine WL.nil ?_
    refine NQ.next (ρ := [(8, _)]) ⟨rfl, rfl, rfl, rfl, trivial⟩ ?_
    exact ⟨_, ⟨k + 1, rfl, rfl, hU0, (by first | omega | assumption | (simp_all; done) | (simp_all; omega)), (by intro j h; rcases Nat.lt_succ_iff_lt_or_eq.1 h with h | rfl; exact hno j h; assumption)⟩, by omega⟩
  try simp only [nq] at hc1
  refine CW.exit ?_
  refine XQ.then ?_
  refine XQ.then ?_
  refine XQ.here ?_
  refine NQ.then ?_
  refine CW.seq ?_
  refine CW.reg ?_
  refine WL.asg rfl rfl ?_
  refine WL.nilS ?_
  refine CW.ret ?_
  refine RQ.r1 rfl ?_
  refine ⟨?_, hB⟩
  exact iE (ixS_no hno (by omega)).symm
theorem c_slices_ContainsFunc_impl_found_impl_found {w : World} {f0 f1 f2 f3 : Int} {pf : Addr} {va : Value} {xs : List R4} (ha : Rd ER w va xs) (hpf : Cells w pf [.int .i64 f0, .int .i64 f1, .int .i64 f2, .int .i64 f3]) : Calls Try.prog 203 #[va, .func (.func 204) #[] #[.pointer (some pf)]] w (Ret1 (RQt (.bool (hasS xs f0)) w)) := by
  have hB : Ext w w := Ext.refl w
  have hla := ha.leI
  refine callsOf (vs := [_, _]) Try.func203 rfl Try.ntmps203 rfl rfl ?_
  refine CW.seq ?_
  refine CW.reg ?_
  refine WL.asg rfl rfl ?_
  refine WL.nilS ?_
  refine CW.seq ?_
  refine CW.reg ?_
  refine WL.mv rfl rfl ?_
  refine WL.mv rfl rfl ?_
  refine WL.op rfl (OpK.callR rfl T.cf227 rfl (c_slices_IndexFunc_impl_found_impl_found (by first | assumption | exact Rd.up (by assumption) hB | exact Osl.rd (by assumption) | exact Osn.rdR (by assumption) | exact NL.rd (by assumption) | exact rdII (by assumption) (by assumption) | exact Inn.rd (by assumption) (by omega)) (by first | exact Bx.cells (by assumption) | exact Cells.up (by assumption) hB | assumption | exact Cells.add (Bx.cells (by assumption)) _ | exact Cells.add (Cells.up (by assumption) hB) _)) (fun w1 hXw1 => ?_))
  have hB := hB.trans hXw1
  refine WL.pure rfl rfl rfl (PV.geq rfl rfl) ?_
  refine WL.asg rfl rfl ?_
  refine WL.nilS ?_
  refine CW.ret ?_
  refine RQ.r1 rfl ?_
  refine ⟨?_, hB⟩
  exact bE ixS_pos
theorem c_impl_TreeMachine_find_1 {w : World} {b : World} {vl : Value} {og : Option Nat} {f0 f1 f2 f3 : Int} {pl : Addr} {xs : List R4} (hB0 : Ext b w) (hmb : Bx w pl [vl]) (hmbl : Lo b (some pl.block)) (hmo : Osn 4 gR w og vl (xs)) (hmol : Lo b og) (hmd : Dj (some pl.block) og) (hN : xs.length ≤ 1000) : Calls Try.prog 202 #[.agg #[.int .i64 f0, .int .i64 f1, .int .i64 f2, .int .i64 f3], .pointer (some pl)] w (Ret1 (fun v w' => v = .tuple #[] ∧ UpdL [some pl.block, og] w w' ∧ ∃ v9 og9, Bx w' pl [v9] ∧ Osn 4 gR w' og9 v9 (putF xs (f0, f1, f2, f3)) ∧ OgR w og og9 ∧ Dj (some pl.block) og9)) := by
  have hB := hB0
  have hlo := hmo.leI
  refine callsOf (vs := [_, _]) Try.func202 rfl Try.ntmps202 rfl rfl ?_
  have hUB : UpdL [some pl.block, og] w w := UpdL.refl _ _
  have hb1 := hmb; have hl1 := hmbl; have ho2 := hmo; have hl2 := hmol; have hd1_2 := hmd
  have hkB_1 : OkB [some pl.block, og] w (some pl.block) := OkB.mem (by simp)
  have hgB_1 := OgR.refl w (some pl.block)
  have hkB_2 : OkB [some pl.block, og] w og := OkB.mem (by simp)
  have hgB_2 := OgR.refl w og
  refine CW.seq ?_
  refine CW.reg ?_
  refine WL.op rfl (OpK.box rfl rfl (by first | exact Rd.cells1 (by assumption) | exact Osl.cells1 (by assumption) | exact Osn.cells1 (by assumption) | exact Rd.cells1 (NL.rd (by assumption)) | exact Inn.cell1 (by assumption) (by omega) | assumption | rfl) (fun b3 w1 hXw1 hb3 hge3 => ?_))
  have hl3 := Lo.new hB hge3
  have hd1_3 := Dj.new hb1.ltO hge3
  have hd2_3 := Dj.new ho2.ltO hge3
  have hkB_3 := OkN.new hUB hge3
  have hgB_3 := OgR.new hUB.size hge3
  have hB := hB.trans hXw1
  have hb1 := hb1.up hXw1
  have ho2 := ho2.up hXw1
  have hUB := hUB.ext hXw1
  refine WL.nilS ?_
  refine CW.seq ?_
  refine CW.reg ?_
  refine WL.pure rfl rfl rfl (PV.load0 T.na163 rfl hb1.cells (Ext.refl _) rfl) ?_
  refine WL.pure rfl rfl rfl (PV.makeFunc (fs := []) (cs := [.tmp 2]) rfl rfl) ?_
  refine WL.op rfl (OpK.callR rfl T.cf203 rfl (c_slices_ContainsFunc_impl_found_impl_found (Osn.rdR ho2) (by first | exact Bx.cells (by assumption) | exact Cells.up (by assumption) hB | assumption | exact Cells.add (Bx.cells (by assumption)) _ | exact Cells.add (Cells.up (by assumption) hB) _)) (fun w2 hXw2 => ?_))
  have hB := hB.trans hXw2
  have hb1 := hb1.up hXw2
  have ho2 := ho2.up hXw2
  have hb3 := hb3.up hXw2
  have hUB := hUB.ext hXw2
  refine WL.pure rfl rfl rfl (PV.not rfl) ?_
  refine WL.nilS ?_
  refine CW.cond rfl (fun hc1 => ?_) (fun hc1 => ?_)
  · skip
    try simp only [nq] at hc1
    refine CW.reg ?_
    refine WL.pure rfl rfl rfl (PV.load0 T.na163 rfl hb1.cells (Ext.refl _) rfl) ?_
    refine WL.pure rfl rfl rfl (PV.loadA T.ag167 rfl hb3.cells (Ext.refl _) rfl) ?_
    refine WL.op rfl (OpK.build4 (os := [.tmp 8]) rfl T.sl163 rfl rfl T.zv167 rfl rfl (fun v4 g4 w3 hXw3 ho4 hge4 => ?_))
    have hl4 := Lo.new hB hge4
    have hd1_4 := Dj.new hb1.ltO hge4
    have hd2_4 := Dj.new ho2.ltO hge4
    have hd3_4 := Dj.new hb3.ltO hge4
    have hkB_4 := OkN.new hUB hge4
    have hgB_4 := OgR.new hUB.size hge4
    have hB := hB.trans hXw3
    have hb1 := hb1.up hXw3
    have ho2 := ho2.up hXw3
    have hb3 := hb3.up hXw3
    have hUB := hUB.ext hXw3
    refine WL.op rfl (OpK.appendN (g := gR) rfl T.sl163 T.zv167 rfl rfl ho2 rfl (Osn.src ho4) (by first | (simp only [List.length_cons, List.length_nil]; omega) | (simp_all; omega)) (fun v5 og5 w4 hXw4 ho5 hap5 => ?_))
    have hl5 := Lo.app hl2 hB hap5
    have hd1_5 := Dj.app hd1_2 hb1.ltO hap5
    have hd3_5 := Dj.app (Dj.symm hd2_3) hb3.ltO hap5
    have hd4_5 := Dj.app (Dj.symm hd2_4) ho4.ltO hap5
    have hkB_5 := OkN.app hUB hkB_2 hap5
    have hgB_5 := OgR.app hgB_2 hUB.size hap5
    have hB := hB.updL hXw4 hl2
    have hb1 := hb1.updD hXw4 hd1_2
    have hb3 := hb3.updD hXw4 (Dj.symm hd2_3)
    have ho4 := ho4.updD hXw4 (Dj.symm hd2_4)
    have hUB := hUB.step hXw4 hkB_2
    refine WL.op rfl (OpK.storeB0 T.sz163 rfl rfl (by first | rfl | exact Inn.one1 (by assumption) (by omega) | exact Osl.oneCell (by assumption) | exact Osn.oneCell (by assumption) | exact Rd.oneCell (by assumption) | exact Rd.oneCell (NL.rd (by assumption)) | assumption) hb1 (fun w5 hXw5 hb1 => ?_))
    have hB := hB.updL hXw5 hl1
    have hb3 := hb3.updD hXw5 (Dj.symm hd1_3)
    have ho4 := ho4.updD hXw5 (Dj.symm hd1_4)
    have ho5 := ho5.updD hXw5 (Dj.symm hd1_5)
    have hUB := hUB.step hXw5 hkB_1
    refine WL.nil ?_
    refine NQ.r0 ?_
    refine ⟨?_, hUB, _, _, hb1, osnE ho5 ?_, hgB_5, hd1_5⟩
    · skip
      rfl
    · skip
      first | exact (putF_has (by assumption)).symm | exact (putF_new (by assumption)).symm
  try simp only [nq] at hc1
  refine CW.skip ?_
  refine NQ.r0 ?_
  refine ⟨?_, hUB, _, _, hb1, osnE ho2 ?_, hgB_2, hd1_2⟩
  · skip
    rfl
  · skip
    first | exact (putF_has (by assumption)).symm | exact (putF_new (by assumption)).symm
theorem c_impl_TreeMachine_find {w : World} {a0 : Int} {a1 : Int} {va2 : Value} {xa2 : List Int} {va3 : Value} {xa3 : List Int} {va4 : Value} {xa4 : List Bool}  (ha2 : Rd EI w va2 xa2) (ha3 : Rd EI w va3 xa3) (ha4 : Rd EB w va4 xa4) (hv : (1 ≤ a0 ∧ a0 ≤ 16) ∧ (1 ≤ a1 ∧ a1 ≤ 4) ∧ (xa2.length : Int) = a1 ∧ (xa3.length : Int) = a0 * a0 ∧ (xa4.length : Int) = a0 ∧ allIn xa2 0 (a0 - 1) = true ∧ allIn xa3 0 (a0 - 1) = true) : Calls Try.prog 139 #[.agg #[.int .i64 a0, .int .i64 a1, va2, va3, va4]] w (Ret1 (fun v w' => Ext w w' ∧ ∃ u og_u, v = u ∧ Osn 4 gR w' og_u u (foundL a0 xa3 xa2) ∧ Lo w og_u)) := by
  have hB : Ext w w := Ext.refl w
  have hla2 := ha2.leI; have hla3 := ha3.leI; have hla4 := ha4.leI; have tv : TV a0 a1 xa2 xa3 := ⟨hv.1, hv.2.1, hv.2.2.1, hv.2.2.2.1, hv.2.2.2.2.2.1, hv.2.2.2.2.2.2⟩; have tvs := tv.s; have tvl := tv.ll; have tvn := tv.nl
  refine callsOf (vs := [_]) Try.func139 rfl Try.ntmps139 rfl rfl ?_
  refine CW.seq ?_
  refine CW.reg ?_
  refine WL.op rfl (OpK.box rfl rfl (by first | exact Rd.cells1 (by assumption) | exact Osl.cells1 (by assumption) | exact Osn.cells1 (by assumption) | exact Rd.cells1 (NL.rd (by assumption)) | exact Inn.cell1 (by assumption) (by omega) | assumption | rfl) (fun b1 w1 hXw1 hb1 hge1 => ?_))
  have hl1 := Lo.new hB hge1
  have hB := hB.trans hXw1
  refine WL.asg rfl rfl ?_
  refine WL.nilS ?_
  refine CW.seq ?_
  refine CW.reg ?_
  refine WL.op rfl (OpK.buildN (g := gR) (os := []) [] gR_ok rfl T.sl163 rfl rfl T.zv167 rfl rfl (fun v2 g2 w2 hXw2 ho2 hge2 => ?_))
  have hl2 := Lo.new hB hge2
  have hd1_2 := Dj.new hb1.ltO hge2
  have hB := hB.trans hXw2
  have hb1 := hb1.up hXw2
  refine WL.op rfl (OpK.alloc rfl T.zv163 rfl (fun b3 w3 hXw3 hb3 hge3 => ?_))
  have hl3 := Lo.new hB hge3
  have hd1_3 := Dj.new hb1.ltO hge3
  have hd2_3 := Dj.new ho2.ltO hge3
  have hB := hB.trans hXw3
  have hb1 := hb1.up hXw3
  have ho2 := ho2.up hXw3
  refine WL.op rfl (OpK.storeB0 T.sz163 rfl rfl (by first | rfl | exact Inn.one1 (by assumption) (by omega) | exact Osl.oneCell (by assumption) | exact Osn.oneCell (by assumption) | exact Rd.oneCell (by assumption) | exact Rd.oneCell (NL.rd (by assumption)) | assumption) hb3 (fun w4 hXw4 hb3 => ?_))
  have hB := hB.updL hXw4 hl3
  have hb1 := hb1.updD hXw4 hd1_3
  have ho2 := ho2.updD hXw4 hd2_3
  refine WL.nilS ?_
  refine CW.seq ?_
  refine CW.reg ?_
  refine WL.pure rfl rfl rfl (PV.makeFunc (fs := []) (cs := [.tmp 3]) rfl rfl) ?_
  refine WL.asg rfl rfl ?_
  refine WL.nilS ?_
  refine CW.seq ?_
  refine CW.seq ?_
  refine CW.reg ?_
  refine WL.pure rfl rfl rfl (PV.fieldAddr T.fl72_2 rfl hb1.cells) ?_
  refine WL.pure rfl rfl rfl (PV.load1 T.na28 rfl hb1.cells (Ext.refl _) rfl) ?_
  refine WL.pure rfl rfl rfl ((by first | exact PV.len rfl (by assumption) T.sl28 | exact PV.lenOs rfl (by assumption) T.sl28 | exact PV.len rfl (NL.rd (by assumption)) T.sl28 | exact PV.len rfl (Inn.rd (by assumption) (by omega)) T.sl28)) ?_
  refine WL.mv rfl rfl ?_
  refine WL.nilS ?_
  refine CW.block ?_
  have hlt1 := hb1.ltO
  have hlt2 := ho2.ltO
  have hlt3 := hb3.ltO
  refine CW.loop (σk := [(1, _), (3, _), (4, _), (13, _), (14, _)]) (fun ρ wz m => ∃ (v4 : Value) (og4 : Option Nat) (k : Nat), ρ = [(15, .int .i64 (k : Nat))] ∧ m = xa2.length - k ∧ UpdL [(some g2), (some b3.block)] w4 wz ∧ Osn 4 gR wz og4 v4 (lfF xa2 k) ∧ OgR w4 (some g2) og4 ∧ Bx wz b3 [v4] ∧ (k ≤ xa2.length)) (ρ₀ := [(15, _)]) (m₀ := _) ⟨rfl, rfl, rfl, rfl, rfl, rfl, trivial⟩ ⟨v2, (some g2), 0, rfl, rfl, (UpdL.refl _ _), osnE ho2 (by rfl), OgR.refl _ _, bxE hb3 (by rfl), (by first | omega | rfl | (simp; done) | assumption | (simp_all; done))⟩ ?_
  rintro _ wl1 _ ⟨v4, og4, k, rfl, rfl, hU0, ho4, ha4, hb3, hk⟩
  have hb1 := hb1.loop hU0 ⟨hd1_2, hd1_3, trivial⟩
  have hl4 := Lo.ogr hl2 hB ha4
  have hg0_4 := ha4
  have hk0_4 : OkB [(some g2), (some b3.block)] w4 og4 := OkB.ogr (OkB.mem (by simp)) (Nat.le_refl _) ha4
  have hd1_4 := Dj.ogr hd1_2 hlt1 ha4
  have hd3_4 := Dj.ogr (Dj.symm hd2_3) hlt3 ha4
  have hk0_3 : OkB [(some g2), (some b3.block)] w4 (some b3.block) := OkB.mem (by simp)
  have hB := hB.loop hU0 ⟨hl2, hl3, trivial⟩
  refine CW.seq ?_
  refine CW.reg ?_
  refine WL.pure rfl rfl rfl (PV.lss rfl rfl) ?_
  refine WL.nilS ?_
  refine CW.seq ?_
  refine CW.cond rfl (fun hc1 => ?_) (fun hc1 => ?_)
  · skip
    try simp only [nq] at hc1
    refine CW.skipS ?_
    refine CW.seq ?_
    refine CW.block ?_
    refine CW.seq ?_
    refine CW.reg ?_
    refine WL.mv rfl rfl ?_
    first
      | refine WL.at (x := .tmp 13) (y := .tmp 15) (E := EI) (0) rfl rfl (by first | assumption | exact Inn.rd (by assumption) (by omega)) (by first | omega | (simp only [List.length_set]; omega) | (simp only [List.length_append, List.length_take, List.length_replicate, List.length_drop]; omega)) (fun p1 csp1 hpp1 hcp1 hq => ?_)
      | refine WL.atZ (x := .tmp 13) (y := .tmp 15) (E := EI) (0) rfl rfl (by first | assumption | exact Inn.rd (by assumption) (by omega)) (by first | omega | (simp only [List.length_set]; omega) | (simp only [List.length_append, List.length_take, List.length_replicate, List.length_drop]; omega)) (fun p1 csp1 hpp1 hzp1 hcp1 hq => ?_)
    cases hq
    refine WL.pure rfl rfl rfl ((by first | exact PV.indexAddr hpp1 rfl rfl T.sl28 | exact PV.indexAddr hpp1 rfl (by rw [← hzp1]; rfl) T.sl28)) ?_
    refine WL.pure rfl rfl rfl ((by first | exact PV.load0 T.na2 rfl (by first | exact Cells.up (by assumption) hB | exact Bx.cells (by assumption) | assumption) (Ext.refl _) rfl | exact PV.load1 T.na2 rfl (by first | exact Cells.up (by assumption) hB | exact Bx.cells (by assumption) | assumption) (Ext.refl _) rfl)) ?_
    refine WL.asg rfl rfl ?_
    refine WL.asg rfl rfl ?_
    refine WL.nilS ?_
    refine CW.reg ?_
    have hFn := (lfF_ok tv k (by omega)).len
    refine WL.mv rfl rfl ?_
    refine WL.mv rfl rfl ?_
    refine WL.mv rfl rfl ?_
    refine WL.pure rfl rfl rfl (PV.build (ks := [0, 1]) (os := [.tmp 21, .tmp 22]) (css := [[_], [_]]) (ds := [_, _, _, _]) T.bu167 rfl rfl ⟨rfl, rfl, trivial⟩ rfl) ?_
    refine WL.op rfl (OpK.callC rfl T.cf202 rfl rfl (c_impl_TreeMachine_find_1 hB (by first | assumption | exact Lo.nl _) (by first | assumption | exact Lo.nl _) (by first | assumption | exact Dj.symm (by assumption)) (by first | assumption | exact Lo.nl _) (by first | assumption | exact Dj.symm (by assumption)) (by first | assumption | omega | (simp only [marks_len, marksB_len, marksR_len]; omega))) (fun rv1 w5 hR => ?_))
    have hlt1 := hb1.ltO
    have hlt3 := hb3.ltO
    have hlt4 := ho4.ltO
    obtain ⟨rfl, hUC6, v7, og7, hbn, ho7, hr7, hdn⟩ := hR
    have hl7 := Lo.ogr hl4 hB hr7
    have hd3_7 := hdn
    have hd1_7 := Dj.ogr hd1_4 hlt1 hr7
    have hk0_7 := OkB.ogr hk0_4 hU0.size hr7; have hg0_7 := OgR.trans hg0_4 hU0.size hr7
    have hU0 := hU0.trans hUC6 ⟨hk0_3, hk0_4, trivial⟩
    have hb1 := hb1.loop hUC6 ⟨hd1_3, hd1_4, trivial⟩
    have hB := hB.loop hUC6 ⟨hl3, hl4, trivial⟩
    have hb3 := hbn
    refine WL.nil ?_
    refine NQ.block ?_
    refine NQ.then ?_
    refine CW.reg ?_
    refine WL.pure rfl rfl rfl (PV.add rfl rfl (by constructor <;> omega)) ?_
    refine WL.mv rfl rfl ?_
    refine WL.nil ?_
    refine NQ.next (ρ := [(15, _)]) ⟨rfl, rfl, rfl, rfl, rfl, rfl, trivial⟩ ?_
    exact ⟨_, ⟨v7, og7, k + 1, rfl, rfl, hU0, osnE ho7 (by first | rfl | (simp_all; done) | (simp_all; omega)), (by first | exact hg0_7 | exact OgR.weak hg0_7), bxE hb3 (by first | rfl | (simp_all; done) | (simp_all; omega)), (by first | omega | assumption | (simp_all; done) | (simp_all; omega))⟩, by omega⟩
  try simp only [nq] at hc1
  refine CW.exit ?_
  refine XQ.then ?_
  refine XQ.then ?_
  refine XQ.here ?_
  refine NQ.then ?_
  refine CW.seq ?_
  refine CW.seq ?_
  refine CW.reg ?_
  refine WL.asg rfl rfl ?_
  refine WL.nilS ?_
  refine CW.block ?_
  have hlt1 := hb1.ltO
  have hlt3 := hb3.ltO
  have hlt4 := ho4.ltO
  refine CW.loop (σk := [(1, _), (3, _), (4, _)]) (fun ρ wz m => ∃ (v8 : Value) (og8 : Option Nat) (mi : Nat), ρ = [(7, .int .i64 (mi : Nat))] ∧ m = 17 - mi ∧ UpdL [og4, (some b3.block)] wl1 wz ∧ Osn 4 gR wz og8 v8 (genF a0 xa3 xa2 mi) ∧ OgR wl1 og4 og8 ∧ Bx wz b3 [v8] ∧ (mi ≤ (genF a0 xa3 xa2 mi).length)) (ρ₀ := [(7, _)]) (m₀ := _) ⟨rfl, rfl, rfl, rfl, trivial⟩ ⟨v4, og4, 0, rfl, rfl, (UpdL.refl _ _), osnE ho4 (by (obtain rfl : k = xa2.length := (by omega)); rfl), OgR.refl _ _, bxE hb3 (by rfl), (by exact Nat.zero_le _)⟩ ?_
  rintro _ wl2 _ ⟨v8, og8, mi, rfl, rfl, hU1, ho8, ha8, hb3, hm⟩
  have hb1 := hb1.loop hU1 ⟨hd1_4, hd1_3, trivial⟩
  have hl8 := Lo.ogr hl4 hB ha8
  have hg1_8 := ha8
  have hk1_8 : OkB [og4, (some b3.block)] wl1 og8 := OkB.ogr (OkB.mem (by simp)) (Nat.le_refl _) ha8
  have hd1_8 := Dj.ogr hd1_4 hlt1 ha8
  have hd3_8 := Dj.ogr hd3_4 hlt3 ha8
  have hk1_3 : OkB [og4, (some b3.block)] wl1 (some b3.block) := OkB.mem (by simp)
  have hB := hB.loop hU1 ⟨hl4, hl3, trivial⟩
  have hgl := (genF_ok tv mi).len
  refine CW.seq ?_
  refine CW.seq ?_
  refine CW.reg ?_
  refine WL.mv rfl rfl ?_
  refine WL.pure rfl rfl rfl (PV.load0 T.na163 rfl hb3.cells (Ext.refl _) rfl) ?_
  refine WL.pure rfl rfl rfl ((PV.lenOsn rfl ho8 T.sl163)) ?_
  refine WL.pure rfl rfl rfl (PV.lss rfl rfl) ?_
  refine WL.nilS ?_
  refine CW.cond rfl (fun hc2 => ?_) (fun hc2 => ?_)
  · skip
    try simp only [nq] at hc2
    have hml : mi < (genF a0 xa3 xa2 mi).length := by omega
    refine CW.skipS ?_
    refine CW.seq ?_
    refine CW.block ?_
    refine CW.seq ?_
    refine CW.seq ?_
    refine CW.reg ?_
    refine WL.mv rfl rfl ?_
    refine WL.mv rfl rfl ?_
    refine WL.nilS ?_
    refine CW.block ?_
    have hlt1 := hb1.ltO
    have hlt3 := hb3.ltO
    have hlt8 := ho8.ltO
    refine CW.loop (σk := [(1, _), (3, _), (4, _), (7, _), (32, _)]) (fun ρ wz m => ∃ (v10 : Value) (og10 : Option Nat) (x : Nat), ρ = [(33, .int .i64 (x : Nat))] ∧ m = mi - x ∧ UpdL [og8, (some b3.block)] wl2 wz ∧ Osn 4 gR wz og10 v10 (rowA a0 xa3 (genF a0 xa3 xa2 mi) mi x) ∧ OgR wl2 og8 og10 ∧ Bx wz b3 [v10] ∧ (x ≤ mi)) (ρ₀ := [(33, _)]) (m₀ := _) ⟨rfl, rfl, rfl, rfl, rfl, rfl, trivial⟩ ⟨v8, og8, 0, rfl, rfl, (UpdL.refl _ _), osnE ho8 (by rfl), OgR.refl _ _, bxE hb3 (by rfl), (by first | omega | rfl | (simp; done) | assumption | (simp_all; done))⟩ ?_
    rintro _ wl3 _ ⟨v10, og10, x, rfl, rfl, hU2, ho10, ha10, hb3, hx⟩
    have hU1 := hU1.trans hU2 ⟨hk1_8, hk1_3, trivial⟩
    have hb1 := hb1.loop hU2 ⟨hd1_8, hd1_3, trivial⟩
    have hl10 := Lo.ogr hl8 hB ha10
    have hg2_10 := ha10
    have hk2_10 : OkB [og8, (some b3.block)] wl2 og10 := OkB.ogr (OkB.mem (by simp)) (Nat.le_refl _) ha10
    have hk1_10 := OkB.ogr hk1_8 (by first | assumption | exact UpdL.size (by assumption)) ha10
    have hg1_10 := OgR.trans hg1_8 (by first | assumption | exact UpdL.size (by assumption)) ha10
    have hd1_10 := Dj.ogr hd1_8 hlt1 ha10
    have hd3_10 := Dj.ogr hd3_8 hlt3 ha10
    have hk2_3 : OkB [og8, (some b3.block)] wl2 (some b3.block) := OkB.mem (by simp)
    have hB := hB.loop hU2 ⟨hl8, hl3, trivial⟩
    refine CW.seq ?_
    refine CW.reg ?_
    refine WL.pure rfl rfl rfl (PV.lss rfl rfl) ?_
    refine WL.nilS ?_
    refine CW.seq ?_
    refine CW.cond rfl (fun hc3 => ?_) (fun hc3 => ?_)
    · skip
      try simp only [nq] at hc3
      refine CW.skipS ?_
      refine CW.seq ?_
      refine CW.block ?_
      refine CW.seq ?_
      refine CW.reg ?_
      refine WL.mv rfl rfl ?_
      refine WL.asg rfl rfl ?_
      refine WL.nilS ?_
      refine CW.draw T.mixed (by kernel_rfl) (fun _ _ _ _ _ h => h) (fun w8 w9 => Upd none w8 w9) 16 (.take 0 (.take 1 (.take 2 (.take 3 (.take 4 (.take 5 (.take 6 (.take 7 (.take 8 (.take 9 (.take 10 (.take 11 (.take 13 (.take 14 (.must 12 (.take 15 (.must 16 .done))))))))))))))))) (by kernel_rfl) (fun w6 hXd => ?_)
      have hB := hB.trans hXd
      have hb1 := hb1.up hXd
      have hb3 := hb3.up hXd
      have ho10 := ho10.up hXd
      have hU1 := hU1.ext hXd
      have hU2 := hU2.ext hXd
      have hBr := hB
      have hS : Upd none w6 w6 := Ext.toUpd (Ext.refl _)
      obtain ⟨hF, hFl⟩ := rowA_ok tv (genF_ok tv mi) hml x (by omega); have hFn := hF.len; have hs1 := hF.st (i := x) (by omega); have hs2 := hF.st (i := mi) (by omega); simp only [rS] at hs1 hs2
      refine HP.take rfl rfl rfl rfl hS (fun wS hS1 => PV.move rfl) ?_
      refine HP.take rfl rfl rfl rfl hS (fun wS hS1 => PV.loadA T.ag72 rfl (Bx.cells (Bx.updD (by assumption) hS1 (Dj.nlR _))) (Ext.refl _) rfl) ?_
      refine HP.take rfl rfl rfl rfl hS (fun wS hS1 => PV.load0 T.na163 rfl (Bx.cells (Bx.updD (by assumption) hS1 (Dj.nlR _))) (Ext.refl _) rfl) ?_
      refine HP.take rfl rfl rfl rfl hS (fun wS hS1 => PV.move rfl) ?_
      have hrdp2 := ho10.rdR
      first
        | refine HP.at (x := .tmp 38) (y := .tmp 39) (E := ER) ((0, 0, 0, 0)) rfl rfl hrdp2 (by first | omega | (simp only [List.length_set]; omega) | (simp only [List.length_append, List.length_take, List.length_replicate, List.length_drop]; omega)) (fun p2 csp2 hpp2 hcp2 hq => ?_)
        | refine HP.atZ (x := .tmp 38) (y := .tmp 39) (E := ER) ((0, 0, 0, 0)) rfl rfl hrdp2 (by first | omega | (simp only [List.length_set]; omega) | (simp only [List.length_append, List.length_take, List.length_replicate, List.length_drop]; omega)) (fun p2 csp2 hpp2 hzp2 hcp2 hq => ?_)
      cases hq
      refine HP.take rfl rfl rfl rfl hS (fun wS hS1 => (by first | exact PV.indexAddr hpp2 rfl rfl T.sl163 | exact PV.indexAddr hpp2 rfl (by rw [← hzp2]; rfl) T.sl163)) ?_
      refine HP.take rfl rfl rfl rfl hS (fun wS hS1 => (by first | exact PV.fieldAddr T.fl167_0 rfl (by first | assumption | exact Bx.cells (by assumption)) | exact PV.fieldAddrP T.fl167_0 rfl rfl)) ?_
      refine HP.take rfl rfl rfl rfl hS (fun wS hS1 => (by first | exact PV.load0 T.na2 rfl (by first | exact Cells.up (by assumption) (hBr.trans hS1) | exact Bx.cells (Bx.updD (by assumption) hS1 (Dj.nlR _)) | exact Cells.upd (by assumption) hS1 (by simp)) (Ext.refl _) rfl | exact PV.load1 T.na2 rfl (by first | exact Cells.up (by assumption) (hBr.trans hS1) | exact Bx.cells (Bx.updD (by assumption) hS1 (Dj.nlR _)) | exact Cells.upd (by assumption) hS1 (by simp)) (Ext.refl _) rfl)) ?_
      refine HP.take rfl rfl rfl rfl hS (fun wS hS1 => PV.load0 T.na163 rfl (Bx.cells (Bx.updD (by assumption) hS1 (Dj.nlR _))) (Ext.refl _) rfl) ?_
      refine HP.take rfl rfl rfl rfl hS (fun wS hS1 => PV.move rfl) ?_
      have hrdp3 := ho10.rdR
      first
        | refine HP.at (x := .tmp 43) (y := .tmp 44) (E := ER) ((0, 0, 0, 0)) rfl rfl hrdp3 (by first | omega | (simp only [List.length_set]; omega) | (simp only [List.length_append, List.length_take, List.length_replicate, List.length_drop]; omega)) (fun p3 csp3 hpp3 hcp3 hq => ?_)
        | refine HP.atZ (x := .tmp 43) (y := .tmp 44) (E := ER) ((0, 0, 0, 0)) rfl rfl hrdp3 (by first | omega | (simp only [List.length_set]; omega) | (simp only [List.length_append, List.length_take, List.length_replicate, List.length_drop]; omega)) (fun p3 csp3 hpp3 hzp3 hcp3 hq => ?_)
      cases hq
      refine HP.take rfl rfl rfl rfl hS (fun wS hS1 => (by first | exact PV.indexAddr hpp3 rfl rfl T.sl163 | exact PV.indexAddr hpp3 rfl (by rw [← hzp3]; rfl) T.sl163)) ?_
      refine HP.take rfl rfl rfl rfl hS (fun wS hS1 => (by first | exact PV.fieldAddr T.fl167_0 rfl (by first | assumption | exact Bx.cells (by assumption)) | exact PV.fieldAddrP T.fl167_0 rfl rfl)) ?_
      refine HP.take rfl rfl rfl rfl hS (fun wS hS1 => (by first | exact PV.load0 T.na2 rfl (by first | exact Cells.up (by assumption) (hBr.trans hS1) | exact Bx.cells (Bx.updD (by assumption) hS1 (Dj.nlR _)) | exact Cells.upd (by assumption) hS1 (by simp)) (Ext.refl _) rfl | exact PV.load1 T.na2 rfl (by first | exact Cells.up (by assumption) (hBr.trans hS1) | exact Bx.cells (Bx.updD (by assumption) hS1 (Dj.nlR _)) | exact Cells.upd (by assumption) hS1 (by simp)) (Ext.refl _) rfl)) ?_
      refine HP.take rfl rfl rfl rfl hS (fun wS hS1 => PV.move rfl) ?_
      refine HP.take rfl rfl rfl rfl hS (fun wS hS1 => PV.move rfl) ?_
      refine HP.must rfl rfl (OpK.callR rfl T.cf138 rfl (c_impl_TreeMachine_join (by first | assumption | exact Rd.up (by assumption) hB | exact Osl.rd (by assumption) | exact Osn.rdR (by assumption) | exact NL.rd (by assumption) | exact rdII (by assumption) (by assumption) | exact Inn.rd (by assumption) (by omega)) (by first | assumption | exact Rd.up (by assumption) hB | exact Osl.rd (by assumption) | exact Osn.rdR (by assumption) | exact NL.rd (by assumption) | exact rdII (by assumption) (by assumption) | exact Inn.rd (by assumption) (by omega)) (by first | assumption | exact Rd.up (by assumption) hB | exact Osl.rd (by assumption) | exact Osn.rdR (by assumption) | exact NL.rd (by assumption) | exact rdII (by assumption) (by assumption) | exact Inn.rd (by assumption) (by omega)) (by first | assumption | omega | (simp only [marks_len, marksB_len, marksR_len]; omega)) (by first | assumption | omega | (simp only [marks_len, marksB_len, marksR_len]; omega)) (by first | assumption | omega | (simp only [marks_len, marksB_len, marksR_len]; omega)) (by first | assumption | omega | (simp only [marks_len, marksB_len, marksR_len]; omega))) (fun w7 hXw7 => ?_))
      refine ⟨Upd.trans hS hXw7, ?_⟩
      have hS := Upd.trans hS hXw7
      have hB := hB.trans hXw7
      have hb1 := hb1.up hXw7
      have hb3 := hb3.up hXw7
      have ho10 := ho10.up hXw7
      have hU1 := hU1.ext hXw7
      have hU2 := hU2.ext hXw7
      refine HP.take rfl rfl rfl rfl hS (fun wS hS1 => PV.build (ks := [0, 1, 2, 3]) (os := [.tmp 48, .const (.int .i64 (-1)), .tmp 49, .tmp 50]) (css := [[_], [_], [_], [_]]) (ds := [_, _, _, _]) T.bu167 rfl rfl ⟨rfl, rfl, rfl, rfl, trivial⟩ rfl) ?_
      refine HP.last rfl rfl (OpK.callC rfl T.cf202 rfl rfl (c_impl_TreeMachine_find_1 hB (by first | assumption | exact Lo.nl _) (by first | assumption | exact Lo.nl _) (by first | assumption | exact Dj.symm (by assumption)) (by first | assumption | exact Lo.nl _) (by first | assumption | exact Dj.symm (by assumption)) (by first | assumption | omega | (simp only [marks_len, marksB_len, marksR_len]; omega))) (fun rv2 w8 hR => ?_))
      have hlt1 := hb1.ltO
      have hlt3 := hb3.ltO
      have hlt10 := ho10.ltO
      obtain ⟨rfl, hUC12, v13, og13, hbn, ho13, hr13, hdn⟩ := hR
      have hl13 := Lo.ogr hl10 hB hr13
      have hd3_13 := hdn
      have hd1_13 := Dj.ogr hd1_10 hlt1 hr13
      have hk1_13 := OkB.ogr hk1_10 hU1.size hr13; have hg1_13 := OgR.trans hg1_10 hU1.size hr13
      have hk2_13 := OkB.ogr hk2_10 hU2.size hr13; have hg2_13 := OgR.trans hg2_10 hU2.size hr13
      have hU1 := hU1.trans hUC12 ⟨hk1_3, hk1_10, trivial⟩
      have hU2 := hU2.trans hUC12 ⟨hk2_3, hk2_10, trivial⟩
      have hb1 := hb1.loop hUC12 ⟨hd1_3, hd1_10, trivial⟩
      have hB := hB.loop hUC12 ⟨hl3, hl10, trivial⟩
      have hb3 := hbn
      refine HP.done ?_
      refine NQ.block ?_
      refine NQ.then ?_
      refine CW.reg ?_
      refine WL.pure rfl rfl rfl (PV.add rfl rfl (by constructor <;> omega)) ?_
      refine WL.mv rfl rfl ?_
      refine WL.nil ?_
      refine NQ.next (ρ := [(33, _)]) ⟨rfl, rfl, rfl, rfl, rfl, rfl, trivial⟩ ?_
      exact ⟨_, ⟨v13, og13, x + 1, rfl, rfl, hU2, osnE ho13 (by first | rfl | (simp_all; done) | (simp_all; omega)), (by first | exact hg2_13 | exact OgR.weak hg2_13), bxE hb3 (by first | rfl | (simp_all; done) | (simp_all; omega)), (by first | omega | assumption | (simp_all; done) | (simp_all; omega))⟩, by omega⟩
    try simp only [nq] at hc3
    refine CW.exit ?_
    refine XQ.then ?_
    refine XQ.then ?_
    refine XQ.here ?_
    refine NQ.then ?_
    refine CW.seq ?_
    refine CW.reg ?_
    refine WL.mv rfl rfl ?_
    refine WL.pure rfl rfl rfl (PV.add rfl rfl (by constructor <;> omega)) ?_
    refine WL.mv rfl rfl ?_
    refine WL.nilS ?_
    refine CW.block ?_
    have hlt1 := hb1.ltO
    have hlt3 := hb3.ltO
    have hlt10 := ho10.ltO
    refine CW.loop (σk := [(1, _), (3, _), (4, _), (7, _), (55, _)]) (fun ρ wz m => ∃ (v14 : Value) (og14 : Option Nat) (y : Nat), ρ = [(56, .int .i64 (y : Nat))] ∧ m = mi + 1 - y ∧ UpdL [og10, (some b3.block)] wl3 wz ∧ Osn 4 gR wz og14 v14 (rowB a0 xa3 (rowA a0 xa3 (genF a0 xa3 xa2 mi) mi mi) mi y) ∧ OgR wl3 og10 og14 ∧ Bx wz b3 [v14] ∧ (y ≤ mi + 1)) (ρ₀ := [(56, _)]) (m₀ := _) ⟨rfl, rfl, rfl, rfl, rfl, rfl, trivial⟩ ⟨v10, og10, 0, rfl, rfl, (UpdL.refl _ _), osnE ho10 (by (obtain rfl : x = mi := (by omega)); rfl), OgR.refl _ _, bxE hb3 (by rfl), (by first | omega | rfl | (simp; done) | assumption | (simp_all; done))⟩ ?_
    rintro _ wl4 _ ⟨v14, og14, y, rfl, rfl, hU3, ho14, ha14, hb3, hy⟩
    have hU1 := hU1.trans hU3 ⟨hk1_10, hk1_3, trivial⟩
    have hb1 := hb1.loop hU3 ⟨hd1_10, hd1_3, trivial⟩
    have hl14 := Lo.ogr hl10 hB ha14
    have hg3_14 := ha14
    have hk3_14 : OkB [og10, (some b3.block)] wl3 og14 := OkB.ogr (OkB.mem (by simp)) (Nat.le_refl _) ha14
    have hk1_14 := OkB.ogr hk1_10 (by first | assumption | exact UpdL.size (by assumption)) ha14
    have hg1_14 := OgR.trans hg1_10 (by first | assumption | exact UpdL.size (by assumption)) ha14
    have hd1_14 := Dj.ogr hd1_10 hlt1 ha14
    have hd3_14 := Dj.ogr hd3_10 hlt3 ha14
    have hk3_3 : OkB [og10, (some b3.block)] wl3 (some b3.block) := OkB.mem (by simp)
    have hB := hB.loop hU3 ⟨hl10, hl3, trivial⟩
    refine CW.seq ?_
    refine CW.reg ?_
    refine WL.pure rfl rfl rfl (PV.lss rfl rfl) ?_
    refine WL.nilS ?_
    refine CW.seq ?_
    refine CW.cond rfl (fun hc4 => ?_) (fun hc4 => ?_)
    · skip
      try simp only [nq] at hc4
      refine CW.skipS ?_
      refine CW.seq ?_
      refine CW.block ?_
      refine CW.seq ?_
      refine CW.reg ?_
      refine WL.mv rfl rfl ?_
      refine WL.asg rfl rfl ?_
      refine WL.nilS ?_
      refine CW.draw T.mixed (by kernel_rfl) (fun _ _ _ _ _ h => h) (fun w8 w9 => Upd none w8 w9) 16 (.take 0 (.take 1 (.take 2 (.take 3 (.take 4 (.take 5 (.take 6 (.take 7 (.take 8 (.take 9 (.take 10 (.take 11 (.take 13 (.take 14 (.must 12 (.take 15 (.must 16 .done))))))))))))))))) (by kernel_rfl) (fun w9 hXd => ?_)
      have hB := hB.trans hXd
      have hb1 := hb1.up hXd
      have hb3 := hb3.up hXd
      have ho14 := ho14.up hXd
      have hU1 := hU1.ext hXd
      have hU3 := hU3.ext hXd
      have hBr := hB
      have hS : Upd none w9 w9 := Ext.toUpd (Ext.refl _)
      have hAl := (rowA_ok tv (genF_ok tv mi) hml mi (Nat.le_refl _)).2; obtain ⟨hF, hFl⟩ := rowB_ok tv (rowA_ok tv (genF_ok tv mi) hml mi (Nat.le_refl _)).1 (Nat.lt_of_lt_of_le hml (rowA_ok tv (genF_ok tv mi) hml mi (Nat.le_refl _)).2) y (by omega); have hFn := hF.len; have hs1 := hF.st (i := y) (by omega); have hs2 := hF.st (i := mi) (by omega); simp only [rS] at hs1 hs2
      refine HP.take rfl rfl rfl rfl hS (fun wS hS1 => PV.move rfl) ?_
      refine HP.take rfl rfl rfl rfl hS (fun wS hS1 => PV.loadA T.ag72 rfl (Bx.cells (Bx.updD (by assumption) hS1 (Dj.nlR _))) (Ext.refl _) rfl) ?_
      refine HP.take rfl rfl rfl rfl hS (fun wS hS1 => PV.load0 T.na163 rfl (Bx.cells (Bx.updD (by assumption) hS1 (Dj.nlR _))) (Ext.refl _) rfl) ?_
      refine HP.take rfl rfl rfl rfl hS (fun wS hS1 => PV.move rfl) ?_
      have hrdp4 := ho14.rdR
      first
        | refine HP.at (x := .tmp 61) (y := .tmp 62) (E := ER) ((0, 0, 0, 0)) rfl rfl hrdp4 (by first | omega | (simp only [List.length_set]; omega) | (simp only [List.length_append, List.length_take, List.length_replicate, List.length_drop]; omega)) (fun p4 csp4 hpp4 hcp4 hq => ?_)
        | refine HP.atZ (x := .tmp 61) (y := .tmp 62) (E := ER) ((0, 0, 0, 0)) rfl rfl hrdp4 (by first | omega | (simp only [List.length_set]; omega) | (simp only [List.length_append, List.length_take, List.length_replicate, List.length_drop]; omega)) (fun p4 csp4 hpp4 hzp4 hcp4 hq => ?_)
      cases hq
      refine HP.take rfl rfl rfl rfl hS (fun wS hS1 => (by first | exact PV.indexAddr hpp4 rfl rfl T.sl163 | exact PV.indexAddr hpp4 rfl (by rw [← hzp4]; rfl) T.sl163)) ?_
      refine HP.take rfl rfl rfl rfl hS (fun wS hS1 => (by first | exact PV.fieldAddr T.fl167_0 rfl (by first | assumption | exact Bx.cells (by assumption)) | exact PV.fieldAddrP T.fl167_0 rfl rfl)) ?_
      refine HP.take rfl rfl rfl rfl hS (fun wS hS1 => (by first | exact PV.load0 T.na2 rfl (by first | exact Cells.up (by assumption) (hBr.trans hS1) | exact Bx.cells (Bx.updD (by assumption) hS1 (Dj.nlR _)) | exact Cells.upd (by assumption) hS1 (by simp)) (Ext.refl _) rfl | exact PV.load1 T.na2 rfl (by first | exact Cells.up (by assumption) (hBr.trans hS1) | exact Bx.cells (Bx.updD (by assumption) hS1 (Dj.nlR _)) | exact Cells.upd (by assumption) hS1 (by simp)) (Ext.refl _) rfl)) ?_
      refine HP.take rfl rfl rfl rfl hS (fun wS hS1 => PV.load0 T.na163 rfl (Bx.cells (Bx.updD (by assumption) hS1 (Dj.nlR _))) (Ext.refl _) rfl) ?_
      refine HP.take rfl rfl rfl rfl hS (fun wS hS1 => PV.move rfl) ?_
      have hrdp5 := ho14.rdR
      first
        | refine HP.at (x := .tmp 66) (y := .tmp 67) (E := ER) ((0, 0, 0, 0)) rfl rfl hrdp5 (by first | omega | (simp only [List.length_set]; omega) | (simp only [List.length_append, List.length_take, List.length_replicate, List.length_drop]; omega)) (fun p5 csp5 hpp5 hcp5 hq => ?_)
        | refine HP.atZ (x := .tmp 66) (y := .tmp 67) (E := ER) ((0, 0, 0, 0)) rfl rfl hrdp5 (by first | omega | (simp only [List.length_set]; omega) | (simp only [List.length_append, List.length_take, List.length_replicate, List.length_drop]; omega)) (fun p5 csp5 hpp5 hzp5 hcp5 hq => ?_)
      cases hq
      refine HP.take rfl rfl rfl rfl hS (fun wS hS1 => (by first | exact PV.indexAddr hpp5 rfl rfl T.sl163 | exact PV.indexAddr hpp5 rfl (by rw [← hzp5]; rfl) T.sl163)) ?_
      refine HP.take rfl rfl rfl rfl hS (fun wS hS1 => (by first | exact PV.fieldAddr T.fl167_0 rfl (by first | assumption | exact Bx.cells (by assumption)) | exact PV.fieldAddrP T.fl167_0 rfl rfl)) ?_
      refine HP.take rfl rfl rfl rfl hS (fun wS hS1 => (by first | exact PV.load0 T.na2 rfl (by first | exact Cells.up (by assumption) (hBr.trans hS1) | exact Bx.cells (Bx.updD (by assumption) hS1 (Dj.nlR _)) | exact Cells.upd (by assumption) hS1 (by simp)) (Ext.refl _) rfl | exact PV.load1 T.na2 rfl (by first | exact Cells.up (by assumption) (hBr.trans hS1) | exact Bx.cells (Bx.updD (by assumption) hS1 (Dj.nlR _)) | exact Cells.upd (by assumption) hS1 (by simp)) (Ext.refl _) rfl)) ?_
      refine HP.take rfl rfl rfl rfl hS (fun wS hS1 => PV.move rfl) ?_
      refine HP.take rfl rfl rfl rfl hS (fun wS hS1 => PV.move rfl) ?_
      refine HP.must rfl rfl (OpK.callR rfl T.cf138 rfl (c_impl_TreeMachine_join (by first | assumption | exact Rd.up (by assumption) hB | exact Osl.rd (by assumption) | exact Osn.rdR (by assumption) | exact NL.rd (by assumption) | exact rdII (by assumption) (by assumption) | exact Inn.rd (by assumption) (by omega)) (by first | assumption | exact Rd.up (by assumption) hB | exact Osl.rd (by assumption) | exact Osn.rdR (by assumption) | exact NL.rd (by assumption) | exact rdII (by assumption) (by assumption) | exact Inn.rd (by assumption) (by omega)) (by first | assumption | exact Rd.up (by assumption) hB | exact Osl.rd (by assumption) | exact Osn.rdR (by assumption) | exact NL.rd (by assumption) | exact rdII (by assumption) (by assumption) | exact Inn.rd (by assumption) (by omega)) (by first | assumption | omega | (simp only [marks_len, marksB_len, marksR_len]; omega)) (by first | assumption | omega | (simp only [marks_len, marksB_len, marksR_len]; omega)) (by first | assumption | omega | (simp only [marks_len, marksB_len, marksR_len]; omega)) (by first | assumption | omega | (simp only [marks_len, marksB_len, marksR_len]; omega))) (fun w10 hXw10 => ?_))
      refine ⟨Upd.trans hS hXw10, ?_⟩
      have hS := Upd.trans hS hXw10
      have hB := hB.trans hXw10
      have hb1 := hb1.up hXw10
      have hb3 := hb3.up hXw10
      have ho14 := ho14.up hXw10
      have hU1 := hU1.ext hXw10
      have hU3 := hU3.ext hXw10
      refine HP.take rfl rfl rfl rfl hS (fun wS hS1 => PV.build (ks := [0, 1, 2, 3]) (os := [.tmp 71, .const (.int .i64 (-1)), .tmp 72, .tmp 73]) (css := [[_], [_], [_], [_]]) (ds := [_, _, _, _]) T.bu167 rfl rfl ⟨rfl, rfl, rfl, rfl, trivial⟩ rfl) ?_
      refine HP.last rfl rfl (OpK.callC rfl T.cf202 rfl rfl (c_impl_TreeMachine_find_1 hB (by first | assumption | exact Lo.nl _) (by first | assumption | exact Lo.nl _) (by first | assumption | exact Dj.symm (by assumption)) (by first | assumption | exact Lo.nl _) (by first | assumption | exact Dj.symm (by assumption)) (by first | assumption | omega | (simp only [marks_len, marksB_len, marksR_len]; omega))) (fun rv3 w11 hR => ?_))
      have hlt1 := hb1.ltO
      have hlt3 := hb3.ltO
      have hlt14 := ho14.ltO
      obtain ⟨rfl, hUC16, v17, og17, hbn, ho17, hr17, hdn⟩ := hR
      have hl17 := Lo.ogr hl14 hB hr17
      have hd3_17 := hdn
      have hd1_17 := Dj.ogr hd1_14 hlt1 hr17
      have hk1_17 := OkB.ogr hk1_14 hU1.size hr17; have hg1_17 := OgR.trans hg1_14 hU1.size hr17
      have hk3_17 := OkB.ogr hk3_14 hU3.size hr17; have hg3_17 := OgR.trans hg3_14 hU3.size hr17
      have hU1 := hU1.trans hUC16 ⟨hk1_3, hk1_14, trivial⟩
      have hU3 := hU3.trans hUC16 ⟨hk3_3, hk3_14, trivial⟩
      have hb1 := hb1.loop hUC16 ⟨hd1_3, hd1_14, trivial⟩
      have hB := hB.loop hUC16 ⟨hl3, hl14, trivial⟩
      have hb3 := hbn
      refine HP.done ?_
      refine NQ.block ?_
      refine NQ.then ?_
      refine CW.reg ?_
      refine WL.pure rfl rfl rfl (PV.add rfl rfl (by constructor <;> omega)) ?_
      refine WL.mv rfl rfl ?_
      refine WL.nil ?_
      refine NQ.next (ρ := [(56, _)]) ⟨rfl, rfl, rfl, rfl, rfl, rfl, trivial⟩ ?_
      exact ⟨_, ⟨v17, og17, y + 1, rfl, rfl, hU3, osnE ho17 (by first | rfl | (simp_all; done) | (simp_all; omega)), (by first | exact hg3_17 | exact OgR.weak hg3_17), bxE hb3 (by first | rfl | (simp_all; done) | (simp_all; omega)), (by first | omega | assumption | (simp_all; done) | (simp_all; omega))⟩, by omega⟩
    try simp only [nq] at hc4
    refine CW.exit ?_
    refine XQ.then ?_
    refine XQ.then ?_
    refine XQ.here ?_
    refine NQ.block ?_
    refine NQ.then ?_
    refine CW.reg ?_
    refine WL.mv rfl rfl ?_
    refine WL.pure rfl rfl rfl (PV.add rfl rfl (by constructor <;> omega)) ?_
    refine WL.asg rfl rfl ?_
    refine WL.nil ?_
    refine NQ.next (ρ := [(7, _)]) ⟨rfl, rfl, rfl, rfl, trivial⟩ ?_
    exact ⟨_, ⟨v14, og14, mi + 1, rfl, rfl, hU1, osnE ho14 (by (obtain rfl : y = mi + 1 := (by omega)); exact (genF_succ hml).symm), (by first | exact hg1_14 | exact OgR.weak hg1_14), bxE hb3 (by first | rfl | (simp_all; done) | (simp_all; omega)), (by exact genF_le tv hml)⟩, by omega⟩
  try simp only [nq] at hc2
  refine CW.exit ?_
  refine XQ.then ?_
  refine XQ.then ?_
  refine XQ.here ?_
  refine NQ.then ?_
  refine CW.seq ?_
  refine CW.reg ?_
  refine WL.pure rfl rfl rfl (PV.load0 T.na163 rfl hb3.cells (Ext.refl _) rfl) ?_
  refine WL.asg rfl rfl ?_
  refine WL.nilS ?_
  refine CW.ret ?_
  refine RQ.r1 rfl ?_
  refine ⟨hB, v8, og8, ?_, osnE ho8 ?_, hl8⟩
  · skip
    rfl
  · skip
    exact genF_done tv (by omega)
theorem c_math_bits_Mul64 {w : World} {N : Int} (hN : 0 ≤ N ∧ N ≤ 1048576) : Calls Try.prog 231 #[.int .u64 1, .int .u64 N] w (Ret1 (RQt (.tuple #[.int .u64 0, .int .u64 N]) w)) := by
  have hB : Ext w w := Ext.refl w
  refine callsOf (vs := [_, _]) Try.func231 rfl Try.ntmps231 rfl rfl ?_
  refine CW.seq ?_
  refine CW.reg ?_
  refine WL.asg rfl rfl ?_
  refine WL.asg rfl rfl ?_
  refine WL.nilS ?_
  refine CW.seq ?_
  refine CW.reg ?_
  refine WL.mv rfl rfl ?_
  refine WL.pure rfl rfl rfl (PV.and rfl rfl) ?_
  refine WL.asg rfl rfl ?_
  refine WL.nilS ?_
  refine CW.seq ?_
  refine CW.reg ?_
  refine WL.mv rfl rfl ?_
  refine WL.pure rfl rfl rfl (PV.shr rfl rfl (by omega) (by first | (simp only [IntKind.bits]; omega) | (simp [IntKind.bits] <;> omega))) ?_
  refine WL.asg rfl rfl ?_
  refine WL.nilS ?_
  refine CW.seq ?_
  refine CW.reg ?_
  refine WL.mv rfl rfl ?_
  refine WL.pure rfl rfl rfl (PV.and rfl rfl) ?_
  refine WL.asg rfl rfl ?_
  refine WL.nilS ?_
  refine CW.seq ?_
  refine CW.reg ?_
  refine WL.mv rfl rfl ?_
  refine WL.pure rfl rfl rfl (PV.shr rfl rfl (by omega) (by first | (simp only [IntKind.bits]; omega) | (simp [IntKind.bits] <;> omega))) ?_
  refine WL.asg rfl rfl ?_
  refine WL.nilS ?_
  refine CW.seq ?_
  refine CW.reg ?_
  refine WL.mv rfl rfl ?_
  refine WL.mv rfl rfl ?_
  refine WL.pure rfl rfl rfl (PV.mulW rfl rfl) ?_
  refine WL.asg rfl rfl ?_
  refine WL.nilS ?_
  refine CW.seq ?_
  refine CW.reg ?_
  refine WL.mv rfl rfl ?_
  refine WL.mv rfl rfl ?_
  refine WL.pure rfl rfl rfl (PV.mulW rfl rfl) ?_
  refine WL.mv rfl rfl ?_
  refine WL.pure rfl rfl rfl (PV.shr rfl rfl (by omega) (by first | (simp only [IntKind.bits]; omega) | (simp [IntKind.bits] <;> omega))) ?_
  refine WL.pure rfl rfl rfl (PV.addW rfl rfl) ?_
  refine WL.asg rfl rfl ?_
  refine WL.nilS ?_
  refine CW.seq ?_
  refine CW.reg ?_
  refine WL.mv rfl rfl ?_
  refine WL.pure rfl rfl rfl (PV.and rfl rfl) ?_
  refine WL.asg rfl rfl ?_
  refine WL.nilS ?_
  refine CW.seq ?_
  refine CW.reg ?_
  refine WL.mv rfl rfl ?_
  refine WL.pure rfl rfl rfl (PV.shr rfl rfl (by omega) (by first | (simp only [IntKind.bits]; omega) | (simp [IntKind.bits] <;> omega))) ?_
  refine WL.asg rfl rfl ?_
  refine WL.nilS ?_
  refine CW.seq ?_
  refine CW.reg ?_
  refine WL.mv rfl rfl ?_
  refine WL.mv rfl rfl ?_
  refine WL.mv rfl rfl ?_
  refine WL.pure rfl rfl rfl (PV.mulW rfl rfl) ?_
  refine WL.pure rfl rfl rfl (PV.addW rfl rfl) ?_
  refine WL.asg rfl rfl ?_
  refine WL.nilS ?_
  refine CW.seq ?_
  refine CW.reg ?_
  refine WL.mv rfl rfl ?_
  refine WL.mv rfl rfl ?_
  refine WL.pure rfl rfl rfl (PV.mulW rfl rfl) ?_
  refine WL.mv rfl rfl ?_
  refine WL.pure rfl rfl rfl (PV.addW rfl rfl) ?_
  refine WL.mv rfl rfl ?_
  refine WL.pure rfl rfl rfl (PV.shr rfl rfl (by omega) (by first | (simp only [IntKind.bits]; omega) | (simp [IntKind.bits] <;> omega))) ?_
  refine WL.pure rfl rfl rfl (PV.addW rfl rfl) ?_
  refine WL.asg rfl rfl ?_
  refine WL.nilS ?_
  refine CW.seq ?_
  refine CW.reg ?_
  refine WL.mv rfl rfl ?_
  refine WL.mv rfl rfl ?_
  refine WL.pure rfl rfl rfl (PV.mulW rfl rfl) ?_
  refine WL.asg rfl rfl ?_
  refine WL.nilS ?_
  refine CW.ret ?_
  refine RQ.r2 rfl rfl ?_
  refine ⟨?_, hB⟩
  simp only [mask1, maskZ hN, Int.one_mul, Int.mul_one, Int.zero_mul, Int.mul_zero, shr0 hN, shr0 (N := 1) (by decide), shr0 (N := 0) (by decide), wrapU hN, wrapU (N := 0) (by decide), Int.add_zero, Int.zero_add, maskZ (N := 0) (by decide)]
theorem c_math_bits_Mul {w : World} {N : Int} (hN : 0 ≤ N ∧ N ≤ 1048576) : Calls Try.prog 229 #[.int .u64 1, .int .u64 N] w (Ret1 (RQt (.tuple #[.int .u64 0, .int .u64 N]) w)) := by
  have hB : Ext w w := Ext.refl w
  refine callsOf (vs := [_, _]) Try.func229 rfl Try.ntmps229 rfl rfl ?_
  refine CW.seq ?_
  refine CW.reg ?_
  refine WL.asg rfl rfl ?_
  refine WL.asg rfl rfl ?_
  refine WL.nilS ?_
  refine CW.seq ?_
  refine CW.condF rfl ?_
  refine CW.skipS ?_
  refine CW.seq ?_
  refine CW.reg ?_
  refine WL.mv rfl rfl ?_
  refine WL.mv rfl rfl ?_
  refine WL.op rfl (OpK.callR rfl T.cf231 rfl (c_math_bits_Mul64 (by first | assumption | omega | (simp only [marks_len, marksB_len, marksR_len]; omega))) (fun w1 hXw1 => ?_))
  have hB := hB.trans hXw1
  refine WL.mv rfl rfl ?_
  refine WL.pure rfl rfl rfl (PV.extract rfl rfl) ?_
  refine WL.pure rfl rfl rfl (PV.extract rfl rfl) ?_
  refine WL.asg rfl rfl ?_
  refine WL.asg rfl rfl ?_
  refine WL.nilS ?_
  refine CW.seq ?_
  refine CW.reg ?_
  refine WL.mv rfl rfl ?_
  refine WL.mv rfl rfl ?_
  refine WL.asg rfl rfl ?_
  refine WL.asg rfl rfl ?_
  refine WL.nilS ?_
  refine CW.ret ?_
  refine RQ.r2 rfl rfl ?_
  refine ⟨?_, hB⟩
  rfl
theorem c_slices_Repeat_int64_int64 {w : World} {va : Value} {x N : Int} (ha : Rd EI w va [x]) (hN : 0 ≤ N ∧ N ≤ 1048576) : Calls Try.prog 225 #[va, .int .i64 N] w (Ret1 (fun v w' => Ext w w' ∧ ∃ v1 og_v1, v = v1 ∧ Osl VI w' og_v1 v1 (List.replicate N.toNat x) ∧ Lo w og_v1)) := by
  have hB : Ext w w := Ext.refl w
  refine callsOf (vs := [_, _]) Try.func225 rfl Try.ntmps225 rfl rfl ?_
  refine CW.seq ?_
  refine CW.reg ?_
  refine WL.asg rfl rfl ?_
  refine WL.nilS ?_
  refine CW.seq ?_
  refine CW.seq ?_
  refine CW.reg ?_
  refine WL.mv rfl rfl ?_
  refine WL.pure rfl rfl rfl (PV.lss rfl rfl) ?_
  refine WL.nilS ?_
  refine CW.cond rfl (fun hc1 => ?_) (fun hc1 => ?_)
  · skip
    try simp only [nq] at hc1
    exfalso; omega
  try simp only [nq] at hc1
  refine CW.skipS ?_
  refine CW.seq ?_
  refine CW.reg ?_
  refine WL.mv rfl rfl ?_
  refine WL.pure rfl rfl rfl ((by first | exact PV.len rfl (by assumption) T.sl28 | exact PV.lenOs rfl (by assumption) T.sl28 | exact PV.len rfl (NL.rd (by assumption)) T.sl28 | exact PV.len rfl (Inn.rd (by assumption) (by omega)) T.sl28)) ?_
  refine WL.pure rfl rfl rfl (PV.convW rfl T.us3 T.ik251) ?_
  refine WL.mv rfl rfl ?_
  refine WL.pure rfl rfl rfl (PV.convW rfl T.us3 T.ik251) ?_
  rw [wrapU hN, show IntKind.u64.wrap (([x].length : Nat) : Int) = 1 from (by show IntKind.u64.wrap 1 = 1; decide)]
  refine WL.op rfl (OpK.callR rfl T.cf229 rfl (c_math_bits_Mul (by first | assumption | omega | (simp only [marks_len, marksB_len, marksR_len]; omega))) (fun w1 hXw1 => ?_))
  have hB := hB.trans hXw1
  refine WL.mv rfl rfl ?_
  refine WL.pure rfl rfl rfl (PV.extract rfl rfl) ?_
  refine WL.pure rfl rfl rfl (PV.extract rfl rfl) ?_
  refine WL.asg rfl rfl ?_
  refine WL.asg rfl rfl ?_
  refine WL.nilS ?_
  refine CW.seq ?_
  refine CW.seq ?_
  refine CW.reg ?_
  refine WL.mv rfl rfl ?_
  refine WL.pure rfl rfl rfl (PV.gtr rfl rfl) ?_
  refine WL.mv rfl rfl ?_
  refine WL.split (t := 23) rfl (fun hc2 => ?_) (fun hc2 => ?_)
  · skip
    try simp only [nq] at hc2
    refine WL.skip rfl rfl rfl rfl rfl ?_
    refine WL.skip rfl rfl rfl rfl rfl ?_
    refine WL.pure rfl rfl rfl (PV.pickT rfl rfl) ?_
    refine WL.nilS ?_
    exfalso; omega
  try simp only [nq] at hc2
  refine WL.pureG rfl rfl rfl rfl rfl (PV.move rfl) ?_
  refine WL.pureG rfl rfl rfl rfl rfl (PV.gtr rfl rfl) ?_
  refine WL.pure rfl rfl rfl (PV.pickF rfl rfl) ?_
  refine WL.nilS ?_
  refine CW.cond rfl (fun hc3 => ?_) (fun hc3 => ?_)
  · skip
    try simp only [nq] at hc3
    exfalso; omega
  try simp only [nq] at hc3
  refine CW.skipS ?_
  refine CW.seq ?_
  refine CW.reg ?_
  refine WL.mv rfl rfl ?_
  refine WL.pure rfl rfl rfl (PV.conv rfl T.us251 T.ik3 (by constructor <;> omega)) ?_
  first
    | refine WL.op rfl (OpK.makeS VI (0) rfl T.sl28 T.zv2 rfl rfl rfl (by constructor <;> omega) (fun v1 g1 w2 hXw2 ho1 hge1 => ?_))
    | refine WL.op rfl (OpK.makeSZ VI (0) rfl T.sl28 T.zv2 rfl rfl rfl (by omega) (by constructor <;> omega) (fun v1 g1 w2 hXw2 ho1 hge1 => ?_))
  have hl1 := Lo.new hB hge1
  have hB := hB.trans hXw2
  refine WL.asg rfl rfl ?_
  refine WL.nilS ?_
  refine CW.seq ?_
  refine CW.reg ?_
  refine WL.mv rfl rfl ?_
  refine WL.mv rfl rfl ?_
  refine WL.op rfl (OpK.copyS (f := VI) (l := 0) rfl T.sl28 (by exact congrArg some (slV_zero (ho1).isSl).symm) (by omega) ho1 rfl (Rd.src (by first | assumption | exact Rd.up (by assumption) hB) (fun _ => rfl)) (by exact rep_m0) (fun w3 hXw3 ho1 => ?_))
  have hB := hB.updL hXw3 hl1
  refine WL.asg rfl rfl ?_
  refine WL.nilS ?_
  refine CW.seq ?_
  refine CW.block ?_
  have hlt1 := ho1.ltO
  refine CW.loop (σk := [(7, _)]) (fun ρ wz m => ∃ (k : Nat), ρ = [(8, .int .i64 (k : Nat))] ∧ m = N.toNat - k ∧ UpdL [(some g1)] w3 wz ∧ Osl VI wz (some g1) v1 (List.replicate k x ++ List.replicate (N.toNat - k) (0 : Int)) ∧ (k ≤ N.toNat) ∧ (N.toNat ≠ 0 → 1 ≤ k)) (ρ₀ := [(8, _)]) (m₀ := _) ⟨rfl, rfl, trivial⟩ ⟨min 1 N.toNat, rfl, rfl, (UpdL.refl _ _), osE ho1 (by exact rep_first), (by omega), (by omega)⟩ ?_
  rintro _ wl1 _ ⟨k, rfl, rfl, hU0, ho1, hk, hk1⟩
  have hk0_1 : OkB [(some g1)] w3 (some g1) := OkB.mem (by simp)
  have hB := hB.loop hU0 ⟨hl1, trivial⟩
  have hll : (List.replicate k x ++ List.replicate (N.toNat - k) (0 : Int)).length = N.toNat := by simp; omega
  refine CW.seq ?_
  refine CW.seq ?_
  refine CW.reg ?_
  refine WL.mv rfl rfl ?_
  refine WL.mv rfl rfl ?_
  refine WL.pure rfl rfl rfl ((PV.lenOs rfl ho1 T.sl28)) ?_
  refine WL.pure rfl rfl rfl (PV.lss rfl rfl) ?_
  refine WL.nilS ?_
  refine CW.cond rfl (fun hc4 => ?_) (fun hc4 => ?_)
  · skip
    try simp only [nq] at hc4
    refine CW.skipS ?_
    refine CW.block ?_
    refine CW.draw T.mixed (by kernel_rfl) (fun _ _ _ _ _ h => h) (fun w8 w9 => Upd (some g1) w8 w9) 10 (.take 0 (.take 1 (.take 2 (.take 3 (.take 4 (.take 5 (.take 6 (.must 7 (.take 8 (.take 9 .done)))))))))) (by kernel_rfl) (fun w4 hXd => ?_)
    have hB := hB.trans hXd
    have ho1 := ho1.up hXd
    have hU0 := hU0.ext hXd
    have hBr := hB
    have hS : Upd (some g1) w4 w4 := Ext.toUpd (Ext.refl _)
    refine HP.take rfl rfl rfl rfl hS (fun wS hS1 => PV.move rfl) ?_
    refine HP.take rfl rfl rfl rfl hS (fun wS hS1 => PV.move rfl) ?_
    refine HP.take rfl rfl rfl rfl hS (fun wS hS1 => PV.move rfl) ?_
    refine HP.slOL (x := .tmp 39) (lo := .tmp 40) T.sl28 rfl rfl rfl (by assumption) (by first | omega | (simp; omega) | (simp_all; omega)) (fun u1 huu1 heu1 => ?_)
    refine HP.take rfl rfl rfl rfl hS (fun wS hS1 => (huu1 _ _ _ _ _ _)) ?_
    refine HP.take rfl rfl rfl rfl hS (fun wS hS1 => PV.move rfl) ?_
    refine HP.take rfl rfl rfl rfl hS (fun wS hS1 => PV.move rfl) ?_
    refine HP.slO (x := .tmp 42) (hi := .tmp 43) T.sl28 rfl rfl rfl (by assumption) (by first | omega | (simp; omega) | (simp_all; omega)) (fun u2 huu2 hou2 => ?_)
    refine HP.take rfl rfl rfl rfl hS (fun wS hS1 => (huu2 _ _ _ _ _ _)) ?_
    refine HP.must rfl rfl (OpK.copyS (f := VI) rfl T.sl28 (by rw [← heu1]; rfl) (by omega) ho1 rfl (Osl.src hou2 (fun _ => rfl)) (by exact rep_m (by omega)) (fun w5 hXw5 ho1 => ?_))
    refine ⟨Upd.trans hS hXw5, ?_⟩
    have hS := Upd.trans hS hXw5
    have hB := hB.updL hXw5 hl1
    have hU0 := hU0.step hXw5 hk0_1
    refine HP.take rfl rfl rfl rfl hS (fun wS hS1 => PV.add rfl rfl (by constructor <;> omega)) ?_
    refine HP.take rfl rfl rfl rfl hS (fun wS hS1 => PV.assign rfl) ?_
    refine HP.done ?_
    refine NQ.block ?_
    refine NQ.next (ρ := [(8, _)]) ⟨rfl, rfl, trivial⟩ ?_
    exact ⟨_, ⟨k + min k (N.toNat - k), (by simp), rfl, hU0, osE ho1 (by rw [Int.toNat_natCast]; exact rep_more (by omega) rfl), (by omega), (by omega)⟩, by omega⟩
  try simp only [nq] at hc4
  refine CW.exit ?_
  refine XQ.then ?_
  refine XQ.then ?_
  refine XQ.here ?_
  refine NQ.then ?_
  refine CW.seq ?_
  refine CW.reg ?_
  refine WL.mv rfl rfl ?_
  refine WL.asg rfl rfl ?_
  refine WL.nilS ?_
  refine CW.ret ?_
  refine RQ.r1 rfl ?_
  refine ⟨hB, v1, (some g1), ?_, osE ho1 ?_, hl1⟩
  · skip
    rfl
  · skip
    exact rep_done (by omega) (by omega)
theorem c_impl_none {w : World} {N : Int} (hN : 0 ≤ N ∧ N ≤ 1048576) : Calls Try.prog 199 #[.int .i64 N] w (Ret1 (fun v w' => Ext w w' ∧ ∃ v1 og_v1, v = v1 ∧ Osl VI w' og_v1 v1 (List.replicate N.toNat (-1 : Int)) ∧ Lo w og_v1)) := by
  have hB : Ext w w := Ext.refl w
  refine callsOf (vs := [_]) Try.func199 rfl Try.ntmps199 rfl rfl ?_
  refine CW.seq ?_
  refine CW.reg ?_
  refine WL.asg rfl rfl ?_
  refine WL.nilS ?_
  refine CW.seq ?_
  refine CW.reg ?_
  refine WL.op rfl (OpK.buildS VI (os := [.const (.int .i64 (-1))]) [_] rfl T.sl28 rfl rfl T.zv2 rfl (by intro z hz; first | rfl | (simp only [List.mem_cons, List.not_mem_nil, or_false] at hz; subst hz; exact (by first | exact Rd.cells1 (by assumption) | exact Osl.cells1 (by assumption) | exact Osn.cells1 (by assumption) | exact Rd.cells1 (NL.rd (by assumption)) | exact Inn.cell1 (by assumption) (by omega) | assumption | rfl))) rfl (fun v1 g1 w1 hXw1 ho1 hge1 => ?_))
  have hl1 := Lo.new hB hge1
  have hB := hB.trans hXw1
  refine WL.mv rfl rfl ?_
  refine WL.op rfl (OpK.call rfl T.cf225 rfl (c_slices_Repeat_int64_int64 (Osl.rd ho1) (by first | assumption | omega | (simp only [marks_len, marksB_len, marksR_len]; omega))) (fun rv1 w2 hR => ?_))
  obtain ⟨hXw2, v2, og2, rfl, ho2, hq2⟩ := hR
  have hl2 := Lo.up hq2 hB
  have hd1_2 := Dj.lo ho1.ltO hq2
  have hB := hB.trans hXw2
  have ho1 := ho1.up hXw2
  refine WL.asg rfl rfl ?_
  refine WL.nilS ?_
  refine CW.ret ?_
  refine RQ.r1 rfl ?_
  refine ⟨hB, rv1, og2, ?_, osE ho2 ?_, hl2⟩
  · skip
    rfl
  · skip
    rfl
set_option maxHeartbeats 4000000 in
theorem c_impl_TreeMachine_classes {w : World} {a0 : Int} {a1 : Int} {va2 : Value} {xa2 : List Int} {va3 : Value} {xa3 : List Int} {va4 : Value} {xa4 : List Bool} {vl : Value} {l : List R4} (ha2 : Rd EI w va2 xa2) (ha3 : Rd EI w va3 xa3) (ha4 : Rd EB w va4 xa4) (hL : Rd ER w vl l) (hv : (1 ≤ a0 ∧ a0 ≤ 16) ∧ (1 ≤ a1 ∧ a1 ≤ 4) ∧ (xa2.length : Int) = a1 ∧ (xa3.length : Int) = a0 * a0 ∧ (xa4.length : Int) = a0 ∧ allIn xa2 0 (a0 - 1) = true ∧ allIn xa3 0 (a0 - 1) = true) (hF : FO a0 a1 l) : Calls Try.prog 140 #[.agg #[.int .i64 a0, .int .i64 a1, va2, va3, va4], vl] w (Ret1 (fun v w' => Ext w w' ∧ ∃ u og_u, v = u ∧ Osl VI w' og_u u (clsF a0 xa4 xa3 l) ∧ Lo w og_u)) := by
  have hB : Ext w w := Ext.refl w
  have hla2 := ha2.leI; have hla3 := ha3.leI; have hla4 := ha4.leI; have tv : TV a0 a1 xa2 xa3 := ⟨hv.1, hv.2.1, hv.2.2.1, hv.2.2.2.1, hv.2.2.2.2.2.1, hv.2.2.2.2.2.2⟩; have tvs := tv.s; have tvl := tv.ll; have tvn := tv.nl; have hll := hL.leI; have hFn := hF.len; have hv5 := hv.2.2.2.2.1
  refine callsOf (vs := [_, _]) Try.func140 rfl Try.ntmps140 rfl rfl ?_
  refine CW.seq ?_
  refine CW.reg ?_
  refine WL.op rfl (OpK.box rfl rfl (by first | exact Rd.cells1 (by assumption) | exact Osl.cells1 (by assumption) | exact Osn.cells1 (by assumption) | exact Rd.cells1 (NL.rd (by assumption)) | exact Inn.cell1 (by assumption) (by omega) | assumption | rfl) (fun b1 w1 hXw1 hb1 hge1 => ?_))
  have hl1 := Lo.new hB hge1
  have hB := hB.trans hXw1
  refine WL.asg rfl rfl ?_
  refine WL.nilS ?_
  refine CW.seq ?_
  refine CW.reg ?_
  refine WL.pure rfl rfl rfl (PV.fieldAddr T.fl72_0 rfl hb1.cells) ?_
  refine WL.pure rfl rfl rfl (PV.load1 T.na2 rfl hb1.cells (Ext.refl _) rfl) ?_
  refine WL.op rfl (OpK.call rfl T.cf199 rfl (c_impl_none (by first | assumption | omega | (simp only [marks_len, marksB_len, marksR_len]; omega))) (fun rv1 w2 hR => ?_))
  obtain ⟨hXw2, v2, og2, rfl, ho2, hq2⟩ := hR
  have hl2 := Lo.up hq2 hB
  have hd1_2 := Dj.lo hb1.ltO hq2
  have hB := hB.trans hXw2
  have hb1 := hb1.up hXw2
  refine WL.asg rfl rfl ?_
  refine WL.nilS ?_
  refine CW.seq ?_
  refine CW.seq ?_
  refine CW.reg ?_
  refine WL.mv rfl rfl ?_
  refine WL.pure rfl rfl rfl ((by first | exact PV.len rfl (by assumption) T.sl163 | exact PV.lenOs rfl (by assumption) T.sl163 | exact PV.len rfl (NL.rd (by assumption)) T.sl163 | exact PV.len rfl (Inn.rd (by assumption) (by omega)) T.sl163)) ?_
  refine WL.mv rfl rfl ?_
  refine WL.nilS ?_
  refine CW.block ?_
  have hlt1 := hb1.ltO
  have hlt2 := ho2.ltO
  refine CW.loop (σk := [(1, _), (2, _), (5, _), (20, _), (21, _)]) (fun ρ wz m => ∃ (k : Nat), ρ = [(22, .int .i64 (k : Nat))] ∧ m = l.length - k ∧ UpdL [og2] w2 wz ∧ Osl VI wz og2 rv1 (c0F a0 xa4 l k) ∧ (k ≤ l.length)) (ρ₀ := [(22, _)]) (m₀ := _) ⟨rfl, rfl, rfl, rfl, rfl, rfl, trivial⟩ ⟨0, rfl, rfl, (UpdL.refl _ _), osE ho2 (by rfl), (by first | omega | rfl | (simp; done) | assumption | (simp_all; done))⟩ ?_
  rintro _ wl1 _ ⟨k, rfl, rfl, hU0, ho2, hk⟩
  have hb1 := hb1.loop hU0 ⟨hd1_2, trivial⟩
  have hk0_2 : OkB [og2] w2 og2 := OkB.mem (by simp)
  have hB := hB.loop hU0 ⟨hl2, trivial⟩
  refine CW.seq ?_
  refine CW.reg ?_
  refine WL.pure rfl rfl rfl (PV.lss rfl rfl) ?_
  refine WL.nilS ?_
  refine CW.seq ?_
  refine CW.cond rfl (fun hc1 => ?_) (fun hc1 => ?_)
  · skip
    try simp only [nq] at hc1
    refine CW.skipS ?_
    refine CW.seq ?_
    refine CW.block ?_
    refine CW.seq ?_
    refine CW.reg ?_
    have hs0 := hF.st (i := k) (by omega); simp only [rS] at hs0; have hc0 := c0F_len (a0 := a0) (en := xa4) (l := l) k
    first
      | refine WL.at (x := .tmp 20) (y := .tmp 22) (E := ER) ((0, 0, 0, 0)) rfl rfl (by first | assumption | exact Inn.rd (by assumption) (by omega)) (by first | omega | (simp only [List.length_set]; omega) | (simp only [List.length_append, List.length_take, List.length_replicate, List.length_drop]; omega)) (fun p1 csp1 hpp1 hcp1 hq => ?_)
      | refine WL.atZ (x := .tmp 20) (y := .tmp 22) (E := ER) ((0, 0, 0, 0)) rfl rfl (by first | assumption | exact Inn.rd (by assumption) (by omega)) (by first | omega | (simp only [List.length_set]; omega) | (simp only [List.length_append, List.length_take, List.length_replicate, List.length_drop]; omega)) (fun p1 csp1 hpp1 hzp1 hcp1 hq => ?_)
    cases hq
    refine WL.pure rfl rfl rfl ((by first | exact PV.indexAddr hpp1 rfl rfl T.sl163 | exact PV.indexAddr hpp1 rfl (by rw [← hzp1]; rfl) T.sl163)) ?_
    refine WL.pure rfl rfl rfl ((by first | exact PV.loadA T.ag167 rfl (by first | exact Cells.up (by assumption) hB | exact Bx.cells (by assumption) | assumption) (Ext.refl _) rfl | exact PV.loadP (ds := [_, _, _, _]) T.ag167 rfl (by first | exact Cells.up (by assumption) hB | exact Bx.cells (by assumption) | assumption) (Ext.refl _) rfl rfl)) ?_
    refine WL.op rfl (OpK.alloc rfl T.zv167 rfl (fun b4 w3 hXw3 hb4 hge4 => ?_))
    have hl4 := Lo.new hB hge4
    have hd1_4 := Dj.new hb1.ltO hge4
    have hd2_4 := Dj.new ho2.ltO hge4
    have hk0_4 := OkN.new hU0 hge4
    have hg0_4 := OgR.new hU0.size hge4
    have hB := hB.trans hXw3
    have hb1 := hb1.up hXw3
    have ho2 := ho2.up hXw3
    have hU0 := hU0.ext hXw3
    refine WL.op rfl (OpK.storeA T.sz167 rfl rfl rfl rfl (by simp [Value.oneCell'] <;> first | done | (repeat' apply And.intro) <;> first | rfl | exact Inn.one1 (by assumption) (by omega) | exact Osl.oneCell (by assumption) | exact Osn.oneCell (by assumption) | exact Rd.oneCell (by assumption) | exact Rd.oneCell (NL.rd (by assumption)) | assumption) hb4 (fun w4 hXw4 hb4 => ?_))
    have hB := hB.updL hXw4 hl4
    have hb1 := hb1.updD hXw4 hd1_4
    have ho2 := ho2.updD hXw4 hd2_4
    have hU0 := hU0.step hXw4 hk0_4
    refine WL.nilS ?_
    refine CW.seq ?_
    refine CW.reg ?_
    refine WL.mv rfl rfl ?_
    refine WL.pure rfl rfl rfl (PV.fieldAddr T.fl167_0 rfl hb4.cells) ?_
    refine WL.pure rfl rfl rfl (PV.load1 T.na2 rfl hb4.cells (Ext.refl _) rfl) ?_
    first
      | refine WL.atO (x := .tmp 26) (y := .tmp 28) (f := VI) (0) rfl rfl ho2 (by first | omega | (simp only [List.length_set]; omega) | (simp only [List.length_append, List.length_take, List.length_replicate, List.length_drop]; omega)) (fun p2 hpp2 hcp2 => ?_)
      | refine WL.atOZ (x := .tmp 26) (y := .tmp 28) (f := VI) (0) rfl rfl ho2 (by first | omega | (simp only [List.length_set]; omega) | (simp only [List.length_append, List.length_take, List.length_replicate, List.length_drop]; omega)) (fun p2 hpp2 hzp2 hcp2 => ?_)
    refine WL.pure rfl rfl rfl ((by first | exact PV.indexAddr hpp2 rfl rfl T.sl28 | exact PV.indexAddr hpp2 rfl (by rw [← hzp2]; rfl) T.sl28)) ?_
    refine WL.op rfl (OpK.storeS VI T.sz2 rfl rfl rfl hpp2 ho2 (fun w5 hXw5 ho2 => ?_))
    have hB := hB.updL hXw5 hl2
    have hb1 := hb1.updD hXw5 hd1_2
    have hb4 := hb4.updD hXw5 (Dj.symm hd2_4)
    have hU0 := hU0.step hXw5 hk0_2
    refine WL.nilS ?_
    refine CW.seq ?_
    refine CW.reg ?_
    refine WL.pure rfl rfl rfl (PV.fieldAddr T.fl72_4 rfl hb1.cells) ?_
    refine WL.pure rfl rfl rfl (PV.load1 T.na62 rfl hb1.cells (Ext.refl _) rfl) ?_
    refine WL.pure rfl rfl rfl (PV.fieldAddr T.fl167_0 rfl hb4.cells) ?_
    refine WL.pure rfl rfl rfl (PV.load1 T.na2 rfl hb4.cells (Ext.refl _) rfl) ?_
    first
      | refine WL.at (x := .tmp 31) (y := .tmp 33) (E := EB) (false) rfl rfl (by first | assumption | exact Inn.rd (by assumption) (by omega)) (by first | omega | (simp only [List.length_set]; omega) | (simp only [List.length_append, List.length_take, List.length_replicate, List.length_drop]; omega)) (fun p3 csp3 hpp3 hcp3 hq => ?_)
      | refine WL.atZ (x := .tmp 31) (y := .tmp 33) (E := EB) (false) rfl rfl (by first | assumption | exact Inn.rd (by assumption) (by omega)) (by first | omega | (simp only [List.length_set]; omega) | (simp only [List.length_append, List.length_take, List.length_replicate, List.length_drop]; omega)) (fun p3 csp3 hpp3 hzp3 hcp3 hq => ?_)
    cases hq
    refine WL.pure rfl rfl rfl ((by first | exact PV.indexAddr hpp3 rfl rfl T.sl62 | exact PV.indexAddr hpp3 rfl (by rw [← hzp3]; rfl) T.sl62)) ?_
    refine WL.pure rfl rfl rfl ((by first | exact PV.load0 T.na4 rfl (by first | exact Cells.up (by assumption) hB | exact Bx.cells (by assumption) | assumption) (Ext.refl _) rfl | exact PV.load1 T.na4 rfl (by first | exact Cells.up (by assumption) hB | exact Bx.cells (by assumption) | assumption) (Ext.refl _) rfl)) ?_
    refine WL.nilS ?_
    refine CW.cond rfl (fun hc2 => ?_) (fun hc2 => ?_)
    · skip
      try simp only [nq] at hc2
      refine CW.reg ?_
      refine WL.mv rfl rfl ?_
      refine WL.pure rfl rfl rfl (PV.fieldAddr T.fl167_0 rfl hb4.cells) ?_
      refine WL.pure rfl rfl rfl (PV.load1 T.na2 rfl hb4.cells (Ext.refl _) rfl) ?_
      first
        | refine WL.atO (x := .tmp 36) (y := .tmp 38) (f := VI) (0) rfl rfl ho2 (by first | omega | (simp only [List.length_set]; omega) | (simp only [List.length_append, List.length_take, List.length_replicate, List.length_drop]; omega)) (fun p4 hpp4 hcp4 => ?_)
        | refine WL.atOZ (x := .tmp 36) (y := .tmp 38) (f := VI) (0) rfl rfl ho2 (by first | omega | (simp only [List.length_set]; omega) | (simp only [List.length_append, List.length_take, List.length_replicate, List.length_drop]; omega)) (fun p4 hpp4 hzp4 hcp4 => ?_)
      refine WL.pure rfl rfl rfl ((by first | exact PV.indexAddr hpp4 rfl rfl T.sl28 | exact PV.indexAddr hpp4 rfl (by rw [← hzp4]; rfl) T.sl28)) ?_
      refine WL.op rfl (OpK.storeS VI T.sz2 rfl rfl rfl hpp4 ho2 (fun w6 hXw6 ho2 => ?_))
      have hB := hB.updL hXw6 hl2
      have hb1 := hb1.updD hXw6 hd1_2
      have hb4 := hb4.updD hXw6 (Dj.symm hd2_4)
      have hU0 := hU0.step hXw6 hk0_2
      refine WL.nil ?_
      refine NQ.block ?_
      refine NQ.then ?_
      refine CW.reg ?_
      refine WL.pure rfl rfl rfl (PV.add rfl rfl (by constructor <;> omega)) ?_
      refine WL.mv rfl rfl ?_
      refine WL.nil ?_
      refine NQ.next (ρ := [(22, _)]) ⟨rfl, rfl, rfl, rfl, rfl, rfl, trivial⟩ ?_
      exact ⟨_, ⟨k + 1, rfl, rfl, hU0, osE ho2 (by first | exact c0F_yes (by assumption) | exact c0F_no (by assumption)), (by first | omega | assumption | (simp_all; done) | (simp_all; omega))⟩, by omega⟩
    try simp only [nq] at hc2
    refine CW.skip ?_
    refine NQ.block ?_
    refine NQ.then ?_
    refine CW.reg ?_
    refine WL.pure rfl rfl rfl (PV.add rfl rfl (by constructor <;> omega)) ?_
    refine WL.mv rfl rfl ?_
    refine WL.nil ?_
    refine NQ.next (ρ := [(22, _)]) ⟨rfl, rfl, rfl, rfl, rfl, rfl, trivial⟩ ?_
    exact ⟨_, ⟨k + 1, rfl, rfl, hU0, osE ho2 (by first | exact c0F_yes (by assumption) | exact c0F_no (by assumption)), (by first | omega | assumption | (simp_all; done) | (simp_all; omega))⟩, by omega⟩
  try simp only [nq] at hc1
  refine CW.exit ?_
  refine XQ.then ?_
  refine XQ.then ?_
  refine XQ.here ?_
  refine NQ.then ?_
  refine CW.seq ?_
  refine CW.seq ?_
  refine CW.reg ?_
  refine WL.mv rfl rfl ?_
  refine WL.pure rfl rfl rfl ((by first | exact PV.len rfl (by assumption) T.sl163 | exact PV.lenOs rfl (by assumption) T.sl163 | exact PV.len rfl (NL.rd (by assumption)) T.sl163 | exact PV.len rfl (Inn.rd (by assumption) (by omega)) T.sl163)) ?_
  refine WL.mv rfl rfl ?_
  refine WL.nilS ?_
  refine CW.block ?_
  have hlt1 := hb1.ltO
  have hlt2 := ho2.ltO
  refine CW.loop (σk := [(1, _), (2, _), (42, _)]) (fun ρ wz m => ∃ (v5 : Value) (og5 : Option Nat) (n : Nat), ρ = [(5, v5), (43, .int .i64 (n : Nat))] ∧ m = l.length - n ∧ UpdL [og2] wl1 wz ∧ Osl VI wz og5 v5 (clF a0 xa4 xa3 l n) ∧ OgR wl1 og2 og5 ∧ (n ≤ l.length)) (ρ₀ := [(5, _), (43, _)]) (m₀ := _) ⟨rfl, rfl, rfl, rfl, rfl, trivial⟩ ⟨rv1, og2, 0, rfl, rfl, (UpdL.refl _ _), osE ho2 (by (obtain rfl : k = l.length := (by omega)); rfl), OgR.refl _ _, (by first | omega | rfl | (simp; done) | assumption | (simp_all; done))⟩ ?_
  rintro _ wl2 _ ⟨v5, og5, n, rfl, rfl, hU1, ho5, ha5, hn⟩
  have hb1 := hb1.loop hU1 ⟨hd1_2, trivial⟩
  have hl5 := Lo.ogr hl2 hB ha5
  have hg1_5 := ha5
  have hk1_5 : OkB [og2] wl1 og5 := OkB.ogr (OkB.mem (by simp)) (Nat.le_refl _) ha5
  have hd1_5 := Dj.ogr hd1_2 hlt1 ha5
  have hB := hB.loop hU1 ⟨hl2, trivial⟩
  refine CW.seq ?_
  refine CW.reg ?_
  refine WL.pure rfl rfl rfl (PV.lss rfl rfl) ?_
  refine WL.nilS ?_
  refine CW.seq ?_
  refine CW.cond rfl (fun hc3 => ?_) (fun hc3 => ?_)
  · skip
    try simp only [nq] at hc3
    refine CW.skipS ?_
    refine CW.seq ?_
    refine CW.block ?_
    refine CW.seq ?_
    refine CW.reg ?_
    have hcn := clF_len (a0 := a0) (en := xa4) (nx := xa3) (l := l) n
    refine WL.op rfl (OpK.makeMap rfl (VKA (N := 33)) (fun z : Int => Value.int .i64 z) (fun b6 w7 hXw7 hb6 hge6 => ?_))
    have hl6 := Lo.new hB hge6
    have hd1_6 := Dj.new hb1.ltO hge6
    have hd5_6 := Dj.new ho5.ltO hge6
    have hk1_6 := OkN.new hU1 hge6
    have hg1_6 := OgR.new hU1.size hge6
    have hB := hB.trans hXw7
    have hb1 := hb1.up hXw7
    have ho5 := ho5.up hXw7
    have hU1 := hU1.ext hXw7
    refine WL.asg rfl rfl ?_
    refine WL.nilS ?_
    refine CW.seq ?_
    refine CW.reg ?_
    refine WL.pure rfl rfl rfl (PV.fieldAddr T.fl72_0 rfl hb1.cells) ?_
    refine WL.pure rfl rfl rfl (PV.load1 T.na2 rfl hb1.cells (Ext.refl _) rfl) ?_
    refine WL.op rfl (OpK.call rfl T.cf199 rfl (c_impl_none (by first | assumption | omega | (simp only [marks_len, marksB_len, marksR_len]; omega))) (fun rv2 w8 hR => ?_))
    obtain ⟨hXw8, v7, og7, rfl, ho7, hq7⟩ := hR
    have hl7 := Lo.up hq7 hB
    have hd1_7 := Dj.lo hb1.ltO hq7
    have hd5_7 := Dj.lo ho5.ltO hq7
    have hd6_7 := Dj.lo hb6.ltO hq7
    have hk1_7 := OkN.lo hU1 hq7
    have hg1_7 := OgR.lo hU1.size hq7
    have hB := hB.trans hXw8
    have hb1 := hb1.up hXw8
    have ho5 := ho5.up hXw8
    have hb6 := hb6.up hXw8
    have hU1 := hU1.ext hXw8
    refine WL.asg rfl rfl ?_
    refine WL.nilS ?_
    refine CW.seq ?_
    refine CW.seq ?_
    refine CW.reg ?_
    refine WL.mv rfl rfl ?_
    refine WL.pure rfl rfl rfl ((by first | exact PV.len rfl (by assumption) T.sl163 | exact PV.lenOs rfl (by assumption) T.sl163 | exact PV.len rfl (NL.rd (by assumption)) T.sl163 | exact PV.len rfl (Inn.rd (by assumption) (by omega)) T.sl163)) ?_
    refine WL.mv rfl rfl ?_
    refine WL.nilS ?_
    refine CW.block ?_
    have hlt1 := hb1.ltO
    have hlt5 := ho5.ltO
    have hlt6 := hb6.ltO
    have hlt7 := ho7.ltO
    refine CW.loop (σk := [(1, _), (2, _), (5, _), (8, _), (9, _), (42, _), (43, _), (49, _), (50, _)]) (fun ρ wz m => ∃ (i : Nat), ρ = [(51, .int .i64 (i : Nat))] ∧ m = l.length - i ∧ UpdL [(some b6.block), og7] w8 wz ∧ Mp wz b6 (VKA (N := 33)) (fun z : Int => Value.int .i64 z) (mapK (ksF a0 xa3 l (clF a0 xa4 xa3 l n) i)) ∧ Osl VI wz og7 rv2 (nxF a0 xa3 l (clF a0 xa4 xa3 l n) i) ∧ (i ≤ l.length)) (ρ₀ := [(51, _)]) (m₀ := _) ⟨rfl, rfl, rfl, rfl, rfl, rfl, rfl, rfl, rfl, rfl, trivial⟩ ⟨0, rfl, rfl, (UpdL.refl _ _), mpE hb6 (by rfl), osE ho7 (by rfl), (by first | omega | rfl | (simp; done) | assumption | (simp_all; done))⟩ ?_
    rintro _ wl3 _ ⟨i, rfl, rfl, hU2, hb6, ho7, hi⟩
    have hU1 := hU1.trans hU2 ⟨hk1_6, hk1_7, trivial⟩
    have hb1 := hb1.loop hU2 ⟨hd1_6, hd1_7, trivial⟩
    have ho5 := ho5.loop hU2 ⟨hd5_6, hd5_7, trivial⟩
    have hk2_6 : OkB [(some b6.block), og7] w8 (some b6.block) := OkB.mem (by simp)
    have hk2_7 : OkB [(some b6.block), og7] w8 og7 := OkB.mem (by simp)
    have hB := hB.loop hU2 ⟨hl6, hl7, trivial⟩
    refine CW.seq ?_
    refine CW.reg ?_
    refine WL.pure rfl rfl rfl (PV.lss rfl rfl) ?_
    refine WL.nilS ?_
    refine CW.seq ?_
    refine CW.cond rfl (fun hc4 => ?_) (fun hc4 => ?_)
    · skip
      try simp only [nq] at hc4
      refine CW.skipS ?_
      refine CW.seq ?_
      refine CW.block ?_
      refine CW.seq ?_
      refine CW.reg ?_
      have hs0 := hF.st (i := i) (by omega); simp only [rS] at hs0; have hxn := nxF_len (a0 := a0) (nx := xa3) (l := l) (cl := (clF a0 xa4 xa3 l n)) i
      first
        | refine WL.at (x := .tmp 49) (y := .tmp 51) (E := ER) ((0, 0, 0, 0)) rfl rfl (by first | assumption | exact Inn.rd (by assumption) (by omega)) (by first | omega | (simp only [List.length_set]; omega) | (simp only [List.length_append, List.length_take, List.length_replicate, List.length_drop]; omega)) (fun p5 csp5 hpp5 hcp5 hq => ?_)
        | refine WL.atZ (x := .tmp 49) (y := .tmp 51) (E := ER) ((0, 0, 0, 0)) rfl rfl (by first | assumption | exact Inn.rd (by assumption) (by omega)) (by first | omega | (simp only [List.length_set]; omega) | (simp only [List.length_append, List.length_take, List.length_replicate, List.length_drop]; omega)) (fun p5 csp5 hpp5 hzp5 hcp5 hq => ?_)
      cases hq
      refine WL.pure rfl rfl rfl ((by first | exact PV.indexAddr hpp5 rfl rfl T.sl163 | exact PV.indexAddr hpp5 rfl (by rw [← hzp5]; rfl) T.sl163)) ?_
      refine WL.pure rfl rfl rfl ((by first | exact PV.loadA T.ag167 rfl (by first | exact Cells.up (by assumption) hB | exact Bx.cells (by assumption) | assumption) (Ext.refl _) rfl | exact PV.loadP (ds := [_, _, _, _]) T.ag167 rfl (by first | exact Cells.up (by assumption) hB | exact Bx.cells (by assumption) | assumption) (Ext.refl _) rfl rfl)) ?_
      refine WL.op rfl (OpK.alloc rfl T.zv167 rfl (fun b10 w9 hXw9 hb10 hge10 => ?_))
      have hl10 := Lo.new hB hge10
      have hd1_10 := Dj.new hb1.ltO hge10
      have hd5_10 := Dj.new ho5.ltO hge10
      have hd6_10 := Dj.new hb6.ltO hge10
      have hd7_10 := Dj.new ho7.ltO hge10
      have hk1_10 := OkN.new hU1 hge10
      have hg1_10 := OgR.new hU1.size hge10
      have hk2_10 := OkN.new hU2 hge10
      have hg2_10 := OgR.new hU2.size hge10
      have hB := hB.trans hXw9
      have hb1 := hb1.up hXw9
      have ho5 := ho5.up hXw9
      have hb6 := hb6.up hXw9
      have ho7 := ho7.up hXw9
      have hU1 := hU1.ext hXw9
      have hU2 := hU2.ext hXw9
      refine WL.op rfl (OpK.storeA T.sz167 rfl rfl rfl rfl (by simp [Value.oneCell'] <;> first | done | (repeat' apply And.intro) <;> first | rfl | exact Inn.one1 (by assumption) (by omega) | exact Osl.oneCell (by assumption) | exact Osn.oneCell (by assumption) | exact Rd.oneCell (by assumption) | exact Rd.oneCell (NL.rd (by assumption)) | assumption) hb10 (fun w10 hXw10 hb10 => ?_))
      have hB := hB.updL hXw10 hl10
      have hb1 := hb1.updD hXw10 hd1_10
      have ho5 := ho5.updD hXw10 hd5_10
      have hb6 := hb6.updD hXw10 hd6_10
      have ho7 := ho7.updD hXw10 hd7_10
      have hU1 := hU1.step hXw10 hk1_10
      have hU2 := hU2.step hXw10 hk2_10
      refine WL.nilS ?_
      refine CW.seq ?_
      refine CW.reg ?_
      refine WL.mv rfl rfl ?_
      refine WL.pure rfl rfl rfl (PV.fieldAddr T.fl167_0 rfl hb10.cells) ?_
      refine WL.pure rfl rfl rfl (PV.load1 T.na2 rfl hb10.cells (Ext.refl _) rfl) ?_
      first
        | refine WL.atO (x := .tmp 55) (y := .tmp 57) (f := VI) (0) rfl rfl ho5 (by first | omega | (simp only [List.length_set]; omega) | (simp only [List.length_append, List.length_take, List.length_replicate, List.length_drop]; omega)) (fun p6 hpp6 hcp6 => ?_)
        | refine WL.atOZ (x := .tmp 55) (y := .tmp 57) (f := VI) (0) rfl rfl ho5 (by first | omega | (simp only [List.length_set]; omega) | (simp only [List.length_append, List.length_take, List.length_replicate, List.length_drop]; omega)) (fun p6 hpp6 hzp6 hcp6 => ?_)
      refine WL.pure rfl rfl rfl ((by first | exact PV.indexAddr hpp6 rfl rfl T.sl28 | exact PV.indexAddr hpp6 rfl (by rw [← hzp6]; rfl) T.sl28)) ?_
      refine WL.pure rfl rfl rfl ((by first | exact PV.load0 T.na2 rfl (by first | exact Cells.up (by assumption) hB | exact Bx.cells (by assumption) | assumption) (Ext.refl _) rfl | exact PV.load1 T.na2 rfl (by first | exact Cells.up (by assumption) hB | exact Bx.cells (by assumption) | assumption) (Ext.refl _) rfl)) ?_
      refine WL.pure rfl rfl rfl (PV.buildArr1 (f := VI) (x0 := 0) T.az231 T.ar231 rfl rfl rfl) ?_
      refine WL.op rfl (OpK.allocArr (f := VI) (x0 := 0) rfl T.az231 (fun b11 w11 hXw11 hb11 hge11 => ?_))
      have hl11 := Lo.new hB hge11
      have hd1_11 := Dj.new hb1.ltO hge11
      have hd5_11 := Dj.new ho5.ltO hge11
      have hd6_11 := Dj.new hb6.ltO hge11
      have hd7_11 := Dj.new ho7.ltO hge11
      have hd10_11 := Dj.new hb10.ltO hge11
      have hk1_11 := OkN.new hU1 hge11
      have hg1_11 := OgR.new hU1.size hge11
      have hk2_11 := OkN.new hU2 hge11
      have hg2_11 := OgR.new hU2.size hge11
      have hB := hB.trans hXw11
      have hb1 := hb1.up hXw11
      have ho5 := ho5.up hXw11
      have hb6 := hb6.up hXw11
      have ho7 := ho7.up hXw11
      have hb10 := hb10.up hXw11
      have hU1 := hU1.ext hXw11
      have hU2 := hU2.ext hXw11
      refine WL.op rfl (OpK.storeArrA T.sz231 rfl rfl (by simp) (by simp) (fun _ => rfl) hb11 (fun w12 hXw12 hb11 => ?_))
      have hB := hB.updL hXw12 hl11
      have hb1 := hb1.updD hXw12 hd1_11
      have ho5 := ho5.updD hXw12 hd5_11
      have hb6 := hb6.updD hXw12 hd6_11
      have ho7 := ho7.updD hXw12 hd7_11
      have hb10 := hb10.updD hXw12 hd10_11
      have hU1 := hU1.step hXw12 hk1_11
      have hU2 := hU2.step hXw12 hk2_11
      refine WL.nilS ?_
      refine CW.seq ?_
      refine CW.seq ?_
      refine CW.reg ?_
      refine WL.mv rfl rfl ?_
      refine WL.pure rfl rfl rfl ((by first | exact PV.len rfl (by assumption) T.sl163 | exact PV.lenOs rfl (by assumption) T.sl163 | exact PV.len rfl (NL.rd (by assumption)) T.sl163 | exact PV.len rfl (Inn.rd (by assumption) (by omega)) T.sl163)) ?_
      refine WL.mv rfl rfl ?_
      refine WL.nilS ?_
      refine CW.block ?_
      refine CW.loop (σk := [(1, _), (2, _), (5, _), (8, _), (9, _), (11, _), (12, _), (42, _), (43, _), (49, _), (50, _), (51, _), (61, _), (62, _)]) (fun ρ wz m => ∃ (j : Nat), ρ = [(63, .int .i64 (j : Nat))] ∧ m = l.length - j ∧ UpdL [(some b11.block)] w12 wz ∧ Bx wz b11 (List.map VI ((padA (keyF a0 xa3 l (clF a0 xa4 xa3 l n) i j)).1)) ∧ (j ≤ l.length)) (ρ₀ := [(63, _)]) (m₀ := _) ⟨rfl, rfl, rfl, rfl, rfl, rfl, rfl, rfl, rfl, rfl, rfl, rfl, rfl, rfl, rfl, trivial⟩ ⟨0, rfl, rfl, (UpdL.refl _ _), bxM hb11 (by rfl), (by first | omega | rfl | (simp; done) | assumption | (simp_all; done))⟩ ?_
      rintro _ wl4 _ ⟨j, rfl, rfl, hU3, hb11, hj⟩
      have hU1 := hU1.trans hU3 ⟨hk1_11, trivial⟩
      have hU2 := hU2.trans hU3 ⟨hk2_11, trivial⟩
      have hb1 := hb1.loop hU3 ⟨hd1_11, trivial⟩
      have ho5 := ho5.loop hU3 ⟨hd5_11, trivial⟩
      have hb6 := hb6.loop hU3 ⟨hd6_11, trivial⟩
      have ho7 := ho7.loop hU3 ⟨hd7_11, trivial⟩
      have hb10 := hb10.loop hU3 ⟨hd10_11, trivial⟩
      have hk3_11 : OkB [(some b11.block)] w12 (some b11.block) := OkB.mem (by simp)
      have hB := hB.loop hU3 ⟨hl11, trivial⟩
      refine CW.seq ?_
      refine CW.reg ?_
      refine WL.pure rfl rfl rfl (PV.lss rfl rfl) ?_
      refine WL.nilS ?_
      refine CW.seq ?_
      refine CW.cond rfl (fun hc5 => ?_) (fun hc5 => ?_)
      · skip
        try simp only [nq] at hc5
        refine CW.skipS ?_
        refine CW.seq ?_
        refine CW.block ?_
        refine CW.seq ?_
        refine CW.reg ?_
        have hs1 := hF.st (i := j) (by omega); simp only [rS] at hs1; have hj1 := tv.join (hF.st (i := i) (by omega)) (hF.st (i := j) (by omega)); have hj2 := tv.join (hF.st (i := j) (by omega)) (hF.st (i := i) (by omega)); simp only [rS] at hj1 hj2
        refine WL.mv rfl rfl ?_
        first
          | refine WL.at (x := .tmp 61) (y := .tmp 63) (E := ER) ((0, 0, 0, 0)) rfl rfl (by first | assumption | exact Inn.rd (by assumption) (by omega)) (by first | omega | (simp only [List.length_set]; omega) | (simp only [List.length_append, List.length_take, List.length_replicate, List.length_drop]; omega)) (fun p7 csp7 hpp7 hcp7 hq => ?_)
          | refine WL.atZ (x := .tmp 61) (y := .tmp 63) (E := ER) ((0, 0, 0, 0)) rfl rfl (by first | assumption | exact Inn.rd (by assumption) (by omega)) (by first | omega | (simp only [List.length_set]; omega) | (simp only [List.length_append, List.length_take, List.length_replicate, List.length_drop]; omega)) (fun p7 csp7 hpp7 hzp7 hcp7 hq => ?_)
        cases hq
        refine WL.pure rfl rfl rfl ((by first | exact PV.indexAddr hpp7 rfl rfl T.sl163 | exact PV.indexAddr hpp7 rfl (by rw [← hzp7]; rfl) T.sl163)) ?_
        refine WL.pure rfl rfl rfl ((by first | exact PV.loadA T.ag167 rfl (by first | exact Cells.up (by assumption) hB | exact Bx.cells (by assumption) | assumption) (Ext.refl _) rfl | exact PV.loadP (ds := [_, _, _, _]) T.ag167 rfl (by first | exact Cells.up (by assumption) hB | exact Bx.cells (by assumption) | assumption) (Ext.refl _) rfl rfl)) ?_
        refine WL.op rfl (OpK.alloc rfl T.zv167 rfl (fun b13 w13 hXw13 hb13 hge13 => ?_))
        have hl13 := Lo.new hB hge13
        have hd1_13 := Dj.new hb1.ltO hge13
        have hd5_13 := Dj.new ho5.ltO hge13
        have hd6_13 := Dj.new hb6.ltO hge13
        have hd7_13 := Dj.new ho7.ltO hge13
        have hd10_13 := Dj.new hb10.ltO hge13
        have hd11_13 := Dj.new hb11.ltO hge13
        have hk1_13 := OkN.new hU1 hge13
        have hg1_13 := OgR.new hU1.size hge13
        have hk2_13 := OkN.new hU2 hge13
        have hg2_13 := OgR.new hU2.size hge13
        have hk3_13 := OkN.new hU3 hge13
        have hg3_13 := OgR.new hU3.size hge13
        have hB := hB.trans hXw13
        have hb1 := hb1.up hXw13
        have ho5 := ho5.up hXw13
        have hb6 := hb6.up hXw13
        have ho7 := ho7.up hXw13
        have hb10 := hb10.up hXw13
        have hb11 := hb11.up hXw13
        have hU1 := hU1.ext hXw13
        have hU2 := hU2.ext hXw13
        have hU3 := hU3.ext hXw13
        refine WL.asg rfl rfl ?_
        refine WL.op rfl (OpK.storeA T.sz167 rfl rfl rfl rfl (by simp [Value.oneCell'] <;> first | done | (repeat' apply And.intro) <;> first | rfl | exact Inn.one1 (by assumption) (by omega) | exact Osl.oneCell (by assumption) | exact Osn.oneCell (by assumption) | exact Rd.oneCell (by assumption) | exact Rd.oneCell (NL.rd (by assumption)) | assumption) hb13 (fun w14 hXw14 hb13 => ?_))
        have hB := hB.updL hXw14 hl13
        have hb1 := hb1.updD hXw14 hd1_13
        have ho5 := ho5.updD hXw14 hd5_13
        have hb6 := hb6.updD hXw14 hd6_13
        have ho7 := ho7.updD hXw14 hd7_13
        have hb10 := hb10.updD hXw14 hd10_13
        have hb11 := hb11.updD hXw14 hd11_13
        have hU1 := hU1.step hXw14 hk1_13
        have hU2 := hU2.step hXw14 hk2_13
        have hU3 := hU3.step hXw14 hk3_13
        refine WL.nilS ?_
        refine CW.seq ?_
        refine CW.reg ?_
        refine WL.mv rfl rfl ?_
        refine WL.pure rfl rfl rfl (PV.mul rfl rfl (by constructor <;> omega)) ?_
        refine WL.pure rfl rfl rfl (PV.add rfl rfl (by constructor <;> omega)) ?_
        refine WL.mv rfl rfl ?_
        refine WL.pure rfl rfl rfl (PV.loadA T.ag72 rfl hb1.cells (Ext.refl _) rfl) ?_
        refine WL.pure rfl rfl rfl (PV.fieldAddr T.fl167_0 rfl hb10.cells) ?_
        refine WL.pure rfl rfl rfl (PV.load1 T.na2 rfl hb10.cells (Ext.refl _) rfl) ?_
        refine WL.pure rfl rfl rfl (PV.fieldAddr T.fl167_0 rfl hb13.cells) ?_
        refine WL.pure rfl rfl rfl (PV.load1 T.na2 rfl hb13.cells (Ext.refl _) rfl) ?_
        refine WL.op rfl (OpK.callR rfl T.cf138 rfl (c_impl_TreeMachine_join (by first | assumption | exact Rd.up (by assumption) hB | exact Osl.rd (by assumption) | exact Osn.rdR (by assumption) | exact NL.rd (by assumption) | exact rdII (by assumption) (by assumption) | exact Inn.rd (by assumption) (by omega)) (by first | assumption | exact Rd.up (by assumption) hB | exact Osl.rd (by assumption) | exact Osn.rdR (by assumption) | exact NL.rd (by assumption) | exact rdII (by assumption) (by assumption) | exact Inn.rd (by assumption) (by omega)) (by first | assumption | exact Rd.up (by assumption) hB | exact Osl.rd (by assumption) | exact Osn.rdR (by assumption) | exact NL.rd (by assumption) | exact rdII (by assumption) (by assumption) | exact Inn.rd (by assumption) (by omega)) (by first | assumption | omega | (simp only [marks_len, marksB_len, marksR_len]; omega)) (by first | assumption | omega | (simp only [marks_len, marksB_len, marksR_len]; omega)) (by first | assumption | omega | (simp only [marks_len, marksB_len, marksR_len]; omega)) (by first | assumption | omega | (simp only [marks_len, marksB_len, marksR_len]; omega))) (fun w15 hXw15 => ?_))
        have hB := hB.trans hXw15
        have hb1 := hb1.up hXw15
        have ho5 := ho5.up hXw15
        have hb6 := hb6.up hXw15
        have ho7 := ho7.up hXw15
        have hb10 := hb10.up hXw15
        have hb11 := hb11.up hXw15
        have hb13 := hb13.up hXw15
        have hU1 := hU1.ext hXw15
        have hU2 := hU2.ext hXw15
        have hU3 := hU3.ext hXw15
        first
          | refine WL.atO (x := .tmp 71) (y := .tmp 77) (f := VI) (0) rfl rfl ho5 (by first | omega | (simp only [List.length_set]; omega) | (simp only [List.length_append, List.length_take, List.length_replicate, List.length_drop]; omega)) (fun p8 hpp8 hcp8 => ?_)
          | refine WL.atOZ (x := .tmp 71) (y := .tmp 77) (f := VI) (0) rfl rfl ho5 (by first | omega | (simp only [List.length_set]; omega) | (simp only [List.length_append, List.length_take, List.length_replicate, List.length_drop]; omega)) (fun p8 hpp8 hzp8 hcp8 => ?_)
        refine WL.pure rfl rfl rfl ((by first | exact PV.indexAddr hpp8 rfl rfl T.sl28 | exact PV.indexAddr hpp8 rfl (by rw [← hzp8]; rfl) T.sl28)) ?_
        refine WL.pure rfl rfl rfl ((by first | exact PV.load0 T.na2 rfl (by first | exact Cells.up (by assumption) hB | exact Bx.cells (by assumption) | assumption) (Ext.refl _) rfl | exact PV.load1 T.na2 rfl (by first | exact Cells.up (by assumption) hB | exact Bx.cells (by assumption) | assumption) (Ext.refl _) rfl)) ?_
        refine WL.pure rfl rfl rfl ((by first | exact PV.ixN T.ar231 rfl hb11.spot rfl (by omega) | exact PV.ixZ T.ar231 rfl hb11.spot rfl (by omega))) ?_
        refine WL.op rfl (OpK.storeArr T.sz2 rfl rfl rfl hb11 (by rw [(padA _).2]; omega) (fun w16 hXw16 hb11 => ?_))
        have hB := hB.updL hXw16 hl11
        have hb1 := hb1.updD hXw16 hd1_11
        have ho5 := ho5.updD hXw16 hd5_11
        have hb6 := hb6.updD hXw16 hd6_11
        have ho7 := ho7.updD hXw16 hd7_11
        have hb10 := hb10.updD hXw16 hd10_11
        have hb13 := hb13.updD hXw16 (Dj.symm hd11_13)
        have hU1 := hU1.step hXw16 hk1_11
        have hU2 := hU2.step hXw16 hk2_11
        have hU3 := hU3.step hXw16 hk3_11
        refine WL.nilS ?_
        refine CW.reg ?_
        refine WL.mv rfl rfl ?_
        refine WL.pure rfl rfl rfl (PV.mul rfl rfl (by constructor <;> omega)) ?_
        refine WL.pure rfl rfl rfl (PV.add rfl rfl (by constructor <;> omega)) ?_
        refine WL.mv rfl rfl ?_
        refine WL.pure rfl rfl rfl (PV.loadA T.ag72 rfl hb1.cells (Ext.refl _) rfl) ?_
        refine WL.pure rfl rfl rfl (PV.fieldAddr T.fl167_0 rfl hb13.cells) ?_
        refine WL.pure rfl rfl rfl (PV.load1 T.na2 rfl hb13.cells (Ext.refl _) rfl) ?_
        refine WL.pure rfl rfl rfl (PV.fieldAddr T.fl167_0 rfl hb10.cells) ?_
        refine WL.pure rfl rfl rfl (PV.load1 T.na2 rfl hb10.cells (Ext.refl _) rfl) ?_
        refine WL.op rfl (OpK.callR rfl T.cf138 rfl (c_impl_TreeMachine_join (by first | assumption | exact Rd.up (by assumption) hB | exact Osl.rd (by assumption) | exact Osn.rdR (by assumption) | exact NL.rd (by assumption) | exact rdII (by assumption) (by assumption) | exact Inn.rd (by assumption) (by omega)) (by first | assumption | exact Rd.up (by assumption) hB | exact Osl.rd (by assumption) | exact Osn.rdR (by assumption) | exact NL.rd (by assumption) | exact rdII (by assumption) (by assumption) | exact Inn.rd (by assumption) (by omega)) (by first | assumption | exact Rd.up (by assumption) hB | exact Osl.rd (by assumption) | exact Osn.rdR (by assumption) | exact NL.rd (by assumption) | exact rdII (by assumption) (by assumption) | exact Inn.rd (by assumption) (by omega)) (by first | assumption | omega | (simp only [marks_len, marksB_len, marksR_len]; omega)) (by first | assumption | omega | (simp only [marks_len, marksB_len, marksR_len]; omega)) (by first | assumption | omega | (simp only [marks_len, marksB_len, marksR_len]; omega)) (by first | assumption | omega | (simp only [marks_len, marksB_len, marksR_len]; omega))) (fun w17 hXw17 => ?_))
        have hB := hB.trans hXw17
        have hb1 := hb1.up hXw17
        have ho5 := ho5.up hXw17
        have hb6 := hb6.up hXw17
        have ho7 := ho7.up hXw17
        have hb10 := hb10.up hXw17
        have hb11 := hb11.up hXw17
        have hb13 := hb13.up hXw17
        have hU1 := hU1.ext hXw17
        have hU2 := hU2.ext hXw17
        have hU3 := hU3.ext hXw17
        first
          | refine WL.atO (x := .tmp 84) (y := .tmp 90) (f := VI) (0) rfl rfl ho5 (by first | omega | (simp only [List.length_set]; omega) | (simp only [List.length_append, List.length_take, List.length_replicate, List.length_drop]; omega)) (fun p9 hpp9 hcp9 => ?_)
          | refine WL.atOZ (x := .tmp 84) (y := .tmp 90) (f := VI) (0) rfl rfl ho5 (by first | omega | (simp only [List.length_set]; omega) | (simp only [List.length_append, List.length_take, List.length_replicate, List.length_drop]; omega)) (fun p9 hpp9 hzp9 hcp9 => ?_)
        refine WL.pure rfl rfl rfl ((by first | exact PV.indexAddr hpp9 rfl rfl T.sl28 | exact PV.indexAddr hpp9 rfl (by rw [← hzp9]; rfl) T.sl28)) ?_
        refine WL.pure rfl rfl rfl ((by first | exact PV.load0 T.na2 rfl (by first | exact Cells.up (by assumption) hB | exact Bx.cells (by assumption) | assumption) (Ext.refl _) rfl | exact PV.load1 T.na2 rfl (by first | exact Cells.up (by assumption) hB | exact Bx.cells (by assumption) | assumption) (Ext.refl _) rfl)) ?_
        refine WL.pure rfl rfl rfl ((by first | exact PV.ixN T.ar231 rfl hb11.spot rfl (by omega) | exact PV.ixZ T.ar231 rfl hb11.spot rfl (by omega))) ?_
        refine WL.op rfl (OpK.storeArr T.sz2 rfl rfl rfl hb11 (by rw [List.length_set, (padA _).2]; omega) (fun w18 hXw18 hb11 => ?_))
        have hB := hB.updL hXw18 hl11
        have hb1 := hb1.updD hXw18 hd1_11
        have ho5 := ho5.updD hXw18 hd5_11
        have hb6 := hb6.updD hXw18 hd6_11
        have ho7 := ho7.updD hXw18 hd7_11
        have hb10 := hb10.updD hXw18 hd10_11
        have hb13 := hb13.updD hXw18 (Dj.symm hd11_13)
        have hU1 := hU1.step hXw18 hk1_11
        have hU2 := hU2.step hXw18 hk2_11
        have hU3 := hU3.step hXw18 hk3_11
        refine WL.nil ?_
        refine NQ.block ?_
        refine NQ.then ?_
        refine CW.reg ?_
        refine WL.pure rfl rfl rfl (PV.add rfl rfl (by constructor <;> omega)) ?_
        refine WL.mv rfl rfl ?_
        refine WL.nil ?_
        refine NQ.next (ρ := [(63, _)]) ⟨rfl, rfl, rfl, rfl, rfl, rfl, rfl, rfl, rfl, rfl, rfl, rfl, rfl, rfl, rfl, trivial⟩ ?_
        exact ⟨_, ⟨j + 1, rfl, rfl, hU3, bxM hb11 (by exact key_put (by omega) (by omega) (by omega) rfl rfl), (by first | omega | assumption | (simp_all; done) | (simp_all; omega))⟩, by omega⟩
      try simp only [nq] at hc5
      refine CW.exit ?_
      refine XQ.then ?_
      refine XQ.then ?_
      refine XQ.here ?_
      refine NQ.then ?_
      refine CW.seq ?_
      refine CW.reg ?_
      (obtain rfl : j = l.length := (by omega)); have hkl := keyF_len (a0 := a0) (nx := xa3) (l := l) (cl := (clF a0 xa4 xa3 l n)) (i := i) l.length; have hkm := ksF_mem (a0 := a0) (nx := xa3) (l := l) (cl := (clF a0 xa4 xa3 l n)) i
      refine WL.mv rfl rfl ?_
      refine WL.pure rfl rfl rfl (PV.loadA T.ag231 rfl hb11.cells (Ext.refl _) (by rw [List.length_map]; exact (padA _).2)) ?_
      refine WL.pure rfl rfl rfl (PV.lookK (keyF a0 xa3 l (clF a0 xa4 xa3 l n) i l.length) (keyA T.ar231 T.ik2) Try.underlying230 T.zv2 rfl rfl hb6 (by omega) (by rw [hkl]; exact hkm)) ?_
      refine WL.mv rfl rfl ?_
      refine WL.pure rfl rfl rfl (PV.extract rfl rfl) ?_
      refine WL.pure rfl rfl rfl (PV.extract rfl rfl) ?_
      refine WL.asg rfl rfl ?_
      refine WL.asg rfl rfl ?_
      refine WL.nilS ?_
      refine CW.seq ?_
      refine CW.seq ?_
      refine CW.reg ?_
      refine WL.mv rfl rfl ?_
      refine WL.pure rfl rfl rfl (PV.not rfl) ?_
      refine WL.nilS ?_
      refine CW.cond rfl (fun hc6 => ?_) (fun hc6 => ?_)
      · skip
        try simp only [nq] at hc6
        refine CW.seq ?_
        refine CW.reg ?_
        refine WL.mv rfl rfl ?_
        refine WL.pure rfl rfl rfl (PV.lenMp rfl Try.underlying230 hb6) ?_
        refine WL.asg rfl rfl ?_
        refine WL.nilS ?_
        refine CW.reg ?_
        refine WL.mv rfl rfl ?_
        refine WL.pure rfl rfl rfl (PV.loadA T.ag231 rfl hb11.cells (Ext.refl _) (by rw [List.length_map]; exact (padA _).2)) ?_
        refine WL.mv rfl rfl ?_
        refine WL.op rfl (OpK.put (a := padA (keyF a0 xa3 l (clF a0 xa4 xa3 l n) i l.length)) ((keyA T.ar231 T.ik2)) Try.underlying230 rfl rfl rfl hb6 (by exact mapK_none (by omega) (by rw [hkl]; exact hkm) (by assumption)) (fun w19 hXw19 hb6 => ?_))
        have hB := hB.updL hXw19 hl6
        have hb1 := hb1.updD hXw19 hd1_6
        have ho5 := ho5.updD hXw19 hd5_6
        have ho7 := ho7.updD hXw19 (Dj.symm hd6_7)
        have hb10 := hb10.updD hXw19 (Dj.symm hd6_10)
        have hb11 := hb11.updD hXw19 (Dj.symm hd6_11)
        have hU1 := hU1.step hXw19 hk1_6
        have hU2 := hU2.step hXw19 hk2_6
        refine WL.nilS ?_
        refine CW.reg ?_
        refine WL.mv rfl rfl ?_
        refine WL.pure rfl rfl rfl (PV.fieldAddr T.fl167_0 rfl hb10.cells) ?_
        refine WL.pure rfl rfl rfl (PV.load1 T.na2 rfl hb10.cells (Ext.refl _) rfl) ?_
        refine WL.mv rfl rfl ?_
        first
          | refine WL.atO (x := .tmp 108) (y := .tmp 110) (f := VI) (0) rfl rfl ho7 (by first | omega | (simp only [List.length_set]; omega) | (simp only [List.length_append, List.length_take, List.length_replicate, List.length_drop]; omega)) (fun p10 hpp10 hcp10 => ?_)
          | refine WL.atOZ (x := .tmp 108) (y := .tmp 110) (f := VI) (0) rfl rfl ho7 (by first | omega | (simp only [List.length_set]; omega) | (simp only [List.length_append, List.length_take, List.length_replicate, List.length_drop]; omega)) (fun p10 hpp10 hzp10 hcp10 => ?_)
        refine WL.pure rfl rfl rfl ((by first | exact PV.indexAddr hpp10 rfl rfl T.sl28 | exact PV.indexAddr hpp10 rfl (by rw [← hzp10]; rfl) T.sl28)) ?_
        refine WL.op rfl (OpK.storeS VI T.sz2 rfl rfl rfl hpp10 ho7 (fun w20 hXw20 ho7 => ?_))
        have hB := hB.updL hXw20 hl7
        have hb1 := hb1.updD hXw20 hd1_7
        have ho5 := ho5.updD hXw20 hd5_7
        have hb6 := hb6.updD hXw20 hd6_7
        have hb10 := hb10.updD hXw20 (Dj.symm hd7_10)
        have hb11 := hb11.updD hXw20 (Dj.symm hd7_11)
        have hU1 := hU1.step hXw20 hk1_7
        have hU2 := hU2.step hXw20 hk2_7
        refine WL.nil ?_
        refine NQ.block ?_
        refine NQ.then ?_
        refine CW.reg ?_
        refine WL.pure rfl rfl rfl (PV.add rfl rfl (by constructor <;> omega)) ?_
        refine WL.mv rfl rfl ?_
        refine WL.nil ?_
        refine NQ.next (ρ := [(51, _)]) ⟨rfl, rfl, rfl, rfl, rfl, rfl, rfl, rfl, rfl, rfl, trivial⟩ ?_
        exact ⟨_, ⟨i + 1, rfl, rfl, hU2, mpE hb6 (by first | exact ks_old (by assumption) | exact ks_new (by assumption)), osE ho7 (by first | exact nx_old (by assumption) rfl | exact nx_new (by assumption) rfl), (by first | omega | assumption | (simp_all; done) | (simp_all; omega))⟩, by omega⟩
      try simp only [nq] at hc6
      refine CW.skipS ?_
      refine CW.reg ?_
      refine WL.mv rfl rfl ?_
      refine WL.pure rfl rfl rfl (PV.fieldAddr T.fl167_0 rfl hb10.cells) ?_
      refine WL.pure rfl rfl rfl (PV.load1 T.na2 rfl hb10.cells (Ext.refl _) rfl) ?_
      refine WL.mv rfl rfl ?_
      first
        | refine WL.atO (x := .tmp 108) (y := .tmp 110) (f := VI) (0) rfl rfl ho7 (by first | omega | (simp only [List.length_set]; omega) | (simp only [List.length_append, List.length_take, List.length_replicate, List.length_drop]; omega)) (fun p11 hpp11 hcp11 => ?_)
        | refine WL.atOZ (x := .tmp 108) (y := .tmp 110) (f := VI) (0) rfl rfl ho7 (by first | omega | (simp only [List.length_set]; omega) | (simp only [List.length_append, List.length_take, List.length_replicate, List.length_drop]; omega)) (fun p11 hpp11 hzp11 hcp11 => ?_)
      refine WL.pure rfl rfl rfl ((by first | exact PV.indexAddr hpp11 rfl rfl T.sl28 | exact PV.indexAddr hpp11 rfl (by rw [← hzp11]; rfl) T.sl28)) ?_
      refine WL.op rfl (OpK.storeS VI T.sz2 rfl rfl rfl hpp11 ho7 (fun w21 hXw21 ho7 => ?_))
      have hB := hB.updL hXw21 hl7
      have hb1 := hb1.updD hXw21 hd1_7
      have ho5 := ho5.updD hXw21 hd5_7
      have hb6 := hb6.updD hXw21 hd6_7
      have hb10 := hb10.updD hXw21 (Dj.symm hd7_10)
      have hb11 := hb11.updD hXw21 (Dj.symm hd7_11)
      have hU1 := hU1.step hXw21 hk1_7
      have hU2 := hU2.step hXw21 hk2_7
      refine WL.nil ?_
      refine NQ.block ?_
      refine NQ.then ?_
      refine CW.reg ?_
      refine WL.pure rfl rfl rfl (PV.add rfl rfl (by constructor <;> omega)) ?_
      refine WL.mv rfl rfl ?_
      refine WL.nil ?_
      refine NQ.next (ρ := [(51, _)]) ⟨rfl, rfl, rfl, rfl, rfl, rfl, rfl, rfl, rfl, rfl, trivial⟩ ?_
      exact ⟨_, ⟨i + 1, rfl, rfl, hU2, mpE hb6 (by first | exact ks_old (by assumption) | exact ks_new (by assumption)), osE ho7 (by first | exact nx_old (by assumption) rfl | exact nx_new (by assumption) rfl), (by first | omega | assumption | (simp_all; done) | (simp_all; omega))⟩, by omega⟩
    try simp only [nq] at hc4
    refine CW.exit ?_
    refine XQ.then ?_
    refine XQ.then ?_
    refine XQ.here ?_
    refine NQ.then ?_
    refine CW.reg ?_
    refine WL.mv rfl rfl ?_
    refine WL.asg rfl rfl ?_
    refine WL.nil ?_
    refine NQ.block ?_
    refine NQ.then ?_
    refine CW.reg ?_
    refine WL.pure rfl rfl rfl (PV.add rfl rfl (by constructor <;> omega)) ?_
    refine WL.mv rfl rfl ?_
    refine WL.nil ?_
    refine NQ.next (ρ := [(5, _), (43, _)]) ⟨rfl, rfl, rfl, rfl, rfl, trivial⟩ ?_
    exact ⟨_, ⟨rv2, og7, n + 1, rfl, rfl, hU1, osE ho7 (by (obtain rfl : i = l.length := (by omega)); rfl), (by first | exact hg1_7 | exact OgR.weak hg1_7), (by first | omega | assumption | (simp_all; done) | (simp_all; omega))⟩, by omega⟩
  try simp only [nq] at hc3
  refine CW.exit ?_
  refine XQ.then ?_
  refine XQ.then ?_
  refine XQ.here ?_
  refine NQ.then ?_
  refine CW.seq ?_
  refine CW.reg ?_
  refine WL.mv rfl rfl ?_
  refine WL.asg rfl rfl ?_
  refine WL.nilS ?_
  refine CW.ret ?_
  refine RQ.r1 rfl ?_
  refine ⟨hB, v5, og5, ?_, osE ho5 ?_, hl5⟩
  · skip
    rfl
  · skip
    rw [clsF_eq]; obtain rfl : n = l.length := (by omega); rfl
set_option maxHeartbeats 4000000 in
theorem c_impl_LeastTrees {w : World} {a0 : Int} {a1 : Int} {va2 : Value} {xa2 : List Int} {va3 : Value} {xa3 : List Int} {va4 : Value} {xa4 : List Bool}  (ha2 : Rd EI w va2 xa2) (ha3 : Rd EI w va3 xa3) (ha4 : Rd EB w va4 xa4) : Calls Try.prog 52 #[.agg #[.int .i64 a0, .int .i64 a1, va2, va3, va4]] w (Ret1 (fun v w' => Ext w w' ∧ ∃ u2 og_u2 u3 og_u3 u4 og_u4, v = .tuple #[.agg #[.int .i64 (onI (treesB a0 a1 xa2 xa3 xa4) ((mbF (clsF a0 xa4 xa3 (foundL a0 xa3 xa2)) (foundL a0 xa3 xa2) (foundL a0 xa3 xa2).length).length : Nat)), .int .i64 (onI (treesB a0 a1 xa2 xa3 xa4) a1), u2, u3, u4], .bool (treesB a0 a1 xa2 xa3 xa4)] ∧ Osl VI w' og_u2 u2 (onT (treesB a0 a1 xa2 xa3 xa4) (mpL (clsF a0 xa4 xa3 (foundL a0 xa3 xa2)) xa2)) ∧ Lo w og_u2 ∧ Osl VI w' og_u3 u3 (onT (treesB a0 a1 xa2 xa3 xa4) (nxL a0 xa3 (clsF a0 xa4 xa3 (foundL a0 xa3 xa2)) (mbF (clsF a0 xa4 xa3 (foundL a0 xa3 xa2)) (foundL a0 xa3 xa2) (foundL a0 xa3 xa2).length) (mbF (clsF a0 xa4 xa3 (foundL a0 xa3 xa2)) (foundL a0 xa3 xa2) (foundL a0 xa3 xa2).length))) ∧ Lo w og_u3 ∧ Osl VB w' og_u4 u4 (onT (treesB a0 a1 xa2 xa3 xa4) (enL xa4 (mbF (clsF a0 xa4 xa3 (foundL a0 xa3 xa2)) (foundL a0 xa3 xa2) (foundL a0 xa3 xa2).length))) ∧ Lo w og_u4 ∧ Dj og_u2 og_u3 ∧ Dj og_u2 og_u4 ∧ Dj og_u3 og_u4)) := by
  have hB : Ext w w := Ext.refl w
  have hla2 := ha2.leI; have hla3 := ha3.leI; have hla4 := ha4.leI
  refine callsOf (vs := [_]) Try.func52 rfl Try.ntmps52 rfl rfl ?_
  refine CW.seq ?_
  refine CW.reg ?_
  refine WL.op rfl (OpK.box rfl rfl (by first | exact Rd.cells1 (by assumption) | exact Osl.cells1 (by assumption) | exact Osn.cells1 (by assumption) | exact Rd.cells1 (NL.rd (by assumption)) | exact Inn.cell1 (by assumption) (by omega) | assumption | rfl) (fun b1 w1 hXw1 hb1 hge1 => ?_))
  have hl1 := Lo.new hB hge1
  have hB := hB.trans hXw1
  refine WL.op rfl (OpK.alloc rfl T.zv72 rfl (fun b2 w2 hXw2 hb2 hge2 => ?_))
  have hl2 := Lo.new hB hge2
  have hd1_2 := Dj.new hb1.ltO hge2
  have hB := hB.trans hXw2
  have hb1 := hb1.up hXw2
  refine WL.asg rfl rfl ?_
  refine WL.nilS ?_
  refine CW.seq ?_
  refine CW.seq ?_
  refine CW.reg ?_
  refine WL.pure rfl rfl rfl (PV.loadA T.ag72 rfl hb1.cells (Ext.refl _) rfl) ?_
  refine WL.op rfl (OpK.callR rfl T.cf56 rfl (c_impl_ValidTrees (by first | assumption | exact Rd.up (by assumption) hB | exact Osl.rd (by assumption) | exact Osn.rdR (by assumption) | exact NL.rd (by assumption) | exact rdII (by assumption) (by assumption) | exact Inn.rd (by assumption) (by omega)) (by first | assumption | exact Rd.up (by assumption) hB | exact Osl.rd (by assumption) | exact Osn.rdR (by assumption) | exact NL.rd (by assumption) | exact rdII (by assumption) (by assumption) | exact Inn.rd (by assumption) (by omega)) (by first | assumption | exact Rd.up (by assumption) hB | exact Osl.rd (by assumption) | exact Osn.rdR (by assumption) | exact NL.rd (by assumption) | exact rdII (by assumption) (by assumption) | exact Inn.rd (by assumption) (by omega))) (fun w3 hXw3 => ?_))
  have hB := hB.trans hXw3
  have hb1 := hb1.up hXw3
  have hb2 := hb2.up hXw3
  refine WL.pure rfl rfl rfl (PV.not rfl) ?_
  refine WL.nilS ?_
  refine CW.cond rfl (fun hc1 => ?_) (fun hc1 => ?_)
  · skip
    try simp only [nq] at hc1
    refine CW.seq ?_
    refine CW.reg ?_
    refine WL.pure rfl rfl rfl (PV.build (ks := []) (os := []) (css := []) (ds := [_, _, _, _, _]) T.bu72 rfl rfl trivial rfl) ?_
    refine WL.op rfl (OpK.storeA T.sz72 rfl rfl rfl rfl (by simp [Value.oneCell'] <;> first | done | (repeat' apply And.intro) <;> first | rfl | exact Inn.one1 (by assumption) (by omega) | exact Osl.oneCell (by assumption) | exact Osn.oneCell (by assumption) | exact Rd.oneCell (by assumption) | exact Rd.oneCell (NL.rd (by assumption)) | assumption) hb2 (fun w4 hXw4 hb2 => ?_))
    have hB := hB.updL hXw4 hl2
    have hb1 := hb1.updD hXw4 hd1_2
    refine WL.asg rfl rfl ?_
    refine WL.nilS ?_
    refine CW.ret ?_
    refine RQ.then ?_
    refine RQ.rc1 T.ag72 rfl (by first | exact Cells.up (by assumption) hB | exact Bx.cells (by assumption) | assumption) rfl rfl ?_
    refine ⟨hB, (.slice none 0 0), none, (.slice none 0 0), none, (.slice none 0 0), none, ?_, osE (Osl.nil _ _) ?_, Lo.nl _, osE (Osl.nil _ _) ?_, Lo.nl _, osE (Osl.nil _ _) ?_, Lo.nl _, (Dj.nl _), (Dj.nl _), (Dj.nl _)⟩
    · skip
      first | (exact tE2 (by rw [onI_yes (treesB_yes (by assumption)), onI_yes (treesB_yes (by assumption))]) (bE (treesB_yes (by assumption)).symm)) | (exact tE2 (by rw [onI_no (treesB_no (by assumption)), onI_no (treesB_no (by assumption))]) (bE (Bool.eq_false_iff.2 (treesB_no (by assumption))).symm))
    · skip
      first | (rw [onT_no (treesB_no (by assumption))]; done) | (rw [onT_yes (treesB_yes (by assumption)), List.take_of_length_le (by omega)])
    · skip
      first | (rw [onT_no (treesB_no (by assumption))]; done) | (rw [onT_yes (treesB_yes (by assumption)), List.take_of_length_le (by omega)])
    · skip
      first | (rw [onT_no (treesB_no (by assumption))]; done) | (rw [onT_yes (treesB_yes (by assumption)), List.take_of_length_le (by omega)])
  try simp only [nq] at hc1
  have hv : (1 ≤ a0 ∧ a0 ≤ 16) ∧ (1 ≤ a1 ∧ a1 ≤ 4) ∧ (xa2.length : Int) = a1 ∧ (xa3.length : Int) = a0 * a0 ∧ (xa4.length : Int) = a0 ∧ allIn xa2 0 (a0 - 1) = true ∧ allIn xa3 0 (a0 - 1) = true := (by assumption); have hvb := treesB_yes hv; have tv : TV a0 a1 xa2 xa3 := ⟨hv.1, hv.2.1, hv.2.2.1, hv.2.2.2.1, hv.2.2.2.2.2.1, hv.2.2.2.2.2.2⟩; have tvs := tv.s; have tvl := tv.ll; have tvn := tv.nl; have hF0 := found_ok tv; have hFn := hF0.len; have hv5 := hv.2.2.2.2.1; have htl := trF_len2 (foundL a0 xa3 xa2); have hpos := found_pos tv; have hNm := nm_of (en := xa4) (nx := xa3) hF0 hpos; have hcls : (clsF a0 xa4 xa3 (foundL a0 xa3 xa2)).length = a0.toNat := (by rw [clsF_eq]; exact clF_len _); have hmbl := mbF_le (cl := (clsF a0 xa4 xa3 (foundL a0 xa3 xa2))) (l := foundL a0 xa3 xa2) (foundL a0 xa3 xa2).length
  refine CW.skipS ?_
  refine CW.seq ?_
  refine CW.reg ?_
  refine WL.pure rfl rfl rfl (PV.loadA T.ag72 rfl hb1.cells (Ext.refl _) rfl) ?_
  refine WL.op rfl (OpK.call rfl T.cf139 rfl (c_impl_TreeMachine_find (by first | assumption | exact Rd.up (by assumption) hB | exact Osl.rd (by assumption) | exact Osn.rdR (by assumption) | exact NL.rd (by assumption) | exact rdII (by assumption) (by assumption) | exact Inn.rd (by assumption) (by omega)) (by first | assumption | exact Rd.up (by assumption) hB | exact Osl.rd (by assumption) | exact Osn.rdR (by assumption) | exact NL.rd (by assumption) | exact rdII (by assumption) (by assumption) | exact Inn.rd (by assumption) (by omega)) (by first | assumption | exact Rd.up (by assumption) hB | exact Osl.rd (by assumption) | exact Osn.rdR (by assumption) | exact NL.rd (by assumption) | exact rdII (by assumption) (by assumption) | exact Inn.rd (by assumption) (by omega)) (by first | assumption | omega | (simp only [marks_len, marksB_len, marksR_len]; omega))) (fun rv1 w5 hR => ?_))
  obtain ⟨hXw5, v3, og3, rfl, ho3, hq3⟩ := hR
  have hl3 := Lo.up hq3 hB
  have hd1_3 := Dj.lo hb1.ltO hq3
  have hd2_3 := Dj.lo hb2.ltO hq3
  have hB := hB.trans hXw5
  have hb1 := hb1.up hXw5
  have hb2 := hb2.up hXw5
  refine WL.asg rfl rfl ?_
  refine WL.nilS ?_
  refine CW.seq ?_
  refine CW.reg ?_
  refine WL.pure rfl rfl rfl (PV.loadA T.ag72 rfl hb1.cells (Ext.refl _) rfl) ?_
  refine WL.mv rfl rfl ?_
  refine WL.op rfl (OpK.call rfl T.cf140 rfl (c_impl_TreeMachine_classes (by first | assumption | exact Rd.up (by assumption) hB | exact Osl.rd (by assumption) | exact Osn.rdR (by assumption) | exact NL.rd (by assumption) | exact rdII (by assumption) (by assumption) | exact Inn.rd (by assumption) (by omega)) (by first | assumption | exact Rd.up (by assumption) hB | exact Osl.rd (by assumption) | exact Osn.rdR (by assumption) | exact NL.rd (by assumption) | exact rdII (by assumption) (by assumption) | exact Inn.rd (by assumption) (by omega)) (by first | assumption | exact Rd.up (by assumption) hB | exact Osl.rd (by assumption) | exact Osn.rdR (by assumption) | exact NL.rd (by assumption) | exact rdII (by assumption) (by assumption) | exact Inn.rd (by assumption) (by omega)) (Osn.rdR ho3) (by first | assumption | omega | (simp only [marks_len, marksB_len, marksR_len]; omega)) (by first | assumption | omega | (simp only [marks_len, marksB_len, marksR_len]; omega))) (fun rv2 w6 hR => ?_))
  obtain ⟨hXw6, v4, og4, rfl, ho4, hq4⟩ := hR
  have hl4 := Lo.up hq4 hB
  have hd1_4 := Dj.lo hb1.ltO hq4
  have hd2_4 := Dj.lo hb2.ltO hq4
  have hd3_4 := Dj.lo ho3.ltO hq4
  have hB := hB.trans hXw6
  have hb1 := hb1.up hXw6
  have hb2 := hb2.up hXw6
  have ho3 := ho3.up hXw6
  refine WL.asg rfl rfl ?_
  refine WL.nilS ?_
  refine CW.seq ?_
  refine CW.reg ?_
  refine WL.op rfl (OpK.buildS VI (os := []) [] rfl T.sl28 rfl rfl T.zv2 rfl (by intro z hz; cases hz) rfl (fun v5 g5 w7 hXw7 ho5 hge5 => ?_))
  have hl5 := Lo.new hB hge5
  have hd1_5 := Dj.new hb1.ltO hge5
  have hd2_5 := Dj.new hb2.ltO hge5
  have hd3_5 := Dj.new ho3.ltO hge5
  have hd4_5 := Dj.new ho4.ltO hge5
  have hB := hB.trans hXw7
  have hb1 := hb1.up hXw7
  have hb2 := hb2.up hXw7
  have ho3 := ho3.up hXw7
  have ho4 := ho4.up hXw7
  refine WL.asg rfl rfl ?_
  refine WL.nilS ?_
  refine CW.seq ?_
  refine CW.seq ?_
  refine CW.reg ?_
  refine WL.mv rfl rfl ?_
  refine WL.pure rfl rfl rfl ((PV.lenOsn rfl ho3 T.sl163)) ?_
  refine WL.mv rfl rfl ?_
  refine WL.nilS ?_
  refine CW.block ?_
  have hlt1 := hb1.ltO
  have hlt2 := hb2.ltO
  have hlt3 := ho3.ltO
  have hlt4 := ho4.ltO
  have hlt5 := ho5.ltO
  refine CW.loop (σk := [(1, _), (2, _), (5, _), (25, _), (26, _)]) (fun ρ wz m => ∃ (v6 : Value) (og6 : Option Nat) (k : Nat), ρ = [(6, v6), (27, .int .i64 (k : Nat))] ∧ m = (foundL a0 xa3 xa2).length - k ∧ UpdL [(some g5)] w7 wz ∧ Osl VI wz og6 v6 (mbF (clsF a0 xa4 xa3 (foundL a0 xa3 xa2)) (foundL a0 xa3 xa2) k) ∧ OgR w7 (some g5) og6 ∧ (k ≤ (foundL a0 xa3 xa2).length)) (ρ₀ := [(6, _), (27, _)]) (m₀ := _) ⟨rfl, rfl, rfl, rfl, rfl, rfl, rfl, trivial⟩ ⟨v5, (some g5), 0, rfl, rfl, (UpdL.refl _ _), osE ho5 (by rfl), OgR.refl _ _, (by first | omega | rfl | (simp; done) | assumption | (simp_all; done))⟩ ?_
  rintro _ wl1 _ ⟨v6, og6, k, rfl, rfl, hU0, ho6, ha6, hk⟩
  have hb1 := hb1.loop hU0 ⟨hd1_5, trivial⟩
  have hb2 := hb2.loop hU0 ⟨hd2_5, trivial⟩
  have ho3 := ho3.loop hU0 ⟨hd3_5, trivial⟩
  have ho4 := ho4.loop hU0 ⟨hd4_5, trivial⟩
  have hl6 := Lo.ogr hl5 hB ha6
  have hg0_6 := ha6
  have hk0_6 : OkB [(some g5)] w7 og6 := OkB.ogr (OkB.mem (by simp)) (Nat.le_refl _) ha6
  have hd1_6 := Dj.ogr hd1_5 hlt1 ha6
  have hd2_6 := Dj.ogr hd2_5 hlt2 ha6
  have hd3_6 := Dj.ogr hd3_5 hlt3 ha6
  have hd4_6 := Dj.ogr hd4_5 hlt4 ha6
  have hB := hB.loop hU0 ⟨hl5, trivial⟩
  refine CW.seq ?_
  refine CW.reg ?_
  refine WL.pure rfl rfl rfl (PV.lss rfl rfl) ?_
  refine WL.nilS ?_
  refine CW.seq ?_
  refine CW.cond rfl (fun hc2 => ?_) (fun hc2 => ?_)
  · skip
    try simp only [nq] at hc2
    refine CW.skipS ?_
    refine CW.seq ?_
    refine CW.block ?_
    refine CW.seq ?_
    refine CW.reg ?_
    have hst := hF0.st (i := k) (by omega); simp only [rS] at hst; have hmk := mbF_le (cl := (clsF a0 xa4 xa3 (foundL a0 xa3 xa2))) (l := foundL a0 xa3 xa2) k
    have hrdp1 := ho3.rdR
    first
      | refine WL.at (x := .tmp 25) (y := .tmp 27) (E := ER) ((0, 0, 0, 0)) rfl rfl hrdp1 (by first | omega | (simp only [List.length_set]; omega) | (simp only [List.length_append, List.length_take, List.length_replicate, List.length_drop]; omega)) (fun p1 csp1 hpp1 hcp1 hq => ?_)
      | refine WL.atZ (x := .tmp 25) (y := .tmp 27) (E := ER) ((0, 0, 0, 0)) rfl rfl hrdp1 (by first | omega | (simp only [List.length_set]; omega) | (simp only [List.length_append, List.length_take, List.length_replicate, List.length_drop]; omega)) (fun p1 csp1 hpp1 hzp1 hcp1 hq => ?_)
    cases hq
    refine WL.pure rfl rfl rfl ((by first | exact PV.indexAddr hpp1 rfl rfl T.sl163 | exact PV.indexAddr hpp1 rfl (by rw [← hzp1]; rfl) T.sl163)) ?_
    refine WL.pure rfl rfl rfl ((by first | exact PV.loadA T.ag167 rfl (by first | exact Cells.up (by assumption) hB | exact Bx.cells (by assumption) | assumption) (Ext.refl _) rfl | exact PV.loadP (ds := [_, _, _, _]) T.ag167 rfl (by first | exact Cells.up (by assumption) hB | exact Bx.cells (by assumption) | assumption) (Ext.refl _) rfl rfl)) ?_
    refine WL.op rfl (OpK.alloc rfl T.zv167 rfl (fun b7 w8 hXw8 hb7 hge7 => ?_))
    have hl7 := Lo.new hB hge7
    have hd1_7 := Dj.new hb1.ltO hge7
    have hd2_7 := Dj.new hb2.ltO hge7
    have hd3_7 := Dj.new ho3.ltO hge7
    have hd4_7 := Dj.new ho4.ltO hge7
    have hd6_7 := Dj.new ho6.ltO hge7
    have hk0_7 := OkN.new hU0 hge7
    have hg0_7 := OgR.new hU0.size hge7
    have hB := hB.trans hXw8
    have hb1 := hb1.up hXw8
    have hb2 := hb2.up hXw8
    have ho3 := ho3.up hXw8
    have ho4 := ho4.up hXw8
    have ho6 := ho6.up hXw8
    have hU0 := hU0.ext hXw8
    refine WL.op rfl (OpK.storeA T.sz167 rfl rfl rfl rfl (by simp [Value.oneCell'] <;> first | done | (repeat' apply And.intro) <;> first | rfl | exact Inn.one1 (by assumption) (by omega) | exact Osl.oneCell (by assumption) | exact Osn.oneCell (by assumption) | exact Rd.oneCell (by assumption) | exact Rd.oneCell (NL.rd (by assumption)) | assumption) hb7 (fun w9 hXw9 hb7 => ?_))
    have hB := hB.updL hXw9 hl7
    have hb1 := hb1.updD hXw9 hd1_7
    have hb2 := hb2.updD hXw9 hd2_7
    have ho3 := ho3.updD hXw9 hd3_7
    have ho4 := ho4.updD hXw9 hd4_7
    have ho6 := ho6.updD hXw9 hd6_7
    have hU0 := hU0.step hXw9 hk0_7
    refine WL.nilS ?_
    refine CW.seq ?_
    refine CW.reg ?_
    refine WL.mv rfl rfl ?_
    refine WL.pure rfl rfl rfl (PV.fieldAddr T.fl167_0 rfl hb7.cells) ?_
    refine WL.pure rfl rfl rfl (PV.load1 T.na2 rfl hb7.cells (Ext.refl _) rfl) ?_
    first
      | refine WL.atO (x := .tmp 31) (y := .tmp 33) (f := VI) (0) rfl rfl ho4 (by first | omega | (simp only [List.length_set]; omega) | (simp only [List.length_append, List.length_take, List.length_replicate, List.length_drop]; omega)) (fun p2 hpp2 hcp2 => ?_)
      | refine WL.atOZ (x := .tmp 31) (y := .tmp 33) (f := VI) (0) rfl rfl ho4 (by first | omega | (simp only [List.length_set]; omega) | (simp only [List.length_append, List.length_take, List.length_replicate, List.length_drop]; omega)) (fun p2 hpp2 hzp2 hcp2 => ?_)
    refine WL.pure rfl rfl rfl ((by first | exact PV.indexAddr hpp2 rfl rfl T.sl28 | exact PV.indexAddr hpp2 rfl (by rw [← hzp2]; rfl) T.sl28)) ?_
    refine WL.pure rfl rfl rfl ((by first | exact PV.load0 T.na2 rfl (by first | exact Cells.up (by assumption) hB | exact Bx.cells (by assumption) | assumption) (Ext.refl _) rfl | exact PV.load1 T.na2 rfl (by first | exact Cells.up (by assumption) hB | exact Bx.cells (by assumption) | assumption) (Ext.refl _) rfl)) ?_
    refine WL.mv rfl rfl ?_
    refine WL.pure rfl rfl rfl ((PV.lenOs rfl ho6 T.sl28)) ?_
    refine WL.pure rfl rfl rfl (PV.eql rfl rfl) ?_
    refine WL.nilS ?_
    refine CW.cond rfl (fun hc3 => ?_) (fun hc3 => ?_)
    · skip
      try simp only [nq] at hc3
      refine CW.reg ?_
      refine WL.mv rfl rfl ?_
      refine WL.pure rfl rfl rfl (PV.fieldAddr T.fl167_0 rfl hb7.cells) ?_
      refine WL.pure rfl rfl rfl (PV.load1 T.na2 rfl hb7.cells (Ext.refl _) rfl) ?_
      refine WL.op rfl (OpK.buildS VI (os := [.tmp 41]) [_] rfl T.sl28 rfl rfl T.zv2 rfl (by intro z hz; first | rfl | (simp only [List.mem_cons, List.not_mem_nil, or_false] at hz; subst hz; exact (by first | exact Rd.cells1 (by assumption) | exact Osl.cells1 (by assumption) | exact Osn.cells1 (by assumption) | exact Rd.cells1 (NL.rd (by assumption)) | exact Inn.cell1 (by assumption) (by omega) | assumption | rfl))) rfl (fun v8 g8 w10 hXw10 ho8 hge8 => ?_))
      have hl8 := Lo.new hB hge8
      have hd1_8 := Dj.new hb1.ltO hge8
      have hd2_8 := Dj.new hb2.ltO hge8
      have hd3_8 := Dj.new ho3.ltO hge8
      have hd4_8 := Dj.new ho4.ltO hge8
      have hd6_8 := Dj.new ho6.ltO hge8
      have hd7_8 := Dj.new hb7.ltO hge8
      have hk0_8 := OkN.new hU0 hge8
      have hg0_8 := OgR.new hU0.size hge8
      have hB := hB.trans hXw10
      have hb1 := hb1.up hXw10
      have hb2 := hb2.up hXw10
      have ho3 := ho3.up hXw10
      have ho4 := ho4.up hXw10
      have ho6 := ho6.up hXw10
      have hb7 := hb7.up hXw10
      have hU0 := hU0.ext hXw10
      refine WL.op rfl (OpK.appendS (f := VI) rfl T.sl28 T.zv2 rfl rfl ho6 rfl (Osl.src ho8 (fun _ => rfl)) (by first | (simp only [List.length_cons, List.length_nil]; omega) | (simp only [List.length_append, List.length_cons, List.length_nil]; omega)) (fun v9 og9 w11 hXw11 ho9 hap9 => ?_))
      have hl9 := Lo.app hl6 hB hap9
      have hd1_9 := Dj.app hd1_6 hb1.ltO hap9
      have hd2_9 := Dj.app hd2_6 hb2.ltO hap9
      have hd3_9 := Dj.app hd3_6 ho3.ltO hap9
      have hd4_9 := Dj.app hd4_6 ho4.ltO hap9
      have hd7_9 := Dj.app (Dj.symm hd6_7) hb7.ltO hap9
      have hd8_9 := Dj.app (Dj.symm hd6_8) ho8.ltO hap9
      have hk0_9 := OkN.app hU0 hk0_6 hap9
      have hg0_9 := OgR.app hg0_6 hU0.size hap9
      have hB := hB.updL hXw11 hl6
      have hb1 := hb1.updD hXw11 hd1_6
      have hb2 := hb2.updD hXw11 hd2_6
      have ho3 := ho3.updD hXw11 hd3_6
      have ho4 := ho4.updD hXw11 hd4_6
      have hb7 := hb7.updD hXw11 (Dj.symm hd6_7)
      have ho8 := ho8.updD hXw11 (Dj.symm hd6_8)
      have hU0 := hU0.step hXw11 hk0_6
      refine WL.asg rfl rfl ?_
      refine WL.nil ?_
      refine NQ.block ?_
      refine NQ.then ?_
      refine CW.reg ?_
      refine WL.pure rfl rfl rfl (PV.add rfl rfl (by constructor <;> omega)) ?_
      refine WL.mv rfl rfl ?_
      refine WL.nil ?_
      refine NQ.next (ρ := [(6, _), (27, _)]) ⟨rfl, rfl, rfl, rfl, rfl, rfl, rfl, trivial⟩ ?_
      exact ⟨_, ⟨v9, og9, k + 1, rfl, rfl, hU0, osE ho9 (by first | exact (mbF_yes (by assumption)).symm | exact (mbF_no (by assumption)).symm), (by first | exact hg0_9 | exact OgR.weak hg0_9), (by first | omega | assumption | (simp_all; done) | (simp_all; omega))⟩, by omega⟩
    try simp only [nq] at hc3
    refine CW.skip ?_
    refine NQ.block ?_
    refine NQ.then ?_
    refine CW.reg ?_
    refine WL.pure rfl rfl rfl (PV.add rfl rfl (by constructor <;> omega)) ?_
    refine WL.mv rfl rfl ?_
    refine WL.nil ?_
    refine NQ.next (ρ := [(6, _), (27, _)]) ⟨rfl, rfl, rfl, rfl, rfl, rfl, rfl, trivial⟩ ?_
    exact ⟨_, ⟨v6, og6, k + 1, rfl, rfl, hU0, osE ho6 (by first | exact (mbF_yes (by assumption)).symm | exact (mbF_no (by assumption)).symm), (by first | exact hg0_6 | exact OgR.weak hg0_6), (by first | omega | assumption | (simp_all; done) | (simp_all; omega))⟩, by omega⟩
  try simp only [nq] at hc2
  refine CW.exit ?_
  refine XQ.then ?_
  refine XQ.then ?_
  refine XQ.here ?_
  refine NQ.then ?_
  refine CW.seq ?_
  refine CW.reg ?_
  (obtain rfl : k = (foundL a0 xa3 xa2).length := (by omega))
  refine WL.mv rfl rfl ?_
  refine WL.pure rfl rfl rfl ((PV.lenOs rfl ho6 T.sl28)) ?_
  refine WL.pure rfl rfl rfl (PV.fieldAddr T.fl72_1 rfl hb1.cells) ?_
  refine WL.pure rfl rfl rfl (PV.load1 T.na2 rfl hb1.cells (Ext.refl _) rfl) ?_
  refine WL.pure rfl rfl rfl (PV.build (ks := [0, 1]) (os := [.tmp 46, .tmp 48]) (css := [[_], [_]]) (ds := [_, _, _, _, _]) T.bu72 rfl rfl ⟨rfl, rfl, trivial⟩ rfl) ?_
  refine WL.op rfl (OpK.alloc rfl T.zv72 rfl (fun b10 w12 hXw12 hb10 hge10 => ?_))
  have hl10 := Lo.new hB hge10
  have hd1_10 := Dj.new hb1.ltO hge10
  have hd2_10 := Dj.new hb2.ltO hge10
  have hd3_10 := Dj.new ho3.ltO hge10
  have hd4_10 := Dj.new ho4.ltO hge10
  have hd6_10 := Dj.new ho6.ltO hge10
  have hB := hB.trans hXw12
  have hb1 := hb1.up hXw12
  have hb2 := hb2.up hXw12
  have ho3 := ho3.up hXw12
  have ho4 := ho4.up hXw12
  have ho6 := ho6.up hXw12
  refine WL.op rfl (OpK.storeA T.sz72 rfl rfl rfl rfl (by simp [Value.oneCell'] <;> first | done | (repeat' apply And.intro) <;> first | rfl | exact Inn.one1 (by assumption) (by omega) | exact Osl.oneCell (by assumption) | exact Osn.oneCell (by assumption) | exact Rd.oneCell (by assumption) | exact Rd.oneCell (NL.rd (by assumption)) | assumption) hb10 (fun w13 hXw13 hb10 => ?_))
  have hB := hB.updL hXw13 hl10
  have hb1 := hb1.updD hXw13 hd1_10
  have hb2 := hb2.updD hXw13 hd2_10
  have ho3 := ho3.updD hXw13 hd3_10
  have ho4 := ho4.updD hXw13 hd4_10
  have ho6 := ho6.updD hXw13 hd6_10
  refine WL.nilS ?_
  refine CW.seq ?_
  refine CW.seq ?_
  refine CW.reg ?_
  refine WL.pure rfl rfl rfl (PV.fieldAddr T.fl72_1 rfl hb1.cells) ?_
  refine WL.pure rfl rfl rfl (PV.load1 T.na2 rfl hb1.cells (Ext.refl _) rfl) ?_
  refine WL.mv rfl rfl ?_
  refine WL.nilS ?_
  refine CW.block ?_
  have ho11 : Osl VI w13 none (.slice none 0 0) [] := (Osl.nil _ _)
  have hl11 : Lo w none := Lo.nl _
  have hd1_11 : Dj (some b1.block) none := Dj.nlR _
  have hd2_11 : Dj (some b2.block) none := Dj.nlR _
  have hd3_11 : Dj og3 none := Dj.nlR _
  have hd4_11 : Dj og4 none := Dj.nlR _
  have hd6_11 : Dj og6 none := Dj.nlR _
  have hd10_11 : Dj (some b10.block) none := Dj.nlR _
  have ho12 : Osl VI w13 none (.slice none 0 0) [] := (Osl.nil _ _)
  have hl12 : Lo w none := Lo.nl _
  have hd1_12 : Dj (some b1.block) none := Dj.nlR _
  have hd2_12 : Dj (some b2.block) none := Dj.nlR _
  have hd3_12 : Dj og3 none := Dj.nlR _
  have hd4_12 : Dj og4 none := Dj.nlR _
  have hd6_12 : Dj og6 none := Dj.nlR _
  have hd10_12 : Dj (some b10.block) none := Dj.nlR _
  have hd11_12 : Dj none none := Dj.nlR _
  have ho13 : Osl VB w13 none (.slice none 0 0) [] := (Osl.nil _ _)
  have hl13 : Lo w none := Lo.nl _
  have hd1_13 : Dj (some b1.block) none := Dj.nlR _
  have hd2_13 : Dj (some b2.block) none := Dj.nlR _
  have hd3_13 : Dj og3 none := Dj.nlR _
  have hd4_13 : Dj og4 none := Dj.nlR _
  have hd6_13 : Dj og6 none := Dj.nlR _
  have hd10_13 : Dj (some b10.block) none := Dj.nlR _
  have hd11_13 : Dj none none := Dj.nlR _
  have hd12_13 : Dj none none := Dj.nlR _
  have hlt1 := hb1.ltO
  have hlt2 := hb2.ltO
  have hlt3 := ho3.ltO
  have hlt4 := ho4.ltO
  have hlt6 := ho6.ltO
  have hlt10 := hb10.ltO
  have hlt11 := ho11.ltO
  have hlt12 := ho12.ltO
  have hlt13 := ho13.ltO
  refine CW.loop (σk := [(1, _), (2, _), (5, _), (6, _), (9, _), (51, _)]) (fun ρ wz m => ∃ (v14 : Value) (og14 : Option Nat) (v15 : Value) (og15 : Option Nat) (v16 : Value) (og16 : Option Nat) (j : Nat), ρ = [(52, .int .i64 (j : Nat))] ∧ m = xa2.length - j ∧ UpdL [none, none, none, (some b10.block)] w13 wz ∧ Osl VI wz og14 v14 (mpL (clsF a0 xa4 xa3 (foundL a0 xa3 xa2)) (xa2.take j)) ∧ OgR w13 none og14 ∧ Osl VI wz og15 v15 (([] : List Int)) ∧ OgR w13 none og15 ∧ Osl VB wz og16 v16 (([] : List Bool)) ∧ OgR w13 none og16 ∧ Bx wz b10 [.int .i64 ((mbF (clsF a0 xa4 xa3 (foundL a0 xa3 xa2)) (foundL a0 xa3 xa2) (foundL a0 xa3 xa2).length).length : Nat), .int .i64 a1, v14, v15, v16] ∧ Dj og14 og15 ∧ Dj og14 og16 ∧ Dj og15 og16 ∧ (j ≤ xa2.length)) (ρ₀ := [(52, _)]) (m₀ := _) ⟨rfl, rfl, rfl, rfl, rfl, rfl, rfl, trivial⟩ ⟨(.slice none 0 0), none, (.slice none 0 0), none, (.slice none 0 0), none, 0, rfl, rfl, (UpdL.refl _ _), osE ho11 (by rfl), OgR.refl _ _, osE ho12 (by rfl), OgR.refl _ _, osE ho13 (by rfl), OgR.refl _ _, bxE hb10 (by first | rfl | rw [rgI_len]), hd11_12, hd11_13, hd12_13, (by first | omega | rfl | (simp; done) | assumption | (simp_all; done))⟩ ?_
  rintro _ wl2 _ ⟨v14, og14, v15, og15, v16, og16, j, rfl, rfl, hU1, ho14, ha14, ho15, ha15, ho16, ha16, hb10, hd14_15, hd14_16, hd15_16, hj⟩
  have hb1 := hb1.loop hU1 ⟨hd1_11, hd1_12, hd1_13, hd1_10, trivial⟩
  have hb2 := hb2.loop hU1 ⟨hd2_11, hd2_12, hd2_13, hd2_10, trivial⟩
  have ho3 := ho3.loop hU1 ⟨hd3_11, hd3_12, hd3_13, hd3_10, trivial⟩
  have ho4 := ho4.loop hU1 ⟨hd4_11, hd4_12, hd4_13, hd4_10, trivial⟩
  have ho6 := ho6.loop hU1 ⟨hd6_11, hd6_12, hd6_13, hd6_10, trivial⟩
  have hl14 := Lo.ogr hl11 hB ha14
  have hg1_14 := ha14
  have hk1_14 : OkB [none, none, none, (some b10.block)] w13 og14 := OkB.ogr (OkB.mem (by simp)) (Nat.le_refl _) ha14
  have hd1_14 := Dj.ogr hd1_11 hlt1 ha14
  have hd2_14 := Dj.ogr hd2_11 hlt2 ha14
  have hd3_14 := Dj.ogr hd3_11 hlt3 ha14
  have hd4_14 := Dj.ogr hd4_11 hlt4 ha14
  have hd6_14 := Dj.ogr hd6_11 hlt6 ha14
  have hd10_14 := Dj.ogr hd10_11 hlt10 ha14
  have hl15 := Lo.ogr hl12 hB ha15
  have hg1_15 := ha15
  have hk1_15 : OkB [none, none, none, (some b10.block)] w13 og15 := OkB.ogr (OkB.mem (by simp)) (Nat.le_refl _) ha15
  have hd1_15 := Dj.ogr hd1_12 hlt1 ha15
  have hd2_15 := Dj.ogr hd2_12 hlt2 ha15
  have hd3_15 := Dj.ogr hd3_12 hlt3 ha15
  have hd4_15 := Dj.ogr hd4_12 hlt4 ha15
  have hd6_15 := Dj.ogr hd6_12 hlt6 ha15
  have hd10_15 := Dj.ogr hd10_12 hlt10 ha15
  have hl16 := Lo.ogr hl13 hB ha16
  have hg1_16 := ha16
  have hk1_16 : OkB [none, none, none, (some b10.block)] w13 og16 := OkB.ogr (OkB.mem (by simp)) (Nat.le_refl _) ha16
  have hd1_16 := Dj.ogr hd1_13 hlt1 ha16
  have hd2_16 := Dj.ogr hd2_13 hlt2 ha16
  have hd3_16 := Dj.ogr hd3_13 hlt3 ha16
  have hd4_16 := Dj.ogr hd4_13 hlt4 ha16
  have hd6_16 := Dj.ogr hd6_13 hlt6 ha16
  have hd10_16 := Dj.ogr hd10_13 hlt10 ha16
  have hk1_10 : OkB [none, none, none, (some b10.block)] w13 (some b10.block) := OkB.mem (by simp)
  have hB := hB.loop hU1 ⟨hl11, hl12, hl13, hl10, trivial⟩
  refine CW.seq ?_
  refine CW.reg ?_
  refine WL.pure rfl rfl rfl (PV.lss rfl rfl) ?_
  refine WL.nilS ?_
  refine CW.seq ?_
  refine CW.cond rfl (fun hc4 => ?_) (fun hc4 => ?_)
  · skip
    try simp only [nq] at hc4
    refine CW.skipS ?_
    refine CW.seq ?_
    refine CW.block ?_
    refine CW.seq ?_
    refine CW.reg ?_
    refine WL.mv rfl rfl ?_
    refine WL.asg rfl rfl ?_
    refine WL.nilS ?_
    refine CW.draw T.mixed (by kernel_rfl) (fun _ _ _ _ _ h => h) (fun w8 w9 => Upd og14 w8 w9) 11 (.take 0 (.take 1 (.take 2 (.take 3 (.take 4 (.must 5 (.must 6 (.must 7 (.must 8 (.must 9 (.take 10 (.must 11 .done)))))))))))) (by kernel_rfl) (fun w14 hXd => ?_)
    have hB := hB.trans hXd
    have hb1 := hb1.up hXd
    have hb2 := hb2.up hXd
    have ho3 := ho3.up hXd
    have ho4 := ho4.up hXd
    have ho6 := ho6.up hXd
    have hb10 := hb10.up hXd
    have ho14 := ho14.up hXd
    have ho15 := ho15.up hXd
    have ho16 := ho16.up hXd
    have hU1 := hU1.ext hXd
    have hBr := hB
    have hS : Upd og14 w14 w14 := Ext.toUpd (Ext.refl _)
    have hlf := allIn_get tv.li (k := (j : Int).toNat) (by omega); have hmp := mpL_len (cl := (clsF a0 xa4 xa3 (foundL a0 xa3 xa2))) (xa2.take j); have htk := List.length_take (i := j) (l := xa2)
    refine HP.take rfl rfl rfl rfl hS (fun wS hS1 => PV.fieldAddr T.fl72_2 rfl hb10.cells) ?_
    refine HP.take rfl rfl rfl rfl hS (fun wS hS1 => PV.load1 T.na28 rfl (Bx.cells (Bx.updD (by assumption) hS1 (by first | assumption | exact Dj.symm (by assumption)))) (Ext.refl _) rfl) ?_
    refine HP.take rfl rfl rfl rfl hS (fun wS hS1 => PV.move rfl) ?_
    refine HP.take rfl rfl rfl rfl hS (fun wS hS1 => PV.loadA T.ag72 rfl (Bx.cells (Bx.updD (by assumption) hS1 (by first | assumption | exact Dj.symm (by assumption)))) (Ext.refl _) rfl) ?_
    refine HP.take rfl rfl rfl rfl hS (fun wS hS1 => PV.move rfl) ?_
    refine HP.must rfl rfl (OpK.callR rfl T.cf137 rfl (c_impl_TreeMachine_leaf (by first | assumption | exact Rd.up (by assumption) hB | exact Osl.rd (by assumption) | exact Osn.rdR (by assumption) | exact NL.rd (by assumption) | exact rdII (by assumption) (by assumption) | exact Inn.rd (by assumption) (by omega)) (by first | assumption | exact Rd.up (by assumption) hB | exact Osl.rd (by assumption) | exact Osn.rdR (by assumption) | exact NL.rd (by assumption) | exact rdII (by assumption) (by assumption) | exact Inn.rd (by assumption) (by omega)) (by first | assumption | exact Rd.up (by assumption) hB | exact Osl.rd (by assumption) | exact Osn.rdR (by assumption) | exact NL.rd (by assumption) | exact rdII (by assumption) (by assumption) | exact Inn.rd (by assumption) (by omega)) (by first | assumption | omega | (simp only [marks_len, marksB_len, marksR_len]; omega))) (fun w15 hXw15 => ?_))
    refine ⟨Upd.trans hS (Ext.toUpd hXw15), ?_⟩
    have hS := Upd.trans hS (Ext.toUpd hXw15)
    have hB := hB.trans hXw15
    have hb1 := hb1.up hXw15
    have hb2 := hb2.up hXw15
    have ho3 := ho3.up hXw15
    have ho4 := ho4.up hXw15
    have ho6 := ho6.up hXw15
    have hb10 := hb10.up hXw15
    have ho14 := ho14.up hXw15
    have ho15 := ho15.up hXw15
    have ho16 := ho16.up hXw15
    have hU1 := hU1.ext hXw15
    first
      | refine HP.atO (wb := w15) (x := .tmp 57) (y := .tmp 60) (f := VI) (0) rfl rfl ho4 (by first | omega | (simp only [List.length_set]; omega) | (simp only [List.length_append, List.length_take, List.length_replicate, List.length_drop]; omega)) (fun p3 hpp3 hcp3 => ?_)
      | refine HP.atOZ (wb := w15) (x := .tmp 57) (y := .tmp 60) (f := VI) (0) rfl rfl ho4 (by first | omega | (simp only [List.length_set]; omega) | (simp only [List.length_append, List.length_take, List.length_replicate, List.length_drop]; omega)) (fun p3 hpp3 hzp3 hcp3 => ?_)
    refine HP.must rfl rfl (OpK.pure rfl rfl ((by first | exact PV.indexAddr hpp3 rfl rfl T.sl28 | exact PV.indexAddr hpp3 rfl (by rw [← hzp3]; rfl) T.sl28)) ⟨hS, ?_⟩)
    refine HP.must rfl rfl (OpK.pure rfl rfl ((by first | exact PV.load0 T.na2 rfl (by first | exact Cells.up (by assumption) hB | exact Bx.cells (by assumption) | assumption) (Ext.refl _) rfl | exact PV.load1 T.na2 rfl (by first | exact Cells.up (by assumption) hB | exact Bx.cells (by assumption) | assumption) (Ext.refl _) rfl)) ⟨hS, ?_⟩)
    refine HP.must rfl rfl (OpK.buildS VI (os := [.tmp 62]) [_] rfl T.sl28 rfl rfl T.zv2 rfl (by intro z hz; first | rfl | (simp only [List.mem_cons, List.not_mem_nil, or_false] at hz; subst hz; exact (by first | exact Rd.cells1 (by assumption) | exact Osl.cells1 (by assumption) | exact Osn.cells1 (by assumption) | exact Rd.cells1 (NL.rd (by assumption)) | exact Inn.cell1 (by assumption) (by omega) | assumption | rfl))) rfl (fun v18 g18 w16 hXw16 ho18 hge18 => ?_))
    have hl18 := Lo.new hB hge18
    have hd1_18 := Dj.new hb1.ltO hge18
    have hd2_18 := Dj.new hb2.ltO hge18
    have hd3_18 := Dj.new ho3.ltO hge18
    have hd4_18 := Dj.new ho4.ltO hge18
    have hd6_18 := Dj.new ho6.ltO hge18
    have hd10_18 := Dj.new hb10.ltO hge18
    have hd14_18 := Dj.new ho14.ltO hge18
    have hd15_18 := Dj.new ho15.ltO hge18
    have hd16_18 := Dj.new ho16.ltO hge18
    have hk1_18 := OkN.new hU1 hge18
    have hg1_18 := OgR.new hU1.size hge18
    refine ⟨Upd.trans hS (Ext.toUpd hXw16), ?_⟩
    have hS := Upd.trans hS (Ext.toUpd hXw16)
    have hB := hB.trans hXw16
    have hb1 := hb1.up hXw16
    have hb2 := hb2.up hXw16
    have ho3 := ho3.up hXw16
    have ho4 := ho4.up hXw16
    have ho6 := ho6.up hXw16
    have hb10 := hb10.up hXw16
    have ho14 := ho14.up hXw16
    have ho15 := ho15.up hXw16
    have ho16 := ho16.up hXw16
    have hU1 := hU1.ext hXw16
    refine HP.must rfl rfl (OpK.appendS (f := VI) rfl T.sl28 T.zv2 rfl rfl ho14 rfl (Osl.src ho18 (fun _ => rfl)) (by first | (simp only [List.length_cons, List.length_nil]; omega) | (simp only [List.length_append, List.length_cons, List.length_nil]; omega)) (fun v19 og19 w17 hXw17 ho19 hap19 => ?_))
    have hl19 := Lo.app hl14 hB hap19
    have hd1_19 := Dj.app hd1_14 hb1.ltO hap19
    have hd2_19 := Dj.app hd2_14 hb2.ltO hap19
    have hd3_19 := Dj.app hd3_14 ho3.ltO hap19
    have hd4_19 := Dj.app hd4_14 ho4.ltO hap19
    have hd6_19 := Dj.app hd6_14 ho6.ltO hap19
    have hd10_19 := Dj.app hd10_14 hb10.ltO hap19
    have hd15_19 := Dj.app (Dj.symm hd14_15) ho15.ltO hap19
    have hd16_19 := Dj.app (Dj.symm hd14_16) ho16.ltO hap19
    have hd18_19 := Dj.app (Dj.symm hd14_18) ho18.ltO hap19
    have hk1_19 := OkN.app hU1 hk1_14 hap19
    have hg1_19 := OgR.app hg1_14 hU1.size hap19
    refine ⟨Upd.trans hS hXw17, ?_⟩
    have hS := Upd.trans hS hXw17
    have hB := hB.updL hXw17 hl14
    have hb1 := hb1.updD hXw17 hd1_14
    have hb2 := hb2.updD hXw17 hd2_14
    have ho3 := ho3.updD hXw17 hd3_14
    have ho4 := ho4.updD hXw17 hd4_14
    have ho6 := ho6.updD hXw17 hd6_14
    have hb10 := hb10.updD hXw17 hd10_14
    have ho15 := ho15.updD hXw17 (Dj.symm hd14_15)
    have ho16 := ho16.updD hXw17 (Dj.symm hd14_16)
    have ho18 := ho18.updD hXw17 (Dj.symm hd14_18)
    have hU1 := hU1.step hXw17 hk1_14
    refine HP.take rfl rfl rfl rfl hS (fun wS hS1 => PV.fieldAddr T.fl72_2 rfl hb10.cells) ?_
    refine HP.last rfl rfl (OpK.storeB T.sz28 rfl rfl (by first | rfl | exact Inn.one1 (by assumption) (by omega) | exact Osl.oneCell (by assumption) | exact Osn.oneCell (by assumption) | exact Rd.oneCell (by assumption) | exact Rd.oneCell (NL.rd (by assumption)) | assumption) hb10 rfl (fun w18 hXw18 hb10 => ?_))
    have hB := hB.updL hXw18 hl10
    have hb1 := hb1.updD hXw18 hd1_10
    have hb2 := hb2.updD hXw18 hd2_10
    have ho3 := ho3.updD hXw18 hd3_10
    have ho4 := ho4.updD hXw18 hd4_10
    have ho6 := ho6.updD hXw18 hd6_10
    have ho15 := ho15.updD hXw18 (Dj.symm hd10_15)
    have ho16 := ho16.updD hXw18 (Dj.symm hd10_16)
    have ho18 := ho18.updD hXw18 (Dj.symm hd10_18)
    have ho19 := ho19.updD hXw18 (Dj.symm hd10_19)
    have hU1 := hU1.step hXw18 hk1_10
    refine HP.done ?_
    refine NQ.block ?_
    refine NQ.then ?_
    refine CW.reg ?_
    refine WL.pure rfl rfl rfl (PV.add rfl rfl (by constructor <;> omega)) ?_
    refine WL.mv rfl rfl ?_
    refine WL.nil ?_
    refine NQ.next (ρ := [(52, _)]) ⟨rfl, rfl, rfl, rfl, rfl, rfl, rfl, trivial⟩ ?_
    exact ⟨_, ⟨v19, og19, v15, og15, v16, og16, j + 1, rfl, rfl, hU1, osE ho19 (by exact mpL_put (by omega)), (by first | exact hg1_19 | exact OgR.weak hg1_19), osE ho15 (by first | rfl | (simp_all; done) | (simp_all; omega)), (by first | exact hg1_15 | exact OgR.weak hg1_15), osE ho16 (by first | rfl | (simp_all; done) | (simp_all; omega)), (by first | exact hg1_16 | exact OgR.weak hg1_16), bxE hb10 (by first | rfl | (simp_all; done) | (simp_all; omega)), (Dj.symm hd15_19), (Dj.symm hd16_19), hd15_16, (by first | omega | assumption | (simp_all; done) | (simp_all; omega))⟩, by omega⟩
  try simp only [nq] at hc4
  refine CW.exit ?_
  refine XQ.then ?_
  refine XQ.then ?_
  refine XQ.here ?_
  refine NQ.then ?_
  refine CW.seq ?_
  refine CW.seq ?_
  refine CW.reg ?_
  refine WL.mv rfl rfl ?_
  refine WL.pure rfl rfl rfl ((PV.lenOs rfl ho6 T.sl28)) ?_
  refine WL.mv rfl rfl ?_
  refine WL.nilS ?_
  refine CW.block ?_
  have hlt1 := hb1.ltO
  have hlt2 := hb2.ltO
  have hlt3 := ho3.ltO
  have hlt4 := ho4.ltO
  have hlt6 := ho6.ltO
  have hlt10 := hb10.ltO
  have hlt14 := ho14.ltO
  have hlt15 := ho15.ltO
  have hlt16 := ho16.ltO
  refine CW.loop (σk := [(1, _), (2, _), (5, _), (6, _), (9, _), (67, _), (68, _)]) (fun ρ wz m => ∃ (v20 : Value) (og20 : Option Nat) (v21 : Value) (og21 : Option Nat) (v22 : Value) (og22 : Option Nat) (i : Nat), ρ = [(69, .int .i64 (i : Nat))] ∧ m = (mbF (clsF a0 xa4 xa3 (foundL a0 xa3 xa2)) (foundL a0 xa3 xa2) (foundL a0 xa3 xa2).length).length - i ∧ UpdL [og14, og15, og16, (some b10.block)] wl2 wz ∧ Osl VI wz og20 v20 (mpL (clsF a0 xa4 xa3 (foundL a0 xa3 xa2)) (xa2.take xa2.length)) ∧ OgR wl2 og14 og20 ∧ Osl VI wz og21 v21 (nxL a0 xa3 (clsF a0 xa4 xa3 (foundL a0 xa3 xa2)) (mbF (clsF a0 xa4 xa3 (foundL a0 xa3 xa2)) (foundL a0 xa3 xa2) (foundL a0 xa3 xa2).length) ((mbF (clsF a0 xa4 xa3 (foundL a0 xa3 xa2)) (foundL a0 xa3 xa2) (foundL a0 xa3 xa2).length).take i)) ∧ OgR wl2 og15 og21 ∧ Osl VB wz og22 v22 (enL xa4 ((mbF (clsF a0 xa4 xa3 (foundL a0 xa3 xa2)) (foundL a0 xa3 xa2) (foundL a0 xa3 xa2).length).take i)) ∧ OgR wl2 og16 og22 ∧ Bx wz b10 [.int .i64 ((mbF (clsF a0 xa4 xa3 (foundL a0 xa3 xa2)) (foundL a0 xa3 xa2) (foundL a0 xa3 xa2).length).length : Nat), .int .i64 a1, v20, v21, v22] ∧ Dj og20 og21 ∧ Dj og20 og22 ∧ Dj og21 og22 ∧ (i ≤ (mbF (clsF a0 xa4 xa3 (foundL a0 xa3 xa2)) (foundL a0 xa3 xa2) (foundL a0 xa3 xa2).length).length)) (ρ₀ := [(69, _)]) (m₀ := _) ⟨rfl, rfl, rfl, rfl, rfl, rfl, rfl, rfl, trivial⟩ ⟨v14, og14, v15, og15, v16, og16, 0, rfl, rfl, (UpdL.refl _ _), osE ho14 (by (obtain rfl : j = xa2.length := (by omega)); rfl), OgR.refl _ _, osE ho15 (by rfl), OgR.refl _ _, osE ho16 (by rfl), OgR.refl _ _, bxE hb10 (by first | rfl | rw [rgI_len]), hd14_15, hd14_16, hd15_16, (by first | omega | rfl | (simp; done) | assumption | (simp_all; done))⟩ ?_
  rintro _ wl3 _ ⟨v20, og20, v21, og21, v22, og22, i, rfl, rfl, hU2, ho20, ha20, ho21, ha21, ho22, ha22, hb10, hd20_21, hd20_22, hd21_22, hi⟩
  have hb1 := hb1.loop hU2 ⟨hd1_14, hd1_15, hd1_16, hd1_10, trivial⟩
  have hb2 := hb2.loop hU2 ⟨hd2_14, hd2_15, hd2_16, hd2_10, trivial⟩
  have ho3 := ho3.loop hU2 ⟨hd3_14, hd3_15, hd3_16, hd3_10, trivial⟩
  have ho4 := ho4.loop hU2 ⟨hd4_14, hd4_15, hd4_16, hd4_10, trivial⟩
  have ho6 := ho6.loop hU2 ⟨hd6_14, hd6_15, hd6_16, hd6_10, trivial⟩
  have hl20 := Lo.ogr hl14 hB ha20
  have hg2_20 := ha20
  have hk2_20 : OkB [og14, og15, og16, (some b10.block)] wl2 og20 := OkB.ogr (OkB.mem (by simp)) (Nat.le_refl _) ha20
  have hd1_20 := Dj.ogr hd1_14 hlt1 ha20
  have hd2_20 := Dj.ogr hd2_14 hlt2 ha20
  have hd3_20 := Dj.ogr hd3_14 hlt3 ha20
  have hd4_20 := Dj.ogr hd4_14 hlt4 ha20
  have hd6_20 := Dj.ogr hd6_14 hlt6 ha20
  have hd10_20 := Dj.ogr hd10_14 hlt10 ha20
  have hl21 := Lo.ogr hl15 hB ha21
  have hg2_21 := ha21
  have hk2_21 : OkB [og14, og15, og16, (some b10.block)] wl2 og21 := OkB.ogr (OkB.mem (by simp)) (Nat.le_refl _) ha21
  have hd1_21 := Dj.ogr hd1_15 hlt1 ha21
  have hd2_21 := Dj.ogr hd2_15 hlt2 ha21
  have hd3_21 := Dj.ogr hd3_15 hlt3 ha21
  have hd4_21 := Dj.ogr hd4_15 hlt4 ha21
  have hd6_21 := Dj.ogr hd6_15 hlt6 ha21
  have hd10_21 := Dj.ogr hd10_15 hlt10 ha21
  have hl22 := Lo.ogr hl16 hB ha22
  have hg2_22 := ha22
  have hk2_22 : OkB [og14, og15, og16, (some b10.block)] wl2 og22 := OkB.ogr (OkB.mem (by simp)) (Nat.le_refl _) ha22
  have hd1_22 := Dj.ogr hd1_16 hlt1 ha22
  have hd2_22 := Dj.ogr hd2_16 hlt2 ha22
  have hd3_22 := Dj.ogr hd3_16 hlt3 ha22
  have hd4_22 := Dj.ogr hd4_16 hlt4 ha22
  have hd6_22 := Dj.ogr hd6_16 hlt6 ha22
  have hd10_22 := Dj.ogr hd10_16 hlt10 ha22
  have hk2_10 : OkB [og14, og15, og16, (some b10.block)] wl2 (some b10.block) := OkB.mem (by simp)
  have hB := hB.loop hU2 ⟨hl14, hl15, hl16, hl10, trivial⟩
  refine CW.seq ?_
  refine CW.reg ?_
  refine WL.pure rfl rfl rfl (PV.lss rfl rfl) ?_
  refine WL.nilS ?_
  refine CW.seq ?_
  refine CW.cond rfl (fun hc5 => ?_) (fun hc5 => ?_)
  · skip
    try simp only [nq] at hc5
    refine CW.skipS ?_
    refine CW.seq ?_
    refine CW.block ?_
    refine CW.seq ?_
    refine CW.reg ?_
    first
      | refine WL.atO (x := .tmp 67) (y := .tmp 69) (f := VI) (0) rfl rfl ho6 (by first | omega | (simp only [List.length_set]; omega) | (simp only [List.length_append, List.length_take, List.length_replicate, List.length_drop]; omega)) (fun p4 hpp4 hcp4 => ?_)
      | refine WL.atOZ (x := .tmp 67) (y := .tmp 69) (f := VI) (0) rfl rfl ho6 (by first | omega | (simp only [List.length_set]; omega) | (simp only [List.length_append, List.length_take, List.length_replicate, List.length_drop]; omega)) (fun p4 hpp4 hzp4 hcp4 => ?_)
    refine WL.pure rfl rfl rfl ((by first | exact PV.indexAddr hpp4 rfl rfl T.sl28 | exact PV.indexAddr hpp4 rfl (by rw [← hzp4]; rfl) T.sl28)) ?_
    refine WL.pure rfl rfl rfl ((by first | exact PV.load0 T.na2 rfl (by first | exact Cells.up (by assumption) hB | exact Bx.cells (by assumption) | assumption) (Ext.refl _) rfl | exact PV.load1 T.na2 rfl (by first | exact Cells.up (by assumption) hB | exact Bx.cells (by assumption) | assumption) (Ext.refl _) rfl)) ?_
    refine WL.asg rfl rfl ?_
    refine WL.nilS ?_
    refine CW.seq ?_
    refine CW.draw T.mixed (by kernel_rfl) (fun _ _ _ _ _ h => h) (fun w8 w9 => Upd og22 w8 w9) 10 (.take 0 (.take 1 (.take 2 (.take 3 (.take 4 (.take 5 (.take 6 (.must 7 (.must 8 (.take 9 (.must 10 .done))))))))))) (by kernel_rfl) (fun w19 hXd => ?_)
    have hB := hB.trans hXd
    have hb1 := hb1.up hXd
    have hb2 := hb2.up hXd
    have ho3 := ho3.up hXd
    have ho4 := ho4.up hXd
    have ho6 := ho6.up hXd
    have hb10 := hb10.up hXd
    have ho20 := ho20.up hXd
    have ho21 := ho21.up hXd
    have ho22 := ho22.up hXd
    have hU2 := hU2.ext hXd
    have hBr := hB
    have hS : Upd og22 w19 w19 := Ext.toUpd (Ext.refl _)
    have hs1 := mb_rng hF0 (cl := (clsF a0 xa4 xa3 (foundL a0 xa3 xa2))) (x := i) (by omega); have hel := enL_len (en := xa4) ((mbF (clsF a0 xa4 xa3 (foundL a0 xa3 xa2)) (foundL a0 xa3 xa2) (foundL a0 xa3 xa2).length).take i); have htk := List.length_take (i := i) (l := (mbF (clsF a0 xa4 xa3 (foundL a0 xa3 xa2)) (foundL a0 xa3 xa2) (foundL a0 xa3 xa2).length))
    refine HP.take rfl rfl rfl rfl hS (fun wS hS1 => PV.fieldAddr T.fl72_4 rfl hb10.cells) ?_
    refine HP.take rfl rfl rfl rfl hS (fun wS hS1 => PV.load1 T.na62 rfl (Bx.cells (Bx.updD (by assumption) hS1 (by first | assumption | exact Dj.symm (by assumption)))) (Ext.refl _) rfl) ?_
    refine HP.take rfl rfl rfl rfl hS (fun wS hS1 => PV.fieldAddr T.fl72_4 rfl hb1.cells) ?_
    refine HP.take rfl rfl rfl rfl hS (fun wS hS1 => PV.load1 T.na62 rfl (Bx.cells (Bx.updD (by assumption) hS1 (by first | assumption | exact Dj.symm (by assumption)))) (Ext.refl _) rfl) ?_
    refine HP.take rfl rfl rfl rfl hS (fun wS hS1 => PV.move rfl) ?_
    first
      | refine HP.at (x := .tmp 76) (y := .tmp 77) (E := EB) (false) rfl rfl (by first | assumption | exact Inn.rd (by assumption) (by omega)) (by first | omega | (simp only [List.length_set]; omega) | (simp only [List.length_append, List.length_take, List.length_replicate, List.length_drop]; omega)) (fun p5 csp5 hpp5 hcp5 hq => ?_)
      | refine HP.atZ (x := .tmp 76) (y := .tmp 77) (E := EB) (false) rfl rfl (by first | assumption | exact Inn.rd (by assumption) (by omega)) (by first | omega | (simp only [List.length_set]; omega) | (simp only [List.length_append, List.length_take, List.length_replicate, List.length_drop]; omega)) (fun p5 csp5 hpp5 hzp5 hcp5 hq => ?_)
    cases hq
    refine HP.take rfl rfl rfl rfl hS (fun wS hS1 => (by first | exact PV.indexAddr hpp5 rfl rfl T.sl62 | exact PV.indexAddr hpp5 rfl (by rw [← hzp5]; rfl) T.sl62)) ?_
    refine HP.take rfl rfl rfl rfl hS (fun wS hS1 => (by first | exact PV.load0 T.na4 rfl (by first | exact Cells.up (by assumption) (hBr.updL hS1 hl22) | exact Bx.cells (Bx.updD (by assumption) hS1 (by first | assumption | exact Dj.symm (by assumption))) | exact Cells.upd (by assumption) hS1 (by simp)) (Ext.refl _) rfl | exact PV.load1 T.na4 rfl (by first | exact Cells.up (by assumption) (hBr.updL hS1 hl22) | exact Bx.cells (Bx.updD (by assumption) hS1 (by first | assumption | exact Dj.symm (by assumption))) | exact Cells.upd (by assumption) hS1 (by simp)) (Ext.refl _) rfl)) ?_
    refine HP.must rfl rfl (OpK.buildS VB (os := [.tmp 79]) [_] rfl T.sl62 rfl rfl T.zv4 rfl (by intro z hz; first | rfl | (simp only [List.mem_cons, List.not_mem_nil, or_false] at hz; subst hz; exact (by first | exact Rd.cells1 (by assumption) | exact Osl.cells1 (by assumption) | exact Osn.cells1 (by assumption) | exact Rd.cells1 (NL.rd (by assumption)) | exact Inn.cell1 (by assumption) (by omega) | assumption | rfl))) rfl (fun v24 g24 w20 hXw20 ho24 hge24 => ?_))
    have hl24 := Lo.new hB hge24
    have hd1_24 := Dj.new hb1.ltO hge24
    have hd2_24 := Dj.new hb2.ltO hge24
    have hd3_24 := Dj.new ho3.ltO hge24
    have hd4_24 := Dj.new ho4.ltO hge24
    have hd6_24 := Dj.new ho6.ltO hge24
    have hd10_24 := Dj.new hb10.ltO hge24
    have hd20_24 := Dj.new ho20.ltO hge24
    have hd21_24 := Dj.new ho21.ltO hge24
    have hd22_24 := Dj.new ho22.ltO hge24
    have hk2_24 := OkN.new hU2 hge24
    have hg2_24 := OgR.new hU2.size hge24
    refine ⟨Upd.trans hS (Ext.toUpd hXw20), ?_⟩
    have hS := Upd.trans hS (Ext.toUpd hXw20)
    have hB := hB.trans hXw20
    have hb1 := hb1.up hXw20
    have hb2 := hb2.up hXw20
    have ho3 := ho3.up hXw20
    have ho4 := ho4.up hXw20
    have ho6 := ho6.up hXw20
    have hb10 := hb10.up hXw20
    have ho20 := ho20.up hXw20
    have ho21 := ho21.up hXw20
    have ho22 := ho22.up hXw20
    have hU2 := hU2.ext hXw20
    refine HP.must rfl rfl (OpK.appendS (f := VB) rfl T.sl62 T.zv4 rfl rfl ho22 rfl (Osl.src ho24 (fun _ => rfl)) (by first | (simp only [List.length_cons, List.length_nil]; omega) | (simp only [List.length_append, List.length_cons, List.length_nil]; omega)) (fun v25 og25 w21 hXw21 ho25 hap25 => ?_))
    have hl25 := Lo.app hl22 hB hap25
    have hd1_25 := Dj.app hd1_22 hb1.ltO hap25
    have hd2_25 := Dj.app hd2_22 hb2.ltO hap25
    have hd3_25 := Dj.app hd3_22 ho3.ltO hap25
    have hd4_25 := Dj.app hd4_22 ho4.ltO hap25
    have hd6_25 := Dj.app hd6_22 ho6.ltO hap25
    have hd10_25 := Dj.app hd10_22 hb10.ltO hap25
    have hd20_25 := Dj.app hd20_22 ho20.ltO hap25
    have hd21_25 := Dj.app hd21_22 ho21.ltO hap25
    have hd24_25 := Dj.app (Dj.symm hd22_24) ho24.ltO hap25
    have hk2_25 := OkN.app hU2 hk2_22 hap25
    have hg2_25 := OgR.app hg2_22 hU2.size hap25
    refine ⟨Upd.trans hS hXw21, ?_⟩
    have hS := Upd.trans hS hXw21
    have hB := hB.updL hXw21 hl22
    have hb1 := hb1.updD hXw21 hd1_22
    have hb2 := hb2.updD hXw21 hd2_22
    have ho3 := ho3.updD hXw21 hd3_22
    have ho4 := ho4.updD hXw21 hd4_22
    have ho6 := ho6.updD hXw21 hd6_22
    have hb10 := hb10.updD hXw21 hd10_22
    have ho20 := ho20.updD hXw21 hd20_22
    have ho21 := ho21.updD hXw21 hd21_22
    have ho24 := ho24.updD hXw21 (Dj.symm hd22_24)
    have hU2 := hU2.step hXw21 hk2_22
    refine HP.take rfl rfl rfl rfl hS (fun wS hS1 => PV.fieldAddr T.fl72_4 rfl hb10.cells) ?_
    refine HP.last rfl rfl (OpK.storeB T.sz62 rfl rfl (by first | rfl | exact Inn.one1 (by assumption) (by omega) | exact Osl.oneCell (by assumption) | exact Osn.oneCell (by assumption) | exact Rd.oneCell (by assumption) | exact Rd.oneCell (NL.rd (by assumption)) | assumption) hb10 rfl (fun w22 hXw22 hb10 => ?_))
    have hB := hB.updL hXw22 hl10
    have hb1 := hb1.updD hXw22 hd1_10
    have hb2 := hb2.updD hXw22 hd2_10
    have ho3 := ho3.updD hXw22 hd3_10
    have ho4 := ho4.updD hXw22 hd4_10
    have ho6 := ho6.updD hXw22 hd6_10
    have ho20 := ho20.updD hXw22 (Dj.symm hd10_20)
    have ho21 := ho21.updD hXw22 (Dj.symm hd10_21)
    have ho24 := ho24.updD hXw22 (Dj.symm hd10_24)
    have ho25 := ho25.updD hXw22 (Dj.symm hd10_25)
    have hU2 := hU2.step hXw22 hk2_10
    refine HP.doneS ?_
    refine CW.seq ?_
    refine CW.reg ?_
    refine WL.mv rfl rfl ?_
    refine WL.pure rfl rfl rfl ((PV.lenOs rfl ho6 T.sl28)) ?_
    refine WL.mv rfl rfl ?_
    refine WL.nilS ?_
    refine CW.block ?_
    have hlt1 := hb1.ltO
    have hlt2 := hb2.ltO
    have hlt3 := ho3.ltO
    have hlt4 := ho4.ltO
    have hlt6 := ho6.ltO
    have hlt10 := hb10.ltO
    have hlt20 := ho20.ltO
    have hlt21 := ho21.ltO
    have hlt24 := ho24.ltO
    have hlt25 := ho25.ltO
    refine CW.loop (σk := [(1, _), (2, _), (5, _), (6, _), (9, _), (12, _), (67, _), (68, _), (69, _), (83, _), (84, _)]) (fun ρ wz m => ∃ (v26 : Value) (og26 : Option Nat) (v27 : Value) (og27 : Option Nat) (v28 : Value) (og28 : Option Nat) (y : Nat), ρ = [(85, .int .i64 (y : Nat))] ∧ m = (mbF (clsF a0 xa4 xa3 (foundL a0 xa3 xa2)) (foundL a0 xa3 xa2) (foundL a0 xa3 xa2).length).length - y ∧ UpdL [og20, og21, og25, (some b10.block)] w22 wz ∧ Osl VI wz og26 v26 (mpL (clsF a0 xa4 xa3 (foundL a0 xa3 xa2)) (xa2.take xa2.length)) ∧ OgR w22 og20 og26 ∧ Osl VI wz og27 v27 (nxL a0 xa3 (clsF a0 xa4 xa3 (foundL a0 xa3 xa2)) (mbF (clsF a0 xa4 xa3 (foundL a0 xa3 xa2)) (foundL a0 xa3 xa2) (foundL a0 xa3 xa2).length) ((mbF (clsF a0 xa4 xa3 (foundL a0 xa3 xa2)) (foundL a0 xa3 xa2) (foundL a0 xa3 xa2).length).take i) ++ rwL a0 xa3 (clsF a0 xa4 xa3 (foundL a0 xa3 xa2)) ((mbF (clsF a0 xa4 xa3 (foundL a0 xa3 xa2)) (foundL a0 xa3 xa2) (foundL a0 xa3 xa2).length).take y) ((mbF (clsF a0 xa4 xa3 (foundL a0 xa3 xa2)) (foundL a0 xa3 xa2) (foundL a0 xa3 xa2).length).getD i 0)) ∧ OgR w22 og21 og27 ∧ Osl VB wz og28 v28 (enL xa4 ((mbF (clsF a0 xa4 xa3 (foundL a0 xa3 xa2)) (foundL a0 xa3 xa2) (foundL a0 xa3 xa2).length).take (i + 1))) ∧ OgR w22 og25 og28 ∧ Bx wz b10 [.int .i64 ((mbF (clsF a0 xa4 xa3 (foundL a0 xa3 xa2)) (foundL a0 xa3 xa2) (foundL a0 xa3 xa2).length).length : Nat), .int .i64 a1, v26, v27, v28] ∧ Dj og26 og27 ∧ Dj og26 og28 ∧ Dj og27 og28 ∧ (y ≤ (mbF (clsF a0 xa4 xa3 (foundL a0 xa3 xa2)) (foundL a0 xa3 xa2) (foundL a0 xa3 xa2).length).length)) (ρ₀ := [(85, _)]) (m₀ := _) ⟨rfl, rfl, rfl, rfl, rfl, rfl, rfl, rfl, rfl, rfl, rfl, rfl, trivial⟩ ⟨v20, og20, v21, og21, v25, og25, 0, rfl, rfl, (UpdL.refl _ _), osE ho20 (by rfl), OgR.refl _ _, osE ho21 (by exact (List.append_nil _).symm), OgR.refl _ _, osE ho25 (by exact enL_put (by omega)), OgR.refl _ _, bxE hb10 (by first | rfl | rw [rgI_len]), hd20_21, hd20_25, hd21_25, (by first | omega | rfl | (simp; done) | assumption | (simp_all; done))⟩ ?_
    rintro _ wl4 _ ⟨v26, og26, v27, og27, v28, og28, y, rfl, rfl, hU3, ho26, ha26, ho27, ha27, ho28, ha28, hb10, hd26_27, hd26_28, hd27_28, hy⟩
    have hU2 := hU2.trans hU3 ⟨hk2_20, hk2_21, hk2_25, hk2_10, trivial⟩
    have hb1 := hb1.loop hU3 ⟨hd1_20, hd1_21, hd1_25, hd1_10, trivial⟩
    have hb2 := hb2.loop hU3 ⟨hd2_20, hd2_21, hd2_25, hd2_10, trivial⟩
    have ho3 := ho3.loop hU3 ⟨hd3_20, hd3_21, hd3_25, hd3_10, trivial⟩
    have ho4 := ho4.loop hU3 ⟨hd4_20, hd4_21, hd4_25, hd4_10, trivial⟩
    have ho6 := ho6.loop hU3 ⟨hd6_20, hd6_21, hd6_25, hd6_10, trivial⟩
    have ho24 := ho24.loop hU3 ⟨(Dj.symm hd20_24), (Dj.symm hd21_24), hd24_25, (Dj.symm hd10_24), trivial⟩
    have hl26 := Lo.ogr hl20 hB ha26
    have hg3_26 := ha26
    have hk3_26 : OkB [og20, og21, og25, (some b10.block)] w22 og26 := OkB.ogr (OkB.mem (by simp)) (Nat.le_refl _) ha26
    have hk2_26 := OkB.ogr hk2_20 (by first | assumption | exact UpdL.size (by assumption)) ha26
    have hg2_26 := OgR.trans hg2_20 (by first | assumption | exact UpdL.size (by assumption)) ha26
    have hd1_26 := Dj.ogr hd1_20 hlt1 ha26
    have hd2_26 := Dj.ogr hd2_20 hlt2 ha26
    have hd3_26 := Dj.ogr hd3_20 hlt3 ha26
    have hd4_26 := Dj.ogr hd4_20 hlt4 ha26
    have hd6_26 := Dj.ogr hd6_20 hlt6 ha26
    have hd10_26 := Dj.ogr hd10_20 hlt10 ha26
    have hd24_26 := Dj.ogr (Dj.symm hd20_24) hlt24 ha26
    have hl27 := Lo.ogr hl21 hB ha27
    have hg3_27 := ha27
    have hk3_27 : OkB [og20, og21, og25, (some b10.block)] w22 og27 := OkB.ogr (OkB.mem (by simp)) (Nat.le_refl _) ha27
    have hk2_27 := OkB.ogr hk2_21 (by first | assumption | exact UpdL.size (by assumption)) ha27
    have hg2_27 := OgR.trans hg2_21 (by first | assumption | exact UpdL.size (by assumption)) ha27
    have hd1_27 := Dj.ogr hd1_21 hlt1 ha27
    have hd2_27 := Dj.ogr hd2_21 hlt2 ha27
    have hd3_27 := Dj.ogr hd3_21 hlt3 ha27
    have hd4_27 := Dj.ogr hd4_21 hlt4 ha27
    have hd6_27 := Dj.ogr hd6_21 hlt6 ha27
    have hd10_27 := Dj.ogr hd10_21 hlt10 ha27
    have hd24_27 := Dj.ogr (Dj.symm hd21_24) hlt24 ha27
    have hl28 := Lo.ogr hl25 hB ha28
    have hg3_28 := ha28
    have hk3_28 : OkB [og20, og21, og25, (some b10.block)] w22 og28 := OkB.ogr (OkB.mem (by simp)) (Nat.le_refl _) ha28
    have hk2_28 := OkB.ogr hk2_25 (by first | assumption | exact UpdL.size (by assumption)) ha28
    have hg2_28 := OgR.trans hg2_25 (by first | assumption | exact UpdL.size (by assumption)) ha28
    have hd1_28 := Dj.ogr hd1_25 hlt1 ha28
    have hd2_28 := Dj.ogr hd2_25 hlt2 ha28
    have hd3_28 := Dj.ogr hd3_25 hlt3 ha28
    have hd4_28 := Dj.ogr hd4_25 hlt4 ha28
    have hd6_28 := Dj.ogr hd6_25 hlt6 ha28
    have hd10_28 := Dj.ogr hd10_25 hlt10 ha28
    have hd24_28 := Dj.ogr hd24_25 hlt24 ha28
    have hk3_10 : OkB [og20, og21, og25, (some b10.block)] w22 (some b10.block) := OkB.mem (by simp)
    have hB := hB.loop hU3 ⟨hl20, hl21, hl25, hl10, trivial⟩
    refine CW.seq ?_
    refine CW.reg ?_
    refine WL.pure rfl rfl rfl (PV.lss rfl rfl) ?_
    refine WL.nilS ?_
    refine CW.seq ?_
    refine CW.cond rfl (fun hc6 => ?_) (fun hc6 => ?_)
    · skip
      try simp only [nq] at hc6
      refine CW.skipS ?_
      refine CW.seq ?_
      refine CW.block ?_
      refine CW.seq ?_
      refine CW.reg ?_
      first
        | refine WL.atO (x := .tmp 83) (y := .tmp 85) (f := VI) (0) rfl rfl ho6 (by first | omega | (simp only [List.length_set]; omega) | (simp only [List.length_append, List.length_take, List.length_replicate, List.length_drop]; omega)) (fun p6 hpp6 hcp6 => ?_)
        | refine WL.atOZ (x := .tmp 83) (y := .tmp 85) (f := VI) (0) rfl rfl ho6 (by first | omega | (simp only [List.length_set]; omega) | (simp only [List.length_append, List.length_take, List.length_replicate, List.length_drop]; omega)) (fun p6 hpp6 hzp6 hcp6 => ?_)
      refine WL.pure rfl rfl rfl ((by first | exact PV.indexAddr hpp6 rfl rfl T.sl28 | exact PV.indexAddr hpp6 rfl (by rw [← hzp6]; rfl) T.sl28)) ?_
      refine WL.pure rfl rfl rfl ((by first | exact PV.load0 T.na2 rfl (by first | exact Cells.up (by assumption) hB | exact Bx.cells (by assumption) | assumption) (Ext.refl _) rfl | exact PV.load1 T.na2 rfl (by first | exact Cells.up (by assumption) hB | exact Bx.cells (by assumption) | assumption) (Ext.refl _) rfl)) ?_
      refine WL.asg rfl rfl ?_
      refine WL.nilS ?_
      refine CW.draw T.mixed (by kernel_rfl) (fun _ _ _ _ _ h => h) (fun w8 w9 => Upd og27 w8 w9) 12 (.take 0 (.take 1 (.take 2 (.take 3 (.take 4 (.take 5 (.must 6 (.must 7 (.must 8 (.must 9 (.must 10 (.take 11 (.must 12 .done))))))))))))) (by kernel_rfl) (fun w23 hXd => ?_)
      have hB := hB.trans hXd
      have hb1 := hb1.up hXd
      have hb2 := hb2.up hXd
      have ho3 := ho3.up hXd
      have ho4 := ho4.up hXd
      have ho6 := ho6.up hXd
      have hb10 := hb10.up hXd
      have ho24 := ho24.up hXd
      have ho26 := ho26.up hXd
      have ho27 := ho27.up hXd
      have ho28 := ho28.up hXd
      have hU2 := hU2.ext hXd
      have hU3 := hU3.ext hXd
      have hBr := hB
      have hS : Upd og27 w23 w23 := Ext.toUpd (Ext.refl _)
      have hs1 := mb_rng hF0 (cl := (clsF a0 xa4 xa3 (foundL a0 xa3 xa2))) (x := i) (by omega); have hs2 := mb_rng hF0 (cl := (clsF a0 xa4 xa3 (foundL a0 xa3 xa2))) (x := y) (by omega); have hjn := tv.join hs1 hs2; have hnl := nxL_le (a0 := a0) (nx := xa3) (cl := (clsF a0 xa4 xa3 (foundL a0 xa3 xa2))) (mb := (mbF (clsF a0 xa4 xa3 (foundL a0 xa3 xa2)) (foundL a0 xa3 xa2) (foundL a0 xa3 xa2).length)) (by omega) i; have hrl := rwL_len (a0 := a0) (nx := xa3) (cl := (clsF a0 xa4 xa3 (foundL a0 xa3 xa2))) ((mbF (clsF a0 xa4 xa3 (foundL a0 xa3 xa2)) (foundL a0 xa3 xa2) (foundL a0 xa3 xa2).length).take y) ((mbF (clsF a0 xa4 xa3 (foundL a0 xa3 xa2)) (foundL a0 xa3 xa2) (foundL a0 xa3 xa2).length).getD i 0); have htk := List.length_take (i := y) (l := (mbF (clsF a0 xa4 xa3 (foundL a0 xa3 xa2)) (foundL a0 xa3 xa2) (foundL a0 xa3 xa2).length))
      refine HP.take rfl rfl rfl rfl hS (fun wS hS1 => PV.fieldAddr T.fl72_3 rfl hb10.cells) ?_
      refine HP.take rfl rfl rfl rfl hS (fun wS hS1 => PV.load1 T.na28 rfl (Bx.cells (Bx.updD (by assumption) hS1 (by first | assumption | exact Dj.symm (by assumption)))) (Ext.refl _) rfl) ?_
      refine HP.take rfl rfl rfl rfl hS (fun wS hS1 => PV.move rfl) ?_
      refine HP.take rfl rfl rfl rfl hS (fun wS hS1 => PV.loadA T.ag72 rfl (Bx.cells (Bx.updD (by assumption) hS1 (by first | assumption | exact Dj.symm (by assumption)))) (Ext.refl _) rfl) ?_
      refine HP.take rfl rfl rfl rfl hS (fun wS hS1 => PV.move rfl) ?_
      refine HP.take rfl rfl rfl rfl hS (fun wS hS1 => PV.move rfl) ?_
      refine HP.must rfl rfl (OpK.callR rfl T.cf138 rfl (c_impl_TreeMachine_join (by first | assumption | exact Rd.up (by assumption) hB | exact Osl.rd (by assumption) | exact Osn.rdR (by assumption) | exact NL.rd (by assumption) | exact rdII (by assumption) (by assumption) | exact Inn.rd (by assumption) (by omega)) (by first | assumption | exact Rd.up (by assumption) hB | exact Osl.rd (by assumption) | exact Osn.rdR (by assumption) | exact NL.rd (by assumption) | exact rdII (by assumption) (by assumption) | exact Inn.rd (by assumption) (by omega)) (by first | assumption | exact Rd.up (by assumption) hB | exact Osl.rd (by assumption) | exact Osn.rdR (by assumption) | exact NL.rd (by assumption) | exact rdII (by assumption) (by assumption) | exact Inn.rd (by assumption) (by omega)) (by first | assumption | omega | (simp only [marks_len, marksB_len, marksR_len]; omega)) (by first | assumption | omega | (simp only [marks_len, marksB_len, marksR_len]; omega)) (by first | assumption | omega | (simp only [marks_len, marksB_len, marksR_len]; omega)) (by first | assumption | omega | (simp only [marks_len, marksB_len, marksR_len]; omega))) (fun w24 hXw24 => ?_))
      refine ⟨Upd.trans hS (Ext.toUpd hXw24), ?_⟩
      have hS := Upd.trans hS (Ext.toUpd hXw24)
      have hB := hB.trans hXw24
      have hb1 := hb1.up hXw24
      have hb2 := hb2.up hXw24
      have ho3 := ho3.up hXw24
      have ho4 := ho4.up hXw24
      have ho6 := ho6.up hXw24
      have hb10 := hb10.up hXw24
      have ho24 := ho24.up hXw24
      have ho26 := ho26.up hXw24
      have ho27 := ho27.up hXw24
      have ho28 := ho28.up hXw24
      have hU2 := hU2.ext hXw24
      have hU3 := hU3.ext hXw24
      first
        | refine HP.atO (wb := w24) (x := .tmp 91) (y := .tmp 95) (f := VI) (0) rfl rfl ho4 (by first | omega | (simp only [List.length_set]; omega) | (simp only [List.length_append, List.length_take, List.length_replicate, List.length_drop]; omega)) (fun p7 hpp7 hcp7 => ?_)
        | refine HP.atOZ (wb := w24) (x := .tmp 91) (y := .tmp 95) (f := VI) (0) rfl rfl ho4 (by first | omega | (simp only [List.length_set]; omega) | (simp only [List.length_append, List.length_take, List.length_replicate, List.length_drop]; omega)) (fun p7 hpp7 hzp7 hcp7 => ?_)
      refine HP.must rfl rfl (OpK.pure rfl rfl ((by first | exact PV.indexAddr hpp7 rfl rfl T.sl28 | exact PV.indexAddr hpp7 rfl (by rw [← hzp7]; rfl) T.sl28)) ⟨hS, ?_⟩)
      refine HP.must rfl rfl (OpK.pure rfl rfl ((by first | exact PV.load0 T.na2 rfl (by first | exact Cells.up (by assumption) hB | exact Bx.cells (by assumption) | assumption) (Ext.refl _) rfl | exact PV.load1 T.na2 rfl (by first | exact Cells.up (by assumption) hB | exact Bx.cells (by assumption) | assumption) (Ext.refl _) rfl)) ⟨hS, ?_⟩)
      refine HP.must rfl rfl (OpK.buildS VI (os := [.tmp 97]) [_] rfl T.sl28 rfl rfl T.zv2 rfl (by intro z hz; first | rfl | (simp only [List.mem_cons, List.not_mem_nil, or_false] at hz; subst hz; exact (by first | exact Rd.cells1 (by assumption) | exact Osl.cells1 (by assumption) | exact Osn.cells1 (by assumption) | exact Rd.cells1 (NL.rd (by assumption)) | exact Inn.cell1 (by assumption) (by omega) | assumption | rfl))) rfl (fun v30 g30 w25 hXw25 ho30 hge30 => ?_))
      have hl30 := Lo.new hB hge30
      have hd1_30 := Dj.new hb1.ltO hge30
      have hd2_30 := Dj.new hb2.ltO hge30
      have hd3_30 := Dj.new ho3.ltO hge30
      have hd4_30 := Dj.new ho4.ltO hge30
      have hd6_30 := Dj.new ho6.ltO hge30
      have hd10_30 := Dj.new hb10.ltO hge30
      have hd24_30 := Dj.new ho24.ltO hge30
      have hd26_30 := Dj.new ho26.ltO hge30
      have hd27_30 := Dj.new ho27.ltO hge30
      have hd28_30 := Dj.new ho28.ltO hge30
      have hk2_30 := OkN.new hU2 hge30
      have hg2_30 := OgR.new hU2.size hge30
      have hk3_30 := OkN.new hU3 hge30
      have hg3_30 := OgR.new hU3.size hge30
      refine ⟨Upd.trans hS (Ext.toUpd hXw25), ?_⟩
      have hS := Upd.trans hS (Ext.toUpd hXw25)
      have hB := hB.trans hXw25
      have hb1 := hb1.up hXw25
      have hb2 := hb2.up hXw25
      have ho3 := ho3.up hXw25
      have ho4 := ho4.up hXw25
      have ho6 := ho6.up hXw25
      have hb10 := hb10.up hXw25
      have ho24 := ho24.up hXw25
      have ho26 := ho26.up hXw25
      have ho27 := ho27.up hXw25
      have ho28 := ho28.up hXw25
      have hU2 := hU2.ext hXw25
      have hU3 := hU3.ext hXw25
      refine HP.must rfl rfl (OpK.appendS (f := VI) rfl T.sl28 T.zv2 rfl rfl ho27 rfl (Osl.src ho30 (fun _ => rfl)) (by first | (simp only [List.length_cons, List.length_nil]; omega) | (simp only [List.length_append, List.length_cons, List.length_nil]; omega)) (fun v31 og31 w26 hXw26 ho31 hap31 => ?_))
      have hl31 := Lo.app hl27 hB hap31
      have hd1_31 := Dj.app hd1_27 hb1.ltO hap31
      have hd2_31 := Dj.app hd2_27 hb2.ltO hap31
      have hd3_31 := Dj.app hd3_27 ho3.ltO hap31
      have hd4_31 := Dj.app hd4_27 ho4.ltO hap31
      have hd6_31 := Dj.app hd6_27 ho6.ltO hap31
      have hd10_31 := Dj.app hd10_27 hb10.ltO hap31
      have hd24_31 := Dj.app hd24_27 ho24.ltO hap31
      have hd26_31 := Dj.app hd26_27 ho26.ltO hap31
      have hd28_31 := Dj.app (Dj.symm hd27_28) ho28.ltO hap31
      have hd30_31 := Dj.app (Dj.symm hd27_30) ho30.ltO hap31
      have hk2_31 := OkN.app hU2 hk2_27 hap31
      have hg2_31 := OgR.app hg2_27 hU2.size hap31
      have hk3_31 := OkN.app hU3 hk3_27 hap31
      have hg3_31 := OgR.app hg3_27 hU3.size hap31
      refine ⟨Upd.trans hS hXw26, ?_⟩
      have hS := Upd.trans hS hXw26
      have hB := hB.updL hXw26 hl27
      have hb1 := hb1.updD hXw26 hd1_27
      have hb2 := hb2.updD hXw26 hd2_27
      have ho3 := ho3.updD hXw26 hd3_27
      have ho4 := ho4.updD hXw26 hd4_27
      have ho6 := ho6.updD hXw26 hd6_27
      have hb10 := hb10.updD hXw26 hd10_27
      have ho24 := ho24.updD hXw26 hd24_27
      have ho26 := ho26.updD hXw26 hd26_27
      have ho28 := ho28.updD hXw26 (Dj.symm hd27_28)
      have ho30 := ho30.updD hXw26 (Dj.symm hd27_30)
      have hU2 := hU2.step hXw26 hk2_27
      have hU3 := hU3.step hXw26 hk3_27
      refine HP.take rfl rfl rfl rfl hS (fun wS hS1 => PV.fieldAddr T.fl72_3 rfl hb10.cells) ?_
      refine HP.last rfl rfl (OpK.storeB T.sz28 rfl rfl (by first | rfl | exact Inn.one1 (by assumption) (by omega) | exact Osl.oneCell (by assumption) | exact Osn.oneCell (by assumption) | exact Rd.oneCell (by assumption) | exact Rd.oneCell (NL.rd (by assumption)) | assumption) hb10 rfl (fun w27 hXw27 hb10 => ?_))
      have hB := hB.updL hXw27 hl10
      have hb1 := hb1.updD hXw27 hd1_10
      have hb2 := hb2.updD hXw27 hd2_10
      have ho3 := ho3.updD hXw27 hd3_10
      have ho4 := ho4.updD hXw27 hd4_10
      have ho6 := ho6.updD hXw27 hd6_10
      have ho24 := ho24.updD hXw27 (Dj.symm hd10_24)
      have ho26 := ho26.updD hXw27 (Dj.symm hd10_26)
      have ho28 := ho28.updD hXw27 (Dj.symm hd10_28)
      have ho30 := ho30.updD hXw27 (Dj.symm hd10_30)
      have ho31 := ho31.updD hXw27 (Dj.symm hd10_31)
      have hU2 := hU2.step hXw27 hk2_10
      have hU3 := hU3.step hXw27 hk3_10
      refine HP.done ?_
      refine NQ.block ?_
      refine NQ.then ?_
      refine CW.reg ?_
      refine WL.pure rfl rfl rfl (PV.add rfl rfl (by constructor <;> omega)) ?_
      refine WL.mv rfl rfl ?_
      refine WL.nil ?_
      refine NQ.next (ρ := [(85, _)]) ⟨rfl, rfl, rfl, rfl, rfl, rfl, rfl, rfl, rfl, rfl, rfl, rfl, trivial⟩ ?_
      exact ⟨_, ⟨v26, og26, v31, og31, v28, og28, y + 1, rfl, rfl, hU3, osE ho26 (by first | rfl | (simp_all; done) | (simp_all; omega)), (by first | exact hg3_26 | exact OgR.weak hg3_26), osE ho31 (by rw [← rwL_put (by omega), List.append_assoc]), (by first | exact hg3_31 | exact OgR.weak hg3_31), osE ho28 (by first | rfl | (simp_all; done) | (simp_all; omega)), (by first | exact hg3_28 | exact OgR.weak hg3_28), bxE hb10 (by first | rfl | (simp_all; done) | (simp_all; omega)), hd26_31, hd26_28, (Dj.symm hd28_31), (by first | omega | assumption | (simp_all; done) | (simp_all; omega))⟩, by omega⟩
    try simp only [nq] at hc6
    refine CW.exit ?_
    refine XQ.then ?_
    refine XQ.then ?_
    refine XQ.here ?_
    refine NQ.block ?_
    refine NQ.then ?_
    refine CW.reg ?_
    refine WL.pure rfl rfl rfl (PV.add rfl rfl (by constructor <;> omega)) ?_
    refine WL.mv rfl rfl ?_
    refine WL.nil ?_
    refine NQ.next (ρ := [(69, _)]) ⟨rfl, rfl, rfl, rfl, rfl, rfl, rfl, rfl, trivial⟩ ?_
    exact ⟨_, ⟨v26, og26, v27, og27, v28, og28, i + 1, rfl, rfl, hU2, osE ho26 (by first | rfl | (simp_all; done) | (simp_all; omega)), (by first | exact hg2_26 | exact OgR.weak hg2_26), osE ho27 (by (obtain rfl : y = (mbF (clsF a0 xa4 xa3 (foundL a0 xa3 xa2)) (foundL a0 xa3 xa2) (foundL a0 xa3 xa2).length).length := (by omega)); rw [List.take_of_length_le (Nat.le_refl _)]; exact nxL_put (by omega)), (by first | exact hg2_27 | exact OgR.weak hg2_27), osE ho28 (by rfl), (by first | exact hg2_28 | exact OgR.weak hg2_28), bxE hb10 (by first | rfl | (simp_all; done) | (simp_all; omega)), hd26_27, hd26_28, hd27_28, (by first | omega | assumption | (simp_all; done) | (simp_all; omega))⟩, by omega⟩
  try simp only [nq] at hc5
  refine CW.exit ?_
  refine XQ.then ?_
  refine XQ.then ?_
  refine XQ.here ?_
  refine NQ.then ?_
  refine CW.seq ?_
  refine CW.reg ?_
  refine WL.pure rfl rfl rfl (PV.loadA T.ag72 rfl hb10.cells (Ext.refl _) rfl) ?_
  refine WL.op rfl (OpK.storeA T.sz72 rfl rfl rfl rfl (by simp [Value.oneCell'] <;> first | done | (repeat' apply And.intro) <;> first | rfl | exact Inn.one1 (by assumption) (by omega) | exact Osl.oneCell (by assumption) | exact Osn.oneCell (by assumption) | exact Rd.oneCell (by assumption) | exact Rd.oneCell (NL.rd (by assumption)) | assumption) hb2 (fun w28 hXw28 hb2 => ?_))
  have hB := hB.updL hXw28 hl2
  have hb1 := hb1.updD hXw28 hd1_2
  have ho3 := ho3.updD hXw28 (Dj.symm hd2_3)
  have ho4 := ho4.updD hXw28 (Dj.symm hd2_4)
  have ho6 := ho6.updD hXw28 (Dj.symm hd2_6)
  have hb10 := hb10.updD hXw28 (Dj.symm hd2_10)
  have ho20 := ho20.updD hXw28 (Dj.symm hd2_20)
  have ho21 := ho21.updD hXw28 (Dj.symm hd2_21)
  have ho22 := ho22.updD hXw28 (Dj.symm hd2_22)
  refine WL.asg rfl rfl ?_
  refine WL.nilS ?_
  refine CW.ret ?_
  refine RQ.rc1 T.ag72 rfl (by first | exact Cells.up (by assumption) hB | exact Bx.cells (by assumption) | assumption) rfl rfl ?_
  refine ⟨hB, v20, og20, v21, og21, v22, og22, ?_, osE ho20 ?_, hl20, osE ho21 ?_, hl21, osE ho22 ?_, hl22, hd20_21, hd20_22, hd21_22⟩
  · skip
    first | (exact tE2 (by rw [onI_yes (treesB_yes (by assumption)), onI_yes (treesB_yes (by assumption))]) (bE (treesB_yes (by assumption)).symm)) | (exact tE2 (by rw [onI_no (treesB_no (by assumption)), onI_no (treesB_no (by assumption))]) (bE (Bool.eq_false_iff.2 (treesB_no (by assumption))).symm))
  · skip
    first | (rw [onT_no (treesB_no (by assumption))]; done) | (rw [onT_yes (treesB_yes (by assumption)), List.take_of_length_le (by omega)])
  · skip
    first | (rw [onT_no (treesB_no (by assumption))]; done) | (rw [onT_yes (treesB_yes (by assumption)), List.take_of_length_le (by omega)])
  · skip
    first | (rw [onT_no (treesB_no (by assumption))]; done) | (rw [onT_yes (treesB_yes (by assumption)), List.take_of_length_le (by omega)])
theorem c_slices_Clone_int64_int64 {w : World} {va : Value} {xs : List Int} (ha : Rd EI w va xs) (hN : xs.length ≤ 1048576) : Calls Try.prog 141 #[va] w (Ret1 (fun v w' => Ext w w' ∧ ∃ v1 og_v1, v = v1 ∧ Osl VI w' og_v1 v1 (xs) ∧ Lo w og_v1)) := by
  have hB : Ext w w := Ext.refl w
  have hla := ha.leI
  refine callsOf (vs := [_]) Try.func141 rfl Try.ntmps141 rfl rfl ?_
  refine CW.seq ?_
  refine CW.reg ?_
  refine WL.asg rfl rfl ?_
  refine WL.nilS ?_
  refine CW.seq ?_
  refine CW.seq ?_
  refine CW.reg ?_
  refine WL.mv rfl rfl ?_
  refine WL.pure rfl rfl rfl ((by first | exact PV.eqlNil T.sl28 rfl (by assumption) rfl | exact PV.eqlNil T.sl28 rfl (Osl.rd (by assumption)) rfl)) ?_
  refine WL.nilS ?_
  refine CW.cond rfl (fun hc1 => ?_) (fun hc1 => ?_)
  · skip
    try simp only [nq] at hc1
    refine CW.seq ?_
    refine CW.reg ?_
    refine WL.asg rfl rfl ?_
    refine WL.nilS ?_
    refine CW.ret ?_
    refine RQ.then ?_
    refine RQ.r1 rfl ?_
    refine ⟨hB, (.slice none 0 0), none, ?_, osE (Osl.nil _ _) ?_, Lo.nl _⟩
    · skip
      rfl
    · skip
      first | rfl | (simp; done) | exact ((Rd.nil_of ha (by assumption)).1).symm
  try simp only [nq] at hc1
  refine CW.skipS ?_
  refine CW.seq ?_
  refine CW.reg ?_
  refine WL.op rfl (OpK.buildS VI (os := []) [] rfl T.sl28 rfl rfl T.zv2 rfl (by intro z hz; cases hz) rfl (fun v1 g1 w1 hXw1 ho1 hge1 => ?_))
  have hl1 := Lo.new hB hge1
  have hB := hB.trans hXw1
  refine WL.mv rfl rfl ?_
  refine WL.op rfl (OpK.appendS (f := VI) rfl T.sl28 T.zv2 rfl rfl ho1 rfl (Rd.src (by first | assumption | exact Rd.up (by assumption) hB | exact Inn.rd (by assumption) (by omega)) (fun _ => rfl)) (by first | (simp only [List.length_cons, List.length_nil]; omega) | (simp_all; omega)) (fun v2 og2 w2 hXw2 ho2 hap2 => ?_))
  have hl2 := Lo.app hl1 hB hap2
  have hB := hB.updL hXw2 hl1
  refine WL.asg rfl rfl ?_
  refine WL.nilS ?_
  refine CW.ret ?_
  refine RQ.r1 rfl ?_
  refine ⟨hB, v2, og2, ?_, osE ho2 ?_, hl2⟩
  · skip
    rfl
  · skip
    first | rfl | (simp; done) | exact ((Rd.nil_of ha (by assumption)).1).symm

end Go.Proofs.Ythemmoceomdccaa
