/- Walks of the functions that the law FnParses reaches: each says what its function computes. No condition. -/
import Derived.Test.YthemmoceomdccaaProg
import Derived.Test.YthemmoceomdccaaLibM
import Derived.Test.YthemmoceomdccaaPlA
import Derived.Test.YthemmoceomdccaaLibN
import Derived.Test.YthemmoceomdccaaLibO
import Derived.Test.YthemmoceomdccaaLibG2
import Derived.Test.YthemmoceomdccaaPlG
import Derived.Test.YthemmoceomdccaaPlX
import Derived.Test.YthemmoceomdccaaLibR
import Derived.Test.YthemmoceomdccaaPlD
import Derived.Test.YthemmoceomdccaaPlB
import Derived.Test.YthemmoceomdccaaPlH
import Derived.Test.YthemmoceomdccaaPlI
import Derived.Test.YthemmoceomdccaaPlJ
import Derived.Test.YthemmoceomdccaaPlE
import Derived.Test.YthemmoceomdccaaPlC
import Derived.Test.YthemmoceomdccaaPlW
import Derived.Test.YthemmoceomdccaaPlU
import Derived.Test.YthemmoceomdccaaPlY
import Derived.Test.YthemmoceomdccaaPlR
import Derived.Test.YthemmoceomdccaaPlDq
import Derived.Test.YthemmoceomdccaaPlRa
import Derived.Test.YthemmoceomdccaaPlPa
import Derived.Test.YthemmoceomdccaaPlPb
import Derived.Test.YthemmoceomdccaaPlPc
import Derived.Test.YthemmoceomdccaaPlPd
import Derived.Test.YthemmoceomdccaaPlPe
import Derived.Test.YthemmoceomdccaaPlPf
import Derived.Test.YthemmoceomdccaaPlPg
namespace Go.Proofs.Ythemmoceomdccaa.T
open Go Go.WX Go.Proofs

theorem sl42 : slOf Try.prog 42 = some (5, 1, 1) := by kernel_rfl
theorem na5 : naOf Try.prog 5 = true := by kernel_rfl
theorem us5 : (Try.prog.underlying 5).isSome = true := by kernel_rfl
theorem ik2 : ikOf Try.prog 2 = some .i64 := by kernel_rfl
theorem bu216 : buOf Try.prog 216 = some ([.slice none 0 0, .int .i64 0, .int .u64 0], [(0, 1), (1, 1), (2, 1)]) := by kernel_rfl
theorem mixed : Try.prog.follows .mixedOrders = true := by kernel_rfl
theorem fl216_1 : flOf Try.prog 216 1 = some (1, 3, 1) := by kernel_rfl
theorem na3 : naOf Try.prog 3 = true := by kernel_rfl
theorem fl216_0 : flOf Try.prog 216 0 = some (0, 42, 1) := by kernel_rfl
theorem na42 : naOf Try.prog 42 = true := by kernel_rfl
theorem ik3 : ikOf Try.prog 3 = some .i64 := by kernel_rfl
theorem sz3 : szOf Try.prog 3 = some 1 := by kernel_rfl
theorem fl216_2 : flOf Try.prog 216 2 = some (2, 214, 1) := by kernel_rfl
theorem na214 : naOf Try.prog 214 = true := by kernel_rfl
theorem us3 : (Try.prog.underlying 3).isSome = true := by kernel_rfl
theorem ik214 : ikOf Try.prog 214 = some .u64 := by kernel_rfl
theorem sz214 : szOf Try.prog 214 = some 1 := by kernel_rfl
theorem us214 : (Try.prog.underlying 214).isSome = true := by kernel_rfl
theorem cf195 : cfOf Try.prog 195 = true := by kernel_rfl
theorem cf109 : cfOf Try.prog 109 = true := by kernel_rfl
theorem zv33 : zvOf Try.prog 33 = some (.agg #[.int .i64 0, .int .i64 0, .slice none 0 0]) := by kernel_rfl
theorem sl31 : slOf Try.prog 31 = some (56, 4, 32) := by kernel_rfl
theorem zv56 : zvOf Try.prog 56 = some (.agg #[.int .i64 0, .int .i64 0, .int .i64 0, .int .i64 0]) := by kernel_rfl
theorem bu33 : buOf Try.prog 33 = some ([.int .i64 0, .int .i64 0, .slice none 0 0], [(0, 1), (1, 1), (2, 1)]) := by kernel_rfl
theorem sz33 : szOf Try.prog 33 = some 3 := by kernel_rfl
theorem bu56 : buOf Try.prog 56 = some ([.int .i64 0, .int .i64 0, .int .i64 0, .int .i64 0], [(0, 1), (1, 1), (2, 1), (3, 1)]) := by kernel_rfl
theorem sz56 : szOf Try.prog 56 = some 4 := by kernel_rfl
theorem fl56_1 : flOf Try.prog 56 1 = some (1, 2, 1) := by kernel_rfl
theorem sz2 : szOf Try.prog 2 = some 1 := by kernel_rfl
theorem cf194 : cfOf Try.prog 194 = true := by kernel_rfl
theorem fl56_2 : flOf Try.prog 56 2 = some (2, 2, 1) := by kernel_rfl
theorem fl56_3 : flOf Try.prog 56 3 = some (3, 2, 1) := by kernel_rfl
theorem fl33_2 : flOf Try.prog 33 2 = some (2, 31, 1) := by kernel_rfl
theorem na31 : naOf Try.prog 31 = true := by kernel_rfl
theorem ag56 : agOf Try.prog 56 = some 4 := by kernel_rfl
theorem sz31 : szOf Try.prog 31 = some 1 := by kernel_rfl
theorem ag33 : agOf Try.prog 33 = some 3 := by kernel_rfl
theorem cf107 : cfOf Try.prog 107 = true := by kernel_rfl
theorem cf108 : cfOf Try.prog 108 = true := by kernel_rfl
theorem sl28 : slOf Try.prog 28 = some (2, 1, 8) := by kernel_rfl
theorem zv2 : zvOf Try.prog 2 = some (.int .i64 0) := by kernel_rfl
theorem fl33_0 : flOf Try.prog 33 0 = some (0, 2, 1) := by kernel_rfl
theorem na2 : naOf Try.prog 2 = true := by kernel_rfl
theorem cf104 : cfOf Try.prog 104 = true := by kernel_rfl
theorem fl33_1 : flOf Try.prog 33 1 = some (1, 2, 1) := by kernel_rfl
theorem fl56_0 : flOf Try.prog 56 0 = some (0, 2, 1) := by kernel_rfl
theorem cf144 : cfOf Try.prog 144 = true := by kernel_rfl
theorem cf103 : cfOf Try.prog 103 = true := by kernel_rfl
theorem cf124 : cfOf Try.prog 124 = true := by kernel_rfl
theorem na142 : naOf Try.prog 142 = true := by kernel_rfl
theorem ar223 : arOf Try.prog 223 = some (12, 145, 104) := by kernel_rfl
theorem ar145 : arOf Try.prog 145 = some (13, 144, 8) := by kernel_rfl
theorem ar144 : arOf Try.prog 144 = some (8, 4, 1) := by kernel_rfl
theorem na4 : naOf Try.prog 4 = true := by kernel_rfl
theorem sz4 : szOf Try.prog 4 = some 1 := by kernel_rfl
theorem na28 : naOf Try.prog 28 = true := by kernel_rfl
theorem na131 : naOf Try.prog 131 = true := by kernel_rfl
theorem ar220 : arOf Try.prog 220 = some (12, 130, 312) := by kernel_rfl
theorem ar130 : arOf Try.prog 130 = some (13, 129, 24) := by kernel_rfl
theorem ar129 : arOf Try.prog 129 = some (8, 128, 3) := by kernel_rfl
theorem fl128_0 : flOf Try.prog 128 0 = some (0, 2, 1) := by kernel_rfl
theorem bu128 : buOf Try.prog 128 = some ([.int .i64 0, .int .i64 0, .int .i64 0], [(0, 1), (1, 1), (2, 1)]) := by kernel_rfl
theorem sz128 : szOf Try.prog 128 = some 3 := by kernel_rfl
theorem cf197 : cfOf Try.prog 197 = true := by kernel_rfl
theorem na134 : naOf Try.prog 134 = true := by kernel_rfl
theorem ar138 : arOf Try.prog 138 = some (12, 136, 104) := by kernel_rfl
theorem ar136 : arOf Try.prog 136 = some (13, 135, 8) := by kernel_rfl
theorem ar135 : arOf Try.prog 135 = some (8, 2, 1) := by kernel_rfl
theorem cf198 : cfOf Try.prog 198 = true := by kernel_rfl
theorem cf196 : cfOf Try.prog 196 = true := by kernel_rfl
theorem cf114 : cfOf Try.prog 114 = true := by kernel_rfl
theorem az220 : azOf Try.prog 220 = some (List.replicate 3744 (VI 0)) := by kernel_rfl
theorem zv131 : zvOf Try.prog 131 = some (.pointer none) := by kernel_rfl
theorem sz131 : szOf Try.prog 131 = some 1 := by kernel_rfl
theorem cf113 : cfOf Try.prog 113 = true := by kernel_rfl
theorem cf110 : cfOf Try.prog 110 = true := by kernel_rfl
theorem cf111 : cfOf Try.prog 111 = true := by kernel_rfl
theorem ag128 : agOf Try.prog 128 = some 3 := by kernel_rfl
theorem zv128 : zvOf Try.prog 128 = some (.agg #[.int .i64 0, .int .i64 0, .int .i64 0]) := by kernel_rfl
theorem fl128_1 : flOf Try.prog 128 1 = some (1, 3, 1) := by kernel_rfl
theorem fl128_2 : flOf Try.prog 128 2 = some (2, 3, 1) := by kernel_rfl
theorem cf112 : cfOf Try.prog 112 = true := by kernel_rfl
theorem az138 : azOf Try.prog 138 = some (List.replicate 1248 (VI 0)) := by kernel_rfl
theorem zv134 : zvOf Try.prog 134 = some (.pointer none) := by kernel_rfl
theorem sz134 : szOf Try.prog 134 = some 1 := by kernel_rfl
theorem zv4 : zvOf Try.prog 4 = some (.bool false) := by kernel_rfl
theorem az223 : azOf Try.prog 223 = some (List.replicate 1248 (VB false)) := by kernel_rfl
theorem zv142 : zvOf Try.prog 142 = some (.pointer none) := by kernel_rfl
theorem sz142 : szOf Try.prog 142 = some 1 := by kernel_rfl
theorem cf115 : cfOf Try.prog 115 = true := by kernel_rfl
theorem cf116 : cfOf Try.prog 116 = true := by kernel_rfl
theorem cf117 : cfOf Try.prog 117 = true := by kernel_rfl
theorem cf231 : cfOf Try.prog 231 = true := by kernel_rfl
theorem ik251 : ikOf Try.prog 251 = some .u64 := by kernel_rfl
theorem cf229 : cfOf Try.prog 229 = true := by kernel_rfl
theorem us251 : (Try.prog.underlying 251).isSome = true := by kernel_rfl
theorem cf225 : cfOf Try.prog 225 = true := by kernel_rfl
theorem cf199 : cfOf Try.prog 199 = true := by kernel_rfl
theorem cf118 : cfOf Try.prog 118 = true := by kernel_rfl
theorem cf119 : cfOf Try.prog 119 = true := by kernel_rfl
theorem zv28 : zvOf Try.prog 28 = some (.slice none 0 0) := by kernel_rfl
theorem sz28 : szOf Try.prog 28 = some 1 := by kernel_rfl
theorem sl62 : slOf Try.prog 62 = some (4, 1, 1) := by kernel_rfl
theorem cf120 : cfOf Try.prog 120 = true := by kernel_rfl
theorem zv64 : zvOf Try.prog 64 = some (.agg #[.int .i64 0, .int .i64 0, .slice none 0 0, .slice none 0 0]) := by kernel_rfl
theorem bu64 : buOf Try.prog 64 = some ([.int .i64 0, .int .i64 0, .slice none 0 0, .slice none 0 0], [(0, 1), (1, 1), (2, 1), (3, 1)]) := by kernel_rfl
theorem sz64 : szOf Try.prog 64 = some 4 := by kernel_rfl
theorem fl64_2 : flOf Try.prog 64 2 = some (2, 28, 1) := by kernel_rfl
theorem fl64_3 : flOf Try.prog 64 3 = some (3, 62, 1) := by kernel_rfl
theorem na62 : naOf Try.prog 62 = true := by kernel_rfl
theorem sz62 : szOf Try.prog 62 = some 1 := by kernel_rfl
theorem ag64 : agOf Try.prog 64 = some 4 := by kernel_rfl
theorem cf121 : cfOf Try.prog 121 = true := by kernel_rfl
theorem fl64_0 : flOf Try.prog 64 0 = some (0, 2, 1) := by kernel_rfl
theorem fl64_1 : flOf Try.prog 64 1 = some (1, 2, 1) := by kernel_rfl
theorem cf122 : cfOf Try.prog 122 = true := by kernel_rfl
theorem cf123 : cfOf Try.prog 123 = true := by kernel_rfl
theorem cf125 : cfOf Try.prog 125 = true := by kernel_rfl
theorem sl25 : slOf Try.prog 25 = some (28, 1, 24) := by kernel_rfl
theorem cf141 : cfOf Try.prog 141 = true := by kernel_rfl
theorem cf126 : cfOf Try.prog 126 = true := by kernel_rfl
theorem cf26 : cfOf Try.prog 26 = true := by kernel_rfl
theorem cf22 : cfOf Try.prog 22 = true := by kernel_rfl
theorem cf23 : cfOf Try.prog 23 = true := by kernel_rfl
theorem cf24 : cfOf Try.prog 24 = true := by kernel_rfl
theorem cf25 : cfOf Try.prog 25 = true := by kernel_rfl
theorem cf27 : cfOf Try.prog 27 = true := by kernel_rfl
theorem cf28 : cfOf Try.prog 28 = true := by kernel_rfl
theorem cf29 : cfOf Try.prog 29 = true := by kernel_rfl
theorem cf30 : cfOf Try.prog 30 = true := by kernel_rfl
theorem cf31 : cfOf Try.prog 31 = true := by kernel_rfl
theorem bl4 : blOf Try.prog 4 = true := by kernel_rfl
theorem cf32 : cfOf Try.prog 32 = true := by kernel_rfl
theorem cf33 : cfOf Try.prog 33 = true := by kernel_rfl
theorem cf34 : cfOf Try.prog 34 = true := by kernel_rfl
theorem cf35 : cfOf Try.prog 35 = true := by kernel_rfl
theorem cf36 : cfOf Try.prog 36 = true := by kernel_rfl
theorem cf37 : cfOf Try.prog 37 = true := by kernel_rfl
theorem cf38 : cfOf Try.prog 38 = true := by kernel_rfl
theorem cf39 : cfOf Try.prog 39 = true := by kernel_rfl
theorem cf40 : cfOf Try.prog 40 = true := by kernel_rfl
theorem cf41 : cfOf Try.prog 41 = true := by kernel_rfl
theorem cf42 : cfOf Try.prog 42 = true := by kernel_rfl
theorem cf14 : cfOf Try.prog 14 = true := by kernel_rfl

end Go.Proofs.Ythemmoceomdccaa.T
namespace Go.Proofs.Ythemmoceomdccaa
open Go Go.WX Go.Proofs
set_option linter.unusedSimpArgs false
set_option linter.unusedVariables false

theorem c_laws_r8Long {w : World} {va vb : Value} {xs ys : List Int} (ha : Rd EU8 w va xs) (hb : Rd EU8 w vb ys) : Calls Try.prog 22 #[va, vb] w (Ret1 (RQt (.bool (decide (48 < (xs.length : Int) ∨ 48 < (ys.length : Int)))) w)) := by
  have hB : Ext w w := Ext.refl w
  have hla := ha.leI; have hlb := hb.leI
  refine callsOf (vs := [_, _]) Try.func22 rfl Try.ntmps22 rfl rfl ?_
  refine CW.seq ?_
  refine CW.reg ?_
  refine WL.asg rfl rfl ?_
  refine WL.nilS ?_
  refine CW.seq ?_
  refine CW.reg ?_
  refine WL.mv rfl rfl ?_
  refine WL.pure rfl rfl rfl ((by first | exact PV.len rfl (by assumption) T.sl42 | exact PV.lenOs rfl (by assumption) T.sl42 | exact PV.len rfl (NL.rd (by assumption)) T.sl42 | exact PV.len rfl (Inn.rd (by assumption) (by omega)) T.sl42)) ?_
  refine WL.pure rfl rfl rfl (PV.gtr rfl rfl) ?_
  refine WL.mv rfl rfl ?_
  refine WL.split (t := 8) rfl (fun hc1 => ?_) (fun hc1 => ?_)
  · skip
    try simp only [nq] at hc1
    refine WL.skip rfl rfl rfl rfl rfl ?_
    refine WL.skip rfl rfl rfl rfl rfl ?_
    refine WL.skip rfl rfl rfl rfl rfl ?_
    refine WL.pure rfl rfl rfl (PV.pickT rfl rfl) ?_
    refine WL.asg rfl rfl ?_
    refine WL.nilS ?_
    refine CW.ret ?_
    refine RQ.r1 rfl ?_
    refine ⟨?_, hB⟩
    first | rfl | exact bT (by omega) | exact bF (by omega) | exact bD (by omega) | exact iE (by omega) | (simp_all; done) | (simp_all; omega) | (simp_all; intros; omega)
  try simp only [nq] at hc1
  refine WL.pureG rfl rfl rfl rfl rfl (PV.move rfl) ?_
  refine WL.pureG rfl rfl rfl rfl rfl ((by first | exact PV.len rfl (by assumption) T.sl42 | exact PV.lenOs rfl (by assumption) T.sl42 | exact PV.len rfl (NL.rd (by assumption)) T.sl42 | exact PV.len rfl (Inn.rd (by assumption) (by omega)) T.sl42)) ?_
  refine WL.pureG rfl rfl rfl rfl rfl (PV.gtr rfl rfl) ?_
  refine WL.pure rfl rfl rfl (PV.pickF rfl rfl) ?_
  refine WL.asg rfl rfl ?_
  refine WL.nilS ?_
  refine CW.ret ?_
  refine RQ.r1 rfl ?_
  refine ⟨?_, hB⟩
  first | rfl | exact bT (by omega) | exact bF (by omega) | exact bD (by omega) | exact iE (by omega) | (simp_all; done) | (simp_all; omega) | (simp_all; intros; omega)
theorem c_laws_r8At {w : World} {va : Value} {xs : List Int} {i N : Int} (ha : Rd EU8 w va xs) (hg : ∀ x ∈ xs, 0 ≤ x ∧ x ≤ 255) (hi : 0 ≤ i ∧ i ≤ 100 ∧ 2 ≤ N ∧ N ≤ 100) : Calls Try.prog 23 #[va, .int .i64 i, .int .i64 N] w (Ret1 (RQt (.int .i64 (at8 xs i.toNat N)) w)) := by
  have hB : Ext w w := Ext.refl w
  have hla := ha.leI
  refine callsOf (vs := [_, _, _]) Try.func23 rfl Try.ntmps23 rfl rfl ?_
  refine CW.seq ?_
  refine CW.reg ?_
  refine WL.asg rfl rfl ?_
  refine WL.nilS ?_
  refine CW.seq ?_
  refine CW.seq ?_
  refine CW.reg ?_
  refine WL.mv rfl rfl ?_
  refine WL.pure rfl rfl rfl (PV.leq rfl rfl) ?_
  refine WL.mv rfl rfl ?_
  refine WL.split (t := 9) rfl (fun hc1 => ?_) (fun hc1 => ?_)
  · skip
    try simp only [nq] at hc1
    refine WL.skip rfl rfl rfl rfl rfl ?_
    refine WL.skip rfl rfl rfl rfl rfl ?_
    refine WL.skip rfl rfl rfl rfl rfl ?_
    refine WL.skip rfl rfl rfl rfl rfl ?_
    refine WL.pure rfl rfl rfl (PV.pickT rfl rfl) ?_
    refine WL.nilS ?_
    refine CW.condT rfl ?_
    refine CW.seq ?_
    refine CW.reg ?_
    refine WL.asg rfl rfl ?_
    refine WL.nilS ?_
    refine CW.ret ?_
    refine RQ.then ?_
    refine RQ.r1 rfl ?_
    refine ⟨?_, hB⟩
    first | exact iE (by rw [at8, if_neg (by omega)]) | exact iE (by rw [at8, if_pos (by omega)]) | (exfalso; omega)
  try simp only [nq] at hc1
  refine WL.pureG rfl rfl rfl rfl rfl (PV.move rfl) ?_
  refine WL.pureG rfl rfl rfl rfl rfl (PV.move rfl) ?_
  refine WL.pureG rfl rfl rfl rfl rfl ((by first | exact PV.len rfl (by assumption) T.sl42 | exact PV.lenOs rfl (by assumption) T.sl42 | exact PV.len rfl (NL.rd (by assumption)) T.sl42 | exact PV.len rfl (Inn.rd (by assumption) (by omega)) T.sl42)) ?_
  refine WL.pureG rfl rfl rfl rfl rfl (PV.geq rfl rfl) ?_
  refine WL.pure rfl rfl rfl (PV.pickF rfl rfl) ?_
  refine WL.nilS ?_
  refine CW.cond rfl (fun hc2 => ?_) (fun hc2 => ?_)
  · skip
    try simp only [nq] at hc2
    refine CW.seq ?_
    refine CW.reg ?_
    refine WL.asg rfl rfl ?_
    refine WL.nilS ?_
    refine CW.ret ?_
    refine RQ.then ?_
    refine RQ.r1 rfl ?_
    refine ⟨?_, hB⟩
    first | exact iE (by rw [at8, if_neg (by omega)]) | exact iE (by rw [at8, if_pos (by omega)]) | (exfalso; omega)
  try simp only [nq] at hc2
  refine CW.skipS ?_
  refine CW.seq ?_
  refine CW.reg ?_
  have hgx := getD_P hg (i := i.toNat) (by omega)
  refine WL.mv rfl rfl ?_
  refine WL.mv rfl rfl ?_
  first
    | refine WL.at (x := .tmp 15) (y := .tmp 16) (E := EU8) (0) rfl rfl (by first | assumption | exact Inn.rd (by assumption) (by omega)) (by first | omega | (simp only [List.length_set]; omega) | (simp only [List.length_append, List.length_take, List.length_replicate, List.length_drop]; omega)) (fun p1 csp1 hpp1 hcp1 hq => ?_)
    | refine WL.atZ (x := .tmp 15) (y := .tmp 16) (E := EU8) (0) rfl rfl (by first | assumption | exact Inn.rd (by assumption) (by omega)) (by first | omega | (simp only [List.length_set]; omega) | (simp only [List.length_append, List.length_take, List.length_replicate, List.length_drop]; omega)) (fun p1 csp1 hpp1 hzp1 hcp1 hq => ?_)
  cases hq
  refine WL.pure rfl rfl rfl ((by first | exact PV.indexAddr hpp1 rfl rfl T.sl42 | exact PV.indexAddr hpp1 rfl (by rw [← hzp1]; rfl) T.sl42)) ?_
  refine WL.pure rfl rfl rfl ((by first | exact PV.load0 T.na5 rfl (by first | exact Cells.up (by assumption) hB | exact Bx.cells (by assumption) | assumption) (Ext.refl _) rfl | exact PV.load1 T.na5 rfl (by first | exact Cells.up (by assumption) hB | exact Bx.cells (by assumption) | assumption) (Ext.refl _) rfl)) ?_
  refine WL.pure rfl rfl rfl (PV.conv rfl T.us5 T.ik2 (by constructor <;> omega)) ?_
  refine WL.mv rfl rfl ?_
  refine WL.pure rfl rfl rfl (PV.rem rfl rfl (by omega) rfl) ?_
  refine WL.asg rfl rfl ?_
  refine WL.nilS ?_
  refine CW.ret ?_
  refine RQ.r1 rfl ?_
  refine ⟨?_, hB⟩
  first | exact iE (by rw [at8, if_neg (by omega)]) | exact iE (by rw [at8, if_pos (by omega)]) | (exfalso; omega)
theorem c_spec_l00From {w : World} {vc : Value} {bs : List Int} (ha : Rd EU8 w vc bs) : Calls Try.prog 107 #[vc] w (Ret1 (fun v w' => Ext w w' ∧ ∃ p, v = .pointer (some p) ∧ Bx w' p [vc, .int .i64 0, .int .u64 0] ∧ w.heap.size ≤ p.block)) := by
  have hB : Ext w w := Ext.refl w
  refine callsOf (vs := [_]) Try.func107 rfl Try.ntmps107 rfl rfl ?_
  refine CW.seq ?_
  refine CW.reg ?_
  refine WL.asg rfl rfl ?_
  refine WL.nilS ?_
  refine CW.seq ?_
  refine CW.reg ?_
  refine WL.mv rfl rfl ?_
  refine WL.pure rfl rfl rfl (PV.build (ks := [0]) (os := [.tmp 3]) (css := [[_]]) (ds := [_, _, _]) T.bu216 rfl rfl ⟨(by first | exact Rd.cells1 (by assumption) | exact Osl.cells1 (by assumption) | exact Osn.cells1 (by assumption) | exact Rd.cells1 (NL.rd (by assumption)) | exact Inn.cell1 (by assumption) (by omega) | assumption | rfl), trivial⟩ rfl) ?_
  refine WL.op rfl (OpK.box rfl rfl (by first | exact Rd.cells1 (by assumption) | exact Osl.cells1 (by assumption) | exact Osn.cells1 (by assumption) | exact Rd.cells1 (NL.rd (by assumption)) | exact Inn.cell1 (by assumption) (by omega) | assumption | rfl) (fun b1 w1 hXw1 hb1 hge1 => ?_))
  have hl1 := Lo.new hB hge1
  have hB := hB.trans hXw1
  refine WL.asg rfl rfl ?_
  refine WL.nilS ?_
  refine CW.ret ?_
  refine RQ.r1 rfl ?_
  refine ⟨hB, b1, ?_, hb1, (hl1 _ rfl)⟩
  · skip
    rfl
theorem c_spec_l00Src_next {w : World} {b : World} {ps : Addr} {vc : Value} {bs : List Int} {at_ : Nat} {sd : Int}  (hB0 : Ext b w) (htb_ps : Bx w ps [vc, .int .i64 ((at_ : Nat) : Int), .int .u64 sd]) (htl_ps : Lo b (some ps.block)) (ha : Rd EU8 b vc bs) (hg : ∀ x ∈ bs, 0 ≤ x ∧ x ≤ 255) (hat : at_ ≤ 1000000) (hsd : 0 ≤ sd ∧ sd < 18446744073709551616) : Calls Try.prog 195 #[.pointer (some ps)] w (Ret1 (fun v w' => UpdL [some ps.block] w w' ∧ ∃ (r sd2 : Int), v = .int .i64 r ∧ (0 ≤ r ∧ r ≤ 255) ∧ (0 ≤ sd2 ∧ sd2 < 18446744073709551616) ∧ Bx w' ps [vc, .int .i64 ((at_ + 1 : Nat) : Int), .int .u64 sd2])) := by
  have hB := hB0
  have hla := ha.leI
  refine callsOf (vs := [_]) Try.func195 rfl Try.ntmps195 rfl rfl ?_
  have hUB : UpdL [(some ps.block)] w w := UpdL.refl _ _
  have hb1 := htb_ps
  have hl1 := htl_ps
  have hkB_1 : OkB [(some ps.block)] w (some ps.block) := OkB.mem (by simp)
  have hgB_1 := OgR.refl w (some ps.block)
  refine CW.seq ?_
  refine CW.reg ?_
  refine WL.asg rfl rfl ?_
  refine WL.nilS ?_
  refine CW.seq ?_
  refine CW.reg ?_
  refine WL.asg rfl rfl ?_
  refine WL.nilS ?_
  refine CW.seq ?_
  refine CW.seq ?_
  refine CW.draw T.mixed (by kernel_rfl) (fun _ _ _ _ _ h => h) (fun w8 w9 => Upd none w8 w9) 10 (.take 0 (.take 1 (.take 2 (.take 3 (.take 4 (.take 5 (.take 6 (.take 7 (.take 8 (.take 9 .done)))))))))) (by kernel_rfl) (fun w1 hXd => ?_)
  have hB := hB.trans hXd
  have hb1 := hb1.up hXd
  have hUB := hUB.ext hXd
  have hBr := hB
  have hS : Upd none w1 w1 := Ext.toUpd (Ext.refl _)
  refine HP.take rfl rfl rfl rfl hS (fun wS hS1 => PV.move rfl) ?_
  refine HP.take rfl rfl rfl rfl hS (fun wS hS1 => PV.nilCheck rfl) ?_
  refine HP.take rfl rfl rfl rfl hS (fun wS hS1 => PV.fieldAddr T.fl216_1 rfl hb1.cells) ?_
  refine HP.take rfl rfl rfl rfl hS (fun wS hS1 => PV.load1 T.na3 rfl (Bx.cells (Bx.updD (by assumption) hS1 (Dj.nlR _))) (Ext.refl _) rfl) ?_
  refine HP.take rfl rfl rfl rfl hS (fun wS hS1 => PV.move rfl) ?_
  refine HP.take rfl rfl rfl rfl hS (fun wS hS1 => PV.nilCheck rfl) ?_
  refine HP.take rfl rfl rfl rfl hS (fun wS hS1 => PV.fieldAddr T.fl216_0 rfl hb1.cells) ?_
  refine HP.take rfl rfl rfl rfl hS (fun wS hS1 => PV.load1 T.na42 rfl (Bx.cells (Bx.updD (by assumption) hS1 (Dj.nlR _))) (Ext.refl _) rfl) ?_
  refine HP.take rfl rfl rfl rfl hS (fun wS hS1 => (by first | exact PV.len rfl (by assumption) T.sl42 | exact PV.lenOs rfl (by assumption) T.sl42 | exact PV.len rfl (NL.rd (by assumption)) T.sl42 | exact PV.len rfl (Inn.rd (by assumption) (by omega)) T.sl42)) ?_
  refine HP.take rfl rfl rfl rfl hS (fun wS hS1 => PV.lss rfl rfl) ?_
  refine HP.doneS ?_
  refine CW.cond rfl (fun hc1 => ?_) (fun hc1 => ?_)
  · skip
    try simp only [nq] at hc1
    have hgx := getD_P hg (i := at_) (by omega)
    refine CW.draw T.mixed (by kernel_rfl) (fun _ _ _ _ _ h => h) (fun w8 w9 => Upd none w8 w9) 12 (.take 0 (.take 1 (.take 2 (.take 3 (.take 4 (.take 5 (.take 6 (.take 7 (.take 8 (.take 9 (.take 10 (.take 11 .done)))))))))))) (by kernel_rfl) (fun w2 hXd => ?_)
    have hB := hB.trans hXd
    have hb1 := hb1.up hXd
    have hUB := hUB.ext hXd
    have hBr := hB
    have hS : Upd none w2 w2 := Ext.toUpd (Ext.refl _)
    refine HP.take rfl rfl rfl rfl hS (fun wS hS1 => PV.move rfl) ?_
    refine HP.take rfl rfl rfl rfl hS (fun wS hS1 => PV.nilCheck rfl) ?_
    refine HP.take rfl rfl rfl rfl hS (fun wS hS1 => PV.fieldAddr T.fl216_0 rfl hb1.cells) ?_
    refine HP.take rfl rfl rfl rfl hS (fun wS hS1 => PV.load1 T.na42 rfl (Bx.cells (Bx.updD (by assumption) hS1 (Dj.nlR _))) (Ext.refl _) rfl) ?_
    refine HP.take rfl rfl rfl rfl hS (fun wS hS1 => PV.move rfl) ?_
    refine HP.take rfl rfl rfl rfl hS (fun wS hS1 => PV.nilCheck rfl) ?_
    refine HP.take rfl rfl rfl rfl hS (fun wS hS1 => PV.fieldAddr T.fl216_1 rfl hb1.cells) ?_
    refine HP.take rfl rfl rfl rfl hS (fun wS hS1 => PV.load1 T.na3 rfl (Bx.cells (Bx.updD (by assumption) hS1 (Dj.nlR _))) (Ext.refl _) rfl) ?_
    first
      | refine HP.at (x := .tmp 17) (y := .tmp 21) (E := EU8) (0) rfl rfl (by first | assumption | exact Inn.rd (by assumption) (by omega)) (by first | omega | (simp only [List.length_set]; omega) | (simp only [List.length_append, List.length_take, List.length_replicate, List.length_drop]; omega)) (fun p1 csp1 hpp1 hcp1 hq => ?_)
      | refine HP.atZ (x := .tmp 17) (y := .tmp 21) (E := EU8) (0) rfl rfl (by first | assumption | exact Inn.rd (by assumption) (by omega)) (by first | omega | (simp only [List.length_set]; omega) | (simp only [List.length_append, List.length_take, List.length_replicate, List.length_drop]; omega)) (fun p1 csp1 hpp1 hzp1 hcp1 hq => ?_)
    cases hq
    refine HP.take rfl rfl rfl rfl hS (fun wS hS1 => (by first | exact PV.indexAddr hpp1 rfl rfl T.sl42 | exact PV.indexAddr hpp1 rfl (by rw [← hzp1]; rfl) T.sl42)) ?_
    refine HP.take rfl rfl rfl rfl hS (fun wS hS1 => (by first | exact PV.load0 T.na5 rfl (by first | exact Cells.up (by assumption) (hBr.trans hS1) | exact Bx.cells (Bx.updD (by assumption) hS1 (Dj.nlR _)) | exact Cells.upd (by assumption) hS1 (by simp)) (Ext.refl _) rfl | exact PV.load1 T.na5 rfl (by first | exact Cells.up (by assumption) (hBr.trans hS1) | exact Bx.cells (Bx.updD (by assumption) hS1 (Dj.nlR _)) | exact Cells.upd (by assumption) hS1 (by simp)) (Ext.refl _) rfl)) ?_
    refine HP.take rfl rfl rfl rfl hS (fun wS hS1 => PV.conv rfl T.us5 T.ik3 (by constructor <;> omega)) ?_
    refine HP.take rfl rfl rfl rfl hS (fun wS hS1 => PV.assign rfl) ?_
    refine HP.doneS ?_
    refine CW.seq ?_
    refine CW.reg ?_
    refine WL.mv rfl rfl ?_
    refine WL.pure rfl rfl rfl (PV.nilCheck rfl) ?_
    refine WL.pure rfl rfl rfl (PV.fieldAddr T.fl216_1 rfl hb1.cells) ?_
    refine WL.pure rfl rfl rfl (PV.load1 T.na3 rfl hb1.cells (Ext.refl _) rfl) ?_
    refine WL.pure rfl rfl rfl (PV.add rfl rfl (by constructor <;> omega)) ?_
    refine WL.pure rfl rfl rfl (PV.nilCheck rfl) ?_
    refine WL.pure rfl rfl rfl (PV.fieldAddr T.fl216_1 rfl hb1.cells) ?_
    refine WL.op rfl (OpK.storeB T.sz3 rfl rfl (by first | rfl | exact Osl.oneCell (by assumption) | exact Osn.oneCell (by assumption) | exact Rd.oneCell (by assumption) | exact Rd.oneCell (NL.rd (by assumption)) | assumption) hb1 rfl (fun w3 hXw3 hb1 => ?_))
    have hB := hB.updL hXw3 hl1
    have hUB := hUB.step hXw3 hkB_1
    refine WL.nilS ?_
    refine CW.seq ?_
    refine CW.reg ?_
    refine WL.mv rfl rfl ?_
    refine WL.mv rfl rfl ?_
    refine WL.pure rfl rfl rfl (PV.nilCheck rfl) ?_
    refine WL.pure rfl rfl rfl (PV.fieldAddr T.fl216_2 rfl hb1.cells) ?_
    refine WL.pure rfl rfl rfl (PV.load1 T.na214 rfl hb1.cells (Ext.refl _) rfl) ?_
    refine WL.pure rfl rfl rfl (PV.mulW rfl rfl) ?_
    refine WL.mv rfl rfl ?_
    refine WL.pure rfl rfl rfl (PV.convW rfl T.us3 T.ik214) ?_
    refine WL.pure rfl rfl rfl (PV.addW rfl rfl) ?_
    refine WL.pure rfl rfl rfl (PV.addW rfl rfl) ?_
    refine WL.pure rfl rfl rfl (PV.nilCheck rfl) ?_
    refine WL.pure rfl rfl rfl (PV.fieldAddr T.fl216_2 rfl hb1.cells) ?_
    refine WL.op rfl (OpK.storeB T.sz214 rfl rfl (by first | rfl | exact Osl.oneCell (by assumption) | exact Osn.oneCell (by assumption) | exact Rd.oneCell (by assumption) | exact Rd.oneCell (NL.rd (by assumption)) | assumption) hb1 rfl (fun w4 hXw4 hb1 => ?_))
    have hB := hB.updL hXw4 hl1
    have hUB := hUB.step hXw4 hkB_1
    refine WL.nilS ?_
    refine CW.seq ?_
    refine CW.seq ?_
    refine CW.draw T.mixed (by kernel_rfl) (fun _ _ _ _ _ h => h) (fun w8 w9 => Upd none w8 w9) 10 (.take 0 (.take 1 (.take 2 (.take 3 (.take 4 (.take 5 (.take 6 (.take 7 (.take 8 (.take 9 .done)))))))))) (by kernel_rfl) (fun w5 hXd => ?_)
    have hB := hB.trans hXd
    have hb1 := hb1.up hXd
    have hUB := hUB.ext hXd
    have hBr := hB
    have hS : Upd none w5 w5 := Ext.toUpd (Ext.refl _)
    refine HP.take rfl rfl rfl rfl hS (fun wS hS1 => PV.move rfl) ?_
    refine HP.take rfl rfl rfl rfl hS (fun wS hS1 => PV.nilCheck rfl) ?_
    refine HP.take rfl rfl rfl rfl hS (fun wS hS1 => PV.fieldAddr T.fl216_1 rfl hb1.cells) ?_
    refine HP.take rfl rfl rfl rfl hS (fun wS hS1 => PV.load1 T.na3 rfl (Bx.cells (Bx.updD (by assumption) hS1 (Dj.nlR _))) (Ext.refl _) rfl) ?_
    refine HP.take rfl rfl rfl rfl hS (fun wS hS1 => PV.move rfl) ?_
    refine HP.take rfl rfl rfl rfl hS (fun wS hS1 => PV.nilCheck rfl) ?_
    refine HP.take rfl rfl rfl rfl hS (fun wS hS1 => PV.fieldAddr T.fl216_0 rfl hb1.cells) ?_
    refine HP.take rfl rfl rfl rfl hS (fun wS hS1 => PV.load1 T.na42 rfl (Bx.cells (Bx.updD (by assumption) hS1 (Dj.nlR _))) (Ext.refl _) rfl) ?_
    refine HP.take rfl rfl rfl rfl hS (fun wS hS1 => (by first | exact PV.len rfl (by assumption) T.sl42 | exact PV.lenOs rfl (by assumption) T.sl42 | exact PV.len rfl (NL.rd (by assumption)) T.sl42 | exact PV.len rfl (Inn.rd (by assumption) (by omega)) T.sl42)) ?_
    refine HP.take rfl rfl rfl rfl hS (fun wS hS1 => PV.leq rfl rfl) ?_
    refine HP.doneS ?_
    refine CW.cond rfl (fun hc2 => ?_) (fun hc2 => ?_)
    · skip
      try simp only [nq] at hc2
      refine CW.seq ?_
      refine CW.reg ?_
      refine WL.mv rfl rfl ?_
      refine WL.asg rfl rfl ?_
      refine WL.nilS ?_
      refine CW.ret ?_
      refine RQ.then ?_
      refine RQ.r1 rfl ?_
      refine ⟨hUB, _, _, rfl, ?_, ?_, hb1⟩
      · skip
        first | omega | exact rnd255 _
      · skip
        exact wrapU_rng _
    try simp only [nq] at hc2
    refine CW.skipS ?_
    refine CW.seq ?_
    refine CW.reg ?_
    refine WL.mv rfl rfl ?_
    refine WL.pure rfl rfl rfl (PV.nilCheck rfl) ?_
    refine WL.pure rfl rfl rfl (PV.fieldAddr T.fl216_2 rfl hb1.cells) ?_
    refine WL.pure rfl rfl rfl (PV.load1 T.na214 rfl hb1.cells (Ext.refl _) rfl) ?_
    refine WL.pure rfl rfl rfl (PV.shr rfl rfl (by omega) (by first | (simp only [IntKind.bits]; omega) | (simp [IntKind.bits] <;> omega))) ?_
    refine WL.pure rfl rfl rfl (PV.and rfl rfl) ?_
    refine WL.pure rfl rfl rfl (PV.conv rfl T.us214 T.ik2 (by exact ⟨Int.le_trans (by decide) (rnd255 _).1, Int.le_trans (rnd255 _).2 (by decide)⟩)) ?_
    refine WL.asg rfl rfl ?_
    refine WL.nilS ?_
    refine CW.ret ?_
    refine RQ.r1 rfl ?_
    refine ⟨hUB, _, _, rfl, ?_, ?_, hb1⟩
    · skip
      first | omega | exact rnd255 _
    · skip
      exact wrapU_rng _
  try simp only [nq] at hc1
  refine CW.skipS ?_
  refine CW.seq ?_
  refine CW.reg ?_
  refine WL.mv rfl rfl ?_
  refine WL.pure rfl rfl rfl (PV.nilCheck rfl) ?_
  refine WL.pure rfl rfl rfl (PV.fieldAddr T.fl216_1 rfl hb1.cells) ?_
  refine WL.pure rfl rfl rfl (PV.load1 T.na3 rfl hb1.cells (Ext.refl _) rfl) ?_
  refine WL.pure rfl rfl rfl (PV.add rfl rfl (by constructor <;> omega)) ?_
  refine WL.pure rfl rfl rfl (PV.nilCheck rfl) ?_
  refine WL.pure rfl rfl rfl (PV.fieldAddr T.fl216_1 rfl hb1.cells) ?_
  refine WL.op rfl (OpK.storeB T.sz3 rfl rfl (by first | rfl | exact Osl.oneCell (by assumption) | exact Osn.oneCell (by assumption) | exact Rd.oneCell (by assumption) | exact Rd.oneCell (NL.rd (by assumption)) | assumption) hb1 rfl (fun w6 hXw6 hb1 => ?_))
  have hB := hB.updL hXw6 hl1
  have hUB := hUB.step hXw6 hkB_1
  refine WL.nilS ?_
  refine CW.seq ?_
  refine CW.reg ?_
  refine WL.mv rfl rfl ?_
  refine WL.mv rfl rfl ?_
  refine WL.pure rfl rfl rfl (PV.nilCheck rfl) ?_
  refine WL.pure rfl rfl rfl (PV.fieldAddr T.fl216_2 rfl hb1.cells) ?_
  refine WL.pure rfl rfl rfl (PV.load1 T.na214 rfl hb1.cells (Ext.refl _) rfl) ?_
  refine WL.pure rfl rfl rfl (PV.mulW rfl rfl) ?_
  refine WL.mv rfl rfl ?_
  refine WL.pure rfl rfl rfl (PV.convW rfl T.us3 T.ik214) ?_
  refine WL.pure rfl rfl rfl (PV.addW rfl rfl) ?_
  refine WL.pure rfl rfl rfl (PV.addW rfl rfl) ?_
  refine WL.pure rfl rfl rfl (PV.nilCheck rfl) ?_
  refine WL.pure rfl rfl rfl (PV.fieldAddr T.fl216_2 rfl hb1.cells) ?_
  refine WL.op rfl (OpK.storeB T.sz214 rfl rfl (by first | rfl | exact Osl.oneCell (by assumption) | exact Osn.oneCell (by assumption) | exact Rd.oneCell (by assumption) | exact Rd.oneCell (NL.rd (by assumption)) | assumption) hb1 rfl (fun w7 hXw7 hb1 => ?_))
  have hB := hB.updL hXw7 hl1
  have hUB := hUB.step hXw7 hkB_1
  refine WL.nilS ?_
  refine CW.seq ?_
  refine CW.seq ?_
  refine CW.draw T.mixed (by kernel_rfl) (fun _ _ _ _ _ h => h) (fun w8 w9 => Upd none w8 w9) 10 (.take 0 (.take 1 (.take 2 (.take 3 (.take 4 (.take 5 (.take 6 (.take 7 (.take 8 (.take 9 .done)))))))))) (by kernel_rfl) (fun w8 hXd => ?_)
  have hB := hB.trans hXd
  have hb1 := hb1.up hXd
  have hUB := hUB.ext hXd
  have hBr := hB
  have hS : Upd none w8 w8 := Ext.toUpd (Ext.refl _)
  refine HP.take rfl rfl rfl rfl hS (fun wS hS1 => PV.move rfl) ?_
  refine HP.take rfl rfl rfl rfl hS (fun wS hS1 => PV.nilCheck rfl) ?_
  refine HP.take rfl rfl rfl rfl hS (fun wS hS1 => PV.fieldAddr T.fl216_1 rfl hb1.cells) ?_
  refine HP.take rfl rfl rfl rfl hS (fun wS hS1 => PV.load1 T.na3 rfl (Bx.cells (Bx.updD (by assumption) hS1 (Dj.nlR _))) (Ext.refl _) rfl) ?_
  refine HP.take rfl rfl rfl rfl hS (fun wS hS1 => PV.move rfl) ?_
  refine HP.take rfl rfl rfl rfl hS (fun wS hS1 => PV.nilCheck rfl) ?_
  refine HP.take rfl rfl rfl rfl hS (fun wS hS1 => PV.fieldAddr T.fl216_0 rfl hb1.cells) ?_
  refine HP.take rfl rfl rfl rfl hS (fun wS hS1 => PV.load1 T.na42 rfl (Bx.cells (Bx.updD (by assumption) hS1 (Dj.nlR _))) (Ext.refl _) rfl) ?_
  refine HP.take rfl rfl rfl rfl hS (fun wS hS1 => (by first | exact PV.len rfl (by assumption) T.sl42 | exact PV.lenOs rfl (by assumption) T.sl42 | exact PV.len rfl (NL.rd (by assumption)) T.sl42 | exact PV.len rfl (Inn.rd (by assumption) (by omega)) T.sl42)) ?_
  refine HP.take rfl rfl rfl rfl hS (fun wS hS1 => PV.leq rfl rfl) ?_
  refine HP.doneS ?_
  refine CW.cond rfl (fun hc3 => ?_) (fun hc3 => ?_)
  · skip
    try simp only [nq] at hc3
    refine CW.seq ?_
    refine CW.reg ?_
    refine WL.mv rfl rfl ?_
    refine WL.asg rfl rfl ?_
    refine WL.nilS ?_
    refine CW.ret ?_
    refine RQ.then ?_
    refine RQ.r1 rfl ?_
    refine ⟨hUB, _, _, rfl, ?_, ?_, hb1⟩
    · skip
      first | omega | exact rnd255 _
    · skip
      exact wrapU_rng _
  try simp only [nq] at hc3
  refine CW.skipS ?_
  refine CW.seq ?_
  refine CW.reg ?_
  refine WL.mv rfl rfl ?_
  refine WL.pure rfl rfl rfl (PV.nilCheck rfl) ?_
  refine WL.pure rfl rfl rfl (PV.fieldAddr T.fl216_2 rfl hb1.cells) ?_
  refine WL.pure rfl rfl rfl (PV.load1 T.na214 rfl hb1.cells (Ext.refl _) rfl) ?_
  refine WL.pure rfl rfl rfl (PV.shr rfl rfl (by omega) (by first | (simp only [IntKind.bits]; omega) | (simp [IntKind.bits] <;> omega))) ?_
  refine WL.pure rfl rfl rfl (PV.and rfl rfl) ?_
  refine WL.pure rfl rfl rfl (PV.conv rfl T.us214 T.ik2 (by exact ⟨Int.le_trans (by decide) (rnd255 _).1, Int.le_trans (rnd255 _).2 (by decide)⟩)) ?_
  refine WL.asg rfl rfl ?_
  refine WL.nilS ?_
  refine CW.ret ?_
  refine RQ.r1 rfl ?_
  refine ⟨hUB, _, _, rfl, ?_, ?_, hb1⟩
  · skip
    first | omega | exact rnd255 _
  · skip
    exact wrapU_rng _
theorem c_spec_l00Src_pick {w : World} {b : World} {ps : Addr} {vc : Value} {bs : List Int} {at_ : Nat} {sd : Int} {N : Int} (hB0 : Ext b w) (htb_ps : Bx w ps [vc, .int .i64 ((at_ : Nat) : Int), .int .u64 sd]) (htl_ps : Lo b (some ps.block)) (ha : Rd EU8 b vc bs) (hg : ∀ x ∈ bs, 0 ≤ x ∧ x ≤ 255) (hat : at_ ≤ 1000000) (hsd : 0 ≤ sd ∧ sd < 18446744073709551616) (hN2 : 1 ≤ N ∧ N ≤ 200) : Calls Try.prog 109 #[.pointer (some ps), .int .i64 N] w (Ret1 (fun v w' => UpdL [some ps.block] w w' ∧ ∃ (r : Int) (at2 : Nat) (sd2 : Int), v = .int .i64 r ∧ (0 ≤ r ∧ r ≤ N - 1) ∧ (at2 ≤ at_ + 1 ∧ 0 ≤ sd2 ∧ sd2 < 18446744073709551616) ∧ Bx w' ps [vc, .int .i64 ((at2 : Nat) : Int), .int .u64 sd2])) := by
  have hB := hB0
  have hla := ha.leI
  refine callsOf (vs := [_, _]) Try.func109 rfl Try.ntmps109 rfl rfl ?_
  have hUB : UpdL [(some ps.block)] w w := UpdL.refl _ _
  have hb1 := htb_ps
  have hl1 := htl_ps
  have hkB_1 : OkB [(some ps.block)] w (some ps.block) := OkB.mem (by simp)
  have hgB_1 := OgR.refl w (some ps.block)
  refine CW.seq ?_
  refine CW.reg ?_
  refine WL.asg rfl rfl ?_
  refine WL.nilS ?_
  refine CW.seq ?_
  refine CW.seq ?_
  refine CW.reg ?_
  refine WL.mv rfl rfl ?_
  refine WL.pure rfl rfl rfl (PV.leq rfl rfl) ?_
  refine WL.nilS ?_
  refine CW.cond rfl (fun hc1 => ?_) (fun hc1 => ?_)
  · skip
    try simp only [nq] at hc1
    refine CW.seq ?_
    refine CW.reg ?_
    refine WL.asg rfl rfl ?_
    refine WL.nilS ?_
    refine CW.ret ?_
    refine RQ.then ?_
    refine RQ.r1 rfl ?_
    refine ⟨hUB, 0, at_, sd, rfl, ?_, ?_, hb1⟩
    · skip
      first | omega | exact remN (by omega) (by omega)
    · skip
      first | exact ⟨by omega, hsd⟩ | (refine ⟨by omega, ?_⟩; assumption)
  try simp only [nq] at hc1
  refine CW.skipS ?_
  refine CW.seq ?_
  refine CW.reg ?_
  refine WL.mv rfl rfl ?_
  refine WL.op rfl (OpK.call rfl T.cf195 rfl (c_spec_l00Src_next hB (by first | assumption | exact Lo.nl _) (by first | assumption | exact Lo.nl _) (by first | assumption | exact Rd.up (by assumption) hB | exact Osl.rd (by assumption) | exact Osn.rdR (by assumption)) (by first | assumption | omega | (simp only [marks_len]; omega)) (by first | assumption | omega | (simp only [marks_len]; omega)) (by first | assumption | omega | (simp only [marks_len]; omega))) (fun rv1 w1 hR => ?_))
  obtain ⟨hUC2, r3, sd24, rfl, hm5, hm6, hbn1⟩ := hR
  have hUB := hUB.trans hUC2 ⟨hkB_1, trivial⟩
  have hB := hB.loop hUC2 ⟨hl1, trivial⟩
  have hb1 := hbn1
  refine WL.asg rfl rfl ?_
  refine WL.nilS ?_
  refine CW.seq ?_
  refine CW.seq ?_
  refine CW.reg ?_
  refine WL.mv rfl rfl ?_
  refine WL.pure rfl rfl rfl (PV.gtr rfl rfl) ?_
  refine WL.nilS ?_
  refine CW.cond rfl (fun hc2 => ?_) (fun hc2 => ?_)
  · skip
    try simp only [nq] at hc2
    exfalso; omega
  try simp only [nq] at hc2
  refine CW.skipS ?_
  refine CW.seq ?_
  refine CW.reg ?_
  refine WL.mv rfl rfl ?_
  refine WL.mv rfl rfl ?_
  refine WL.pure rfl rfl rfl (PV.rem rfl rfl (by omega) rfl) ?_
  refine WL.asg rfl rfl ?_
  refine WL.nilS ?_
  refine CW.ret ?_
  refine RQ.r1 rfl ?_
  refine ⟨hUB, _, _, _, rfl, ?_, ?_, hb1⟩
  · skip
    first | omega | exact remN (by omega) (by omega)
  · skip
    first | exact ⟨by omega, hsd⟩ | (refine ⟨by omega, ?_⟩; assumption)
theorem c_spec_l00Src_one {w : World} {b : World} {ps : Addr} {vc : Value} {bs : List Int} {at_ : Nat} {sd : Int} {N : Int} (hB0 : Ext b w) (htb_ps : Bx w ps [vc, .int .i64 ((at_ : Nat) : Int), .int .u64 sd]) (htl_ps : Lo b (some ps.block)) (ha : Rd EU8 b vc bs) (hg : ∀ x ∈ bs, 0 ≤ x ∧ x ≤ 255) (hat : at_ ≤ 1000000) (hsd : 0 ≤ sd ∧ sd < 18446744073709551616) (hN2 : 2 ≤ N ∧ N ≤ 200) : Calls Try.prog 194 #[.pointer (some ps), .int .i64 N] w (Ret1 (fun v w' => UpdL [some ps.block] w w' ∧ ∃ (r : Bool) (at2 : Nat) (sd2 : Int), v = .bool r ∧ (at2 ≤ at_ + 1 ∧ 0 ≤ sd2 ∧ sd2 < 18446744073709551616) ∧ Bx w' ps [vc, .int .i64 ((at2 : Nat) : Int), .int .u64 sd2])) := by
  have hB := hB0
  have hla := ha.leI
  refine callsOf (vs := [_, _]) Try.func194 rfl Try.ntmps194 rfl rfl ?_
  have hUB : UpdL [(some ps.block)] w w := UpdL.refl _ _
  have hb1 := htb_ps
  have hl1 := htl_ps
  have hkB_1 : OkB [(some ps.block)] w (some ps.block) := OkB.mem (by simp)
  have hgB_1 := OgR.refl w (some ps.block)
  refine CW.seq ?_
  refine CW.reg ?_
  refine WL.asg rfl rfl ?_
  refine WL.nilS ?_
  refine CW.seq ?_
  refine CW.reg ?_
  refine WL.mv rfl rfl ?_
  refine WL.mv rfl rfl ?_
  refine WL.op rfl (OpK.call rfl T.cf109 rfl (c_spec_l00Src_pick hB (by first | assumption | exact Lo.nl _) (by first | assumption | exact Lo.nl _) (by first | assumption | exact Rd.up (by assumption) hB | exact Osl.rd (by assumption) | exact Osn.rdR (by assumption)) (by first | assumption | omega | (simp only [marks_len]; omega)) (by first | assumption | omega | (simp only [marks_len]; omega)) (by first | assumption | omega | (simp only [marks_len]; omega)) (by first | assumption | omega | (simp only [marks_len]; omega))) (fun rv1 w1 hR => ?_))
  obtain ⟨hUC2, r3, at24, sd25, rfl, hm6, hm7, hbn1⟩ := hR
  have hUB := hUB.trans hUC2 ⟨hkB_1, trivial⟩
  have hB := hB.loop hUC2 ⟨hl1, trivial⟩
  have hb1 := hbn1
  refine WL.pure rfl rfl rfl (PV.eql rfl rfl) ?_
  refine WL.asg rfl rfl ?_
  refine WL.nilS ?_
  refine CW.ret ?_
  refine RQ.r1 rfl ?_
  refine ⟨hUB, _, _, _, rfl, ?_, hb1⟩
  · skip
    assumption
theorem c_spec_l06DrawSides {w : World} {b : World} {ps : Addr} {vc : Value} {bs : List Int} {at_ : Nat} {sd : Int} {S L : Int} (hB0 : Ext b w) (htb_ps : Bx w ps [vc, .int .i64 ((at_ : Nat) : Int), .int .u64 sd]) (htl_ps : Lo b (some ps.block)) (ha : Rd EU8 b vc bs) (hg : ∀ x ∈ bs, 0 ≤ x ∧ x ≤ 255) (hat : at_ ≤ 900) (hsd : 0 ≤ sd ∧ sd < 18446744073709551616) (hS2 : 1 ≤ S ∧ S ≤ 3) (hL2 : 1 ≤ L ∧ L ≤ 2) : Calls Try.prog 108 #[.pointer (some ps), .int .i64 S, .int .i64 L] w (Ret1 (fun v w' => UpdL [some ps.block] w w' ∧ ∃ (rs : List R4) (at2 : Nat) (sd2 : Int) (u2 : Value) (og_u2 : Option Nat), v = .agg #[.int .i64 S, .int .i64 L, u2] ∧ ((rs.length : Int) ≤ 12 ∧ ∀ i : Nat, i < rs.length → okR S L (rs.getD i (0, 0, 0, 0))) ∧ (at2 ≤ at_ + 80 ∧ 0 ≤ sd2 ∧ sd2 < 18446744073709551616) ∧ Bx w' ps [vc, .int .i64 ((at2 : Nat) : Int), .int .u64 sd2] ∧ Osn 4 gR w' og_u2 u2 (rs) ∧ Lo w og_u2)) := by
  have hB := hB0
  have hla := ha.leI
  refine callsOf (vs := [_, _, _]) Try.func108 rfl Try.ntmps108 rfl rfl ?_
  have hUB : UpdL [(some ps.block)] w w := UpdL.refl _ _
  have hb1 := htb_ps
  have hl1 := htl_ps
  have hkB_1 : OkB [(some ps.block)] w (some ps.block) := OkB.mem (by simp)
  have hgB_1 := OgR.refl w (some ps.block)
  refine CW.seq ?_
  refine CW.reg ?_
  refine WL.op rfl (OpK.alloc rfl T.zv33 rfl (fun b2 w1 hXw1 hb2 hge2 => ?_))
  have hl2 := Lo.new hB hge2
  have hd1_2 := Dj.new hb1.ltO hge2
  have hkB_2 := OkN.new hUB hge2
  have hgB_2 := OgR.new hUB.size hge2
  have hB := hB.trans hXw1
  have hb1 := hb1.up hXw1
  have hUB := hUB.ext hXw1
  refine WL.nilS ?_
  refine CW.seq ?_
  refine CW.reg ?_
  refine WL.mv rfl rfl ?_
  refine WL.mv rfl rfl ?_
  refine WL.op rfl (OpK.buildN (g := gR) (os := []) [] gR_ok rfl T.sl31 rfl rfl T.zv56 rfl rfl (fun v3 g3 w2 hXw2 ho3 hge3 => ?_))
  have hl3 := Lo.new hB hge3
  have hd1_3 := Dj.new hb1.ltO hge3
  have hd2_3 := Dj.new hb2.ltO hge3
  have hkB_3 := OkN.new hUB hge3
  have hgB_3 := OgR.new hUB.size hge3
  have hB := hB.trans hXw2
  have hb1 := hb1.up hXw2
  have hb2 := hb2.up hXw2
  have hUB := hUB.ext hXw2
  refine WL.pure rfl rfl rfl (PV.build (ks := [0, 1, 2]) (os := [.tmp 11, .tmp 12, .tmp 13]) (css := [[_], [_], [_]]) (ds := [_, _, _]) T.bu33 rfl rfl ⟨rfl, rfl, (by first | exact Rd.cells1 (by assumption) | exact Osl.cells1 (by assumption) | exact Osn.cells1 (by assumption) | exact Rd.cells1 (NL.rd (by assumption)) | exact Inn.cell1 (by assumption) (by omega) | assumption | rfl), trivial⟩ rfl) ?_
  refine WL.op rfl (OpK.alloc rfl T.zv33 rfl (fun b4 w3 hXw3 hb4 hge4 => ?_))
  have hl4 := Lo.new hB hge4
  have hd1_4 := Dj.new hb1.ltO hge4
  have hd2_4 := Dj.new hb2.ltO hge4
  have hd3_4 := Dj.new ho3.ltO hge4
  have hkB_4 := OkN.new hUB hge4
  have hgB_4 := OgR.new hUB.size hge4
  have hB := hB.trans hXw3
  have hb1 := hb1.up hXw3
  have hb2 := hb2.up hXw3
  have ho3 := ho3.up hXw3
  have hUB := hUB.ext hXw3
  refine WL.op rfl (OpK.storeA T.sz33 rfl rfl rfl rfl (by simp [Value.oneCell'] <;> first | done | (repeat' apply And.intro) <;> first | rfl | exact Osl.oneCell (by assumption) | exact Osn.oneCell (by assumption) | exact Rd.oneCell (by assumption) | exact Rd.oneCell (NL.rd (by assumption)) | assumption) hb4 (fun w4 hXw4 hb4 => ?_))
  have hB := hB.updL hXw4 hl4
  have hb1 := hb1.updD hXw4 hd1_4
  have hb2 := hb2.updD hXw4 hd2_4
  have ho3 := ho3.updD hXw4 hd3_4
  have hUB := hUB.step hXw4 hkB_4
  refine WL.nilS ?_
  refine CW.seq ?_
  refine CW.seq ?_
  refine CW.reg ?_
  refine WL.mv rfl rfl ?_
  refine WL.mv rfl rfl ?_
  refine WL.pure rfl rfl rfl (PV.mul rfl rfl (by constructor <;> omega)) ?_
  refine WL.pure rfl rfl rfl (PV.add rfl rfl (by constructor <;> omega)) ?_
  refine WL.op rfl (OpK.call rfl T.cf109 rfl (c_spec_l00Src_pick hB (by first | assumption | exact Lo.nl _) (by first | assumption | exact Lo.nl _) (by first | assumption | exact Rd.up (by assumption) hB | exact Osl.rd (by assumption) | exact Osn.rdR (by assumption)) (by first | assumption | omega | (simp only [marks_len]; omega)) (by first | assumption | omega | (simp only [marks_len]; omega)) (by first | assumption | omega | (simp only [marks_len]; omega)) (by first | assumption | omega | (simp only [marks_len]; omega))) (fun rv1 w5 hR => ?_))
  obtain ⟨hUC5, r6, at27, sd28, rfl, hm9, hm10, hbn1⟩ := hR
  have hUB := hUB.trans hUC5 ⟨hkB_1, trivial⟩
  have hb2 := hb2.loop hUC5 ⟨(Dj.symm hd1_2), trivial⟩
  have ho3 := ho3.loop hUC5 ⟨(Dj.symm hd1_3), trivial⟩
  have hb4 := hb4.loop hUC5 ⟨(Dj.symm hd1_4), trivial⟩
  have hB := hB.loop hUC5 ⟨hl1, trivial⟩
  have hb1 := hbn1
  refine WL.pure rfl rfl rfl (PV.add rfl rfl (by constructor <;> omega)) ?_
  refine WL.asg rfl rfl ?_
  refine WL.nilS ?_
  refine CW.block ?_
  have hlt1 := hb1.ltO
  have hlt2 := hb2.ltO
  have hlt3 := ho3.ltO
  have hlt4 := hb4.ltO
  refine CW.loop (σk := [(0, _), (1, _), (2, _), (6, _), (7, _)]) (fun ρ wz m => ∃ (v11 : Value) (og11 : Option Nat) (k : Nat) (rs : List R4) (aq : Nat) (sq : Int), ρ = [(8, .int .i64 ((1 + r6) - (k : Nat)))] ∧ m = (1 + r6).toNat - k ∧ UpdL [(some g3), (some b4.block), (some ps.block)] w5 wz ∧ Osn 4 gR wz og11 v11 (rs) ∧ OgR w5 (some g3) og11 ∧ Bx wz b4 [.int .i64 S, .int .i64 L, v11] ∧ Bx wz ps [vc, .int .i64 ((aq : Nat) : Int), .int .u64 sq] ∧ ((k : Int) ≤ (1 + r6)) ∧ (rs.length = k) ∧ (∀ i : Nat, i < rs.length → okR S L (rs.getD i (0, 0, 0, 0))) ∧ (aq ≤ at_ + 1 + 6 * k ∧ 0 ≤ sq ∧ sq < 18446744073709551616)) (ρ₀ := [(8, _)]) (m₀ := _) ⟨rfl, rfl, rfl, rfl, rfl, rfl, trivial⟩ ⟨v3, (some g3), 0, [], _, _, (by simp), rfl, (UpdL.refl _ _), osnE ho3 (by rfl), OgR.refl _ _, bxE hb4 (by first | rfl | (simp_all; done) | (simp_all; omega)), bxE hb1 (by rfl), (by first | omega | rfl | (simp; done) | assumption | (simp_all; done)), (by rfl), (by intro i h; simp at h), (by omega)⟩ ?_
  rintro _ wl1 _ ⟨v11, og11, k, rs, aq, sq, rfl, rfl, hU0, ho11, ha11, hb4, hb1, hk, hrl, hrs, hs⟩
  have hUB := hUB.trans hU0 ⟨hkB_3, hkB_4, hkB_1, trivial⟩
  have hb2 := hb2.loop hU0 ⟨hd2_3, hd2_4, (Dj.symm hd1_2), trivial⟩
  have hl11 := Lo.ogr hl3 hB ha11
  have hg0_11 := ha11
  have hk0_11 : OkB [(some g3), (some b4.block), (some ps.block)] w5 og11 := OkB.ogr (OkB.mem (by simp)) (Nat.le_refl _) ha11
  have hkB_11 := OkB.ogr hkB_3 (by first | assumption | exact UpdL.size (by assumption)) ha11
  have hgB_11 := OgR.trans hgB_3 (by first | assumption | exact UpdL.size (by assumption)) ha11
  have hd1_11 := Dj.ogr hd1_3 hlt1 ha11
  have hd2_11 := Dj.ogr hd2_3 hlt2 ha11
  have hd4_11 := Dj.ogr (Dj.symm hd3_4) hlt4 ha11
  have hk0_4 : OkB [(some g3), (some b4.block), (some ps.block)] w5 (some b4.block) := OkB.mem (by simp)
  have hk0_1 : OkB [(some g3), (some b4.block), (some ps.block)] w5 (some ps.block) := OkB.mem (by simp)
  have hB := hB.loop hU0 ⟨hl3, hl4, hl1, trivial⟩
  refine CW.seq ?_
  refine CW.seq ?_
  refine CW.reg ?_
  refine WL.mv rfl rfl ?_
  refine WL.pure rfl rfl rfl (PV.gtr rfl rfl) ?_
  refine WL.nilS ?_
  refine CW.cond rfl (fun hc1 => ?_) (fun hc1 => ?_)
  · skip
    try simp only [nq] at hc1
    refine CW.skipS ?_
    refine CW.seq ?_
    refine CW.block ?_
    refine CW.seq ?_
    refine CW.reg ?_
    refine WL.mv rfl rfl ?_
    refine WL.mv rfl rfl ?_
    refine WL.op rfl (OpK.call rfl T.cf109 rfl (c_spec_l00Src_pick hB (by first | assumption | exact Lo.nl _) (by first | assumption | exact Lo.nl _) (by first | assumption | exact Rd.up (by assumption) hB | exact Osl.rd (by assumption) | exact Osn.rdR (by assumption)) (by first | assumption | omega | (simp only [marks_len]; omega)) (by first | assumption | omega | (simp only [marks_len]; omega)) (by first | assumption | omega | (simp only [marks_len]; omega)) (by first | assumption | omega | (simp only [marks_len]; omega))) (fun rv2 w6 hR => ?_))
    obtain ⟨hUC14, r15, at216, sd217, rfl, hm18, hm19, hbn1⟩ := hR
    have hUB := hUB.trans hUC14 ⟨hkB_1, trivial⟩
    have hU0 := hU0.trans hUC14 ⟨hk0_1, trivial⟩
    have hb2 := hb2.loop hUC14 ⟨(Dj.symm hd1_2), trivial⟩
    have hb4 := hb4.loop hUC14 ⟨(Dj.symm hd1_4), trivial⟩
    have ho11 := ho11.loop hUC14 ⟨(Dj.symm hd1_11), trivial⟩
    have hB := hB.loop hUC14 ⟨hl1, trivial⟩
    have hb1 := hbn1
    refine WL.pure rfl rfl rfl (PV.build (ks := [0, 2]) (os := [.tmp 27, .const (.int .i64 (-1))]) (css := [[_], [_]]) (ds := [_, _, _, _]) T.bu56 rfl rfl ⟨rfl, rfl, trivial⟩ rfl) ?_
    refine WL.op rfl (OpK.alloc rfl T.zv56 rfl (fun b20 w7 hXw7 hb20 hge20 => ?_))
    have hl20 := Lo.new hB hge20
    have hd1_20 := Dj.new hb1.ltO hge20
    have hd2_20 := Dj.new hb2.ltO hge20
    have hd4_20 := Dj.new hb4.ltO hge20
    have hd11_20 := Dj.new ho11.ltO hge20
    have hkB_20 := OkN.new hUB hge20
    have hgB_20 := OgR.new hUB.size hge20
    have hk0_20 := OkN.new hU0 hge20
    have hg0_20 := OgR.new hU0.size hge20
    have hB := hB.trans hXw7
    have hb1 := hb1.up hXw7
    have hb2 := hb2.up hXw7
    have hb4 := hb4.up hXw7
    have ho11 := ho11.up hXw7
    have hUB := hUB.ext hXw7
    have hU0 := hU0.ext hXw7
    refine WL.op rfl (OpK.storeA T.sz56 rfl rfl rfl rfl (by simp [Value.oneCell'] <;> first | done | (repeat' apply And.intro) <;> first | rfl | exact Osl.oneCell (by assumption) | exact Osn.oneCell (by assumption) | exact Rd.oneCell (by assumption) | exact Rd.oneCell (NL.rd (by assumption)) | assumption) hb20 (fun w8 hXw8 hb20 => ?_))
    have hB := hB.updL hXw8 hl20
    have hb1 := hb1.updD hXw8 hd1_20
    have hb2 := hb2.updD hXw8 hd2_20
    have hb4 := hb4.updD hXw8 hd4_20
    have ho11 := ho11.updD hXw8 hd11_20
    have hUB := hUB.step hXw8 hkB_20
    have hU0 := hU0.step hXw8 hk0_20
    refine WL.nilS ?_
    refine CW.seq ?_
    refine CW.reg ?_
    refine WL.mv rfl rfl ?_
    refine WL.mv rfl rfl ?_
    refine WL.op rfl (OpK.call rfl T.cf109 rfl (c_spec_l00Src_pick hB (by first | assumption | exact Lo.nl _) (by first | assumption | exact Lo.nl _) (by first | assumption | exact Rd.up (by assumption) hB | exact Osl.rd (by assumption) | exact Osn.rdR (by assumption)) (by first | assumption | omega | (simp only [marks_len]; omega)) (by first | assumption | omega | (simp only [marks_len]; omega)) (by first | assumption | omega | (simp only [marks_len]; omega)) (by first | assumption | omega | (simp only [marks_len]; omega))) (fun rv3 w9 hR => ?_))
    obtain ⟨hUC21, r22, at223, sd224, rfl, hm25, hm26, hbn1⟩ := hR
    have hUB := hUB.trans hUC21 ⟨hkB_1, trivial⟩
    have hU0 := hU0.trans hUC21 ⟨hk0_1, trivial⟩
    have hb2 := hb2.loop hUC21 ⟨(Dj.symm hd1_2), trivial⟩
    have hb4 := hb4.loop hUC21 ⟨(Dj.symm hd1_4), trivial⟩
    have ho11 := ho11.loop hUC21 ⟨(Dj.symm hd1_11), trivial⟩
    have hb20 := hb20.loop hUC21 ⟨(Dj.symm hd1_20), trivial⟩
    have hB := hB.loop hUC21 ⟨hl1, trivial⟩
    have hb1 := hbn1
    refine WL.pure rfl rfl rfl (PV.fieldAddr T.fl56_1 rfl hb20.cells) ?_
    refine WL.op rfl (OpK.storeB T.sz2 rfl rfl (by first | rfl | exact Osl.oneCell (by assumption) | exact Osn.oneCell (by assumption) | exact Rd.oneCell (by assumption) | exact Rd.oneCell (NL.rd (by assumption)) | assumption) hb20 rfl (fun w10 hXw10 hb20 => ?_))
    have hB := hB.updL hXw10 hl20
    have hb1 := hb1.updD hXw10 hd1_20
    have hb2 := hb2.updD hXw10 hd2_20
    have hb4 := hb4.updD hXw10 hd4_20
    have ho11 := ho11.updD hXw10 hd11_20
    have hUB := hUB.step hXw10 hkB_20
    have hU0 := hU0.step hXw10 hk0_20
    refine WL.nilS ?_
    refine CW.seq ?_
    refine CW.seq ?_
    refine CW.reg ?_
    refine WL.mv rfl rfl ?_
    refine WL.op rfl (OpK.call rfl T.cf194 rfl (c_spec_l00Src_one hB (by first | assumption | exact Lo.nl _) (by first | assumption | exact Lo.nl _) (by first | assumption | exact Rd.up (by assumption) hB | exact Osl.rd (by assumption) | exact Osn.rdR (by assumption)) (by first | assumption | omega | (simp only [marks_len]; omega)) (by first | assumption | omega | (simp only [marks_len]; omega)) (by first | assumption | omega | (simp only [marks_len]; omega)) (by first | assumption | omega | (simp only [marks_len]; omega))) (fun rv4 w11 hR => ?_))
    obtain ⟨hUC27, r28, at229, sd230, rfl, hm31, hbn1⟩ := hR
    have hUB := hUB.trans hUC27 ⟨hkB_1, trivial⟩
    have hU0 := hU0.trans hUC27 ⟨hk0_1, trivial⟩
    have hb2 := hb2.loop hUC27 ⟨(Dj.symm hd1_2), trivial⟩
    have hb4 := hb4.loop hUC27 ⟨(Dj.symm hd1_4), trivial⟩
    have ho11 := ho11.loop hUC27 ⟨(Dj.symm hd1_11), trivial⟩
    have hb20 := hb20.loop hUC27 ⟨(Dj.symm hd1_20), trivial⟩
    have hB := hB.loop hUC27 ⟨hl1, trivial⟩
    have hb1 := hbn1
    refine WL.nilS ?_
    refine CW.cond rfl (fun hc2 => ?_) (fun hc2 => ?_)
    · skip
      try simp only [nq] at hc2
      refine CW.seq ?_
      refine CW.reg ?_
      refine WL.mv rfl rfl ?_
      refine WL.mv rfl rfl ?_
      refine WL.op rfl (OpK.call rfl T.cf109 rfl (c_spec_l00Src_pick hB (by first | assumption | exact Lo.nl _) (by first | assumption | exact Lo.nl _) (by first | assumption | exact Rd.up (by assumption) hB | exact Osl.rd (by assumption) | exact Osn.rdR (by assumption)) (by first | assumption | omega | (simp only [marks_len]; omega)) (by first | assumption | omega | (simp only [marks_len]; omega)) (by first | assumption | omega | (simp only [marks_len]; omega)) (by first | assumption | omega | (simp only [marks_len]; omega))) (fun rv5 w12 hR => ?_))
      obtain ⟨hUC32, r33, at234, sd235, rfl, hm36, hm37, hbn1⟩ := hR
      have hUB := hUB.trans hUC32 ⟨hkB_1, trivial⟩
      have hU0 := hU0.trans hUC32 ⟨hk0_1, trivial⟩
      have hb2 := hb2.loop hUC32 ⟨(Dj.symm hd1_2), trivial⟩
      have hb4 := hb4.loop hUC32 ⟨(Dj.symm hd1_4), trivial⟩
      have ho11 := ho11.loop hUC32 ⟨(Dj.symm hd1_11), trivial⟩
      have hb20 := hb20.loop hUC32 ⟨(Dj.symm hd1_20), trivial⟩
      have hB := hB.loop hUC32 ⟨hl1, trivial⟩
      have hb1 := hbn1
      refine WL.pure rfl rfl rfl (PV.fieldAddr T.fl56_1 rfl hb20.cells) ?_
      refine WL.op rfl (OpK.storeB T.sz2 rfl rfl (by first | rfl | exact Osl.oneCell (by assumption) | exact Osn.oneCell (by assumption) | exact Rd.oneCell (by assumption) | exact Rd.oneCell (NL.rd (by assumption)) | assumption) hb20 rfl (fun w13 hXw13 hb20 => ?_))
      have hB := hB.updL hXw13 hl20
      have hb1 := hb1.updD hXw13 hd1_20
      have hb2 := hb2.updD hXw13 hd2_20
      have hb4 := hb4.updD hXw13 hd4_20
      have ho11 := ho11.updD hXw13 hd11_20
      have hUB := hUB.step hXw13 hkB_20
      have hU0 := hU0.step hXw13 hk0_20
      refine WL.nilS ?_
      refine CW.reg ?_
      refine WL.mv rfl rfl ?_
      refine WL.mv rfl rfl ?_
      refine WL.op rfl (OpK.call rfl T.cf109 rfl (c_spec_l00Src_pick hB (by first | assumption | exact Lo.nl _) (by first | assumption | exact Lo.nl _) (by first | assumption | exact Rd.up (by assumption) hB | exact Osl.rd (by assumption) | exact Osn.rdR (by assumption)) (by first | assumption | omega | (simp only [marks_len]; omega)) (by first | assumption | omega | (simp only [marks_len]; omega)) (by first | assumption | omega | (simp only [marks_len]; omega)) (by first | assumption | omega | (simp only [marks_len]; omega))) (fun rv6 w14 hR => ?_))
      obtain ⟨hUC38, r39, at240, sd241, rfl, hm42, hm43, hbn1⟩ := hR
      have hUB := hUB.trans hUC38 ⟨hkB_1, trivial⟩
      have hU0 := hU0.trans hUC38 ⟨hk0_1, trivial⟩
      have hb2 := hb2.loop hUC38 ⟨(Dj.symm hd1_2), trivial⟩
      have hb4 := hb4.loop hUC38 ⟨(Dj.symm hd1_4), trivial⟩
      have ho11 := ho11.loop hUC38 ⟨(Dj.symm hd1_11), trivial⟩
      have hb20 := hb20.loop hUC38 ⟨(Dj.symm hd1_20), trivial⟩
      have hB := hB.loop hUC38 ⟨hl1, trivial⟩
      have hb1 := hbn1
      refine WL.pure rfl rfl rfl (PV.fieldAddr T.fl56_2 rfl hb20.cells) ?_
      refine WL.op rfl (OpK.storeB T.sz2 rfl rfl (by first | rfl | exact Osl.oneCell (by assumption) | exact Osn.oneCell (by assumption) | exact Rd.oneCell (by assumption) | exact Rd.oneCell (NL.rd (by assumption)) | assumption) hb20 rfl (fun w15 hXw15 hb20 => ?_))
      have hB := hB.updL hXw15 hl20
      have hb1 := hb1.updD hXw15 hd1_20
      have hb2 := hb2.updD hXw15 hd2_20
      have hb4 := hb4.updD hXw15 hd4_20
      have ho11 := ho11.updD hXw15 hd11_20
      have hUB := hUB.step hXw15 hkB_20
      have hU0 := hU0.step hXw15 hk0_20
      refine WL.nilS ?_
      refine CW.seq ?_
      refine CW.reg ?_
      refine WL.mv rfl rfl ?_
      refine WL.op rfl (OpK.call rfl T.cf109 rfl (c_spec_l00Src_pick hB (by first | assumption | exact Lo.nl _) (by first | assumption | exact Lo.nl _) (by first | assumption | exact Rd.up (by assumption) hB | exact Osl.rd (by assumption) | exact Osn.rdR (by assumption)) (by first | assumption | omega | (simp only [marks_len]; omega)) (by first | assumption | omega | (simp only [marks_len]; omega)) (by first | assumption | omega | (simp only [marks_len]; omega)) (by first | assumption | omega | (simp only [marks_len]; omega))) (fun rv7 w16 hR => ?_))
      obtain ⟨hUC44, r45, at246, sd247, rfl, hm48, hm49, hbn1⟩ := hR
      have hUB := hUB.trans hUC44 ⟨hkB_1, trivial⟩
      have hU0 := hU0.trans hUC44 ⟨hk0_1, trivial⟩
      have hb2 := hb2.loop hUC44 ⟨(Dj.symm hd1_2), trivial⟩
      have hb4 := hb4.loop hUC44 ⟨(Dj.symm hd1_4), trivial⟩
      have ho11 := ho11.loop hUC44 ⟨(Dj.symm hd1_11), trivial⟩
      have hb20 := hb20.loop hUC44 ⟨(Dj.symm hd1_20), trivial⟩
      have hB := hB.loop hUC44 ⟨hl1, trivial⟩
      have hb1 := hbn1
      refine WL.pure rfl rfl rfl (PV.fieldAddr T.fl56_3 rfl hb20.cells) ?_
      refine WL.op rfl (OpK.storeB T.sz2 rfl rfl (by first | rfl | exact Osl.oneCell (by assumption) | exact Osn.oneCell (by assumption) | exact Rd.oneCell (by assumption) | exact Rd.oneCell (NL.rd (by assumption)) | assumption) hb20 rfl (fun w17 hXw17 hb20 => ?_))
      have hB := hB.updL hXw17 hl20
      have hb1 := hb1.updD hXw17 hd1_20
      have hb2 := hb2.updD hXw17 hd2_20
      have hb4 := hb4.updD hXw17 hd4_20
      have ho11 := ho11.updD hXw17 hd11_20
      have hUB := hUB.step hXw17 hkB_20
      have hU0 := hU0.step hXw17 hk0_20
      refine WL.nilS ?_
      refine CW.reg ?_
      refine WL.pure rfl rfl rfl (PV.fieldAddr T.fl33_2 rfl hb4.cells) ?_
      refine WL.pure rfl rfl rfl (PV.load1 T.na31 rfl hb4.cells (Ext.refl _) rfl) ?_
      refine WL.pure rfl rfl rfl (PV.loadA T.ag56 rfl hb20.cells (Ext.refl _) rfl) ?_
      refine WL.op rfl (OpK.build4 (os := [.tmp 48]) rfl T.sl31 rfl rfl T.zv56 rfl rfl (fun v50 g50 w18 hXw18 ho50 hge50 => ?_))
      have hl50 := Lo.new hB hge50
      have hd1_50 := Dj.new hb1.ltO hge50
      have hd2_50 := Dj.new hb2.ltO hge50
      have hd4_50 := Dj.new hb4.ltO hge50
      have hd11_50 := Dj.new ho11.ltO hge50
      have hd20_50 := Dj.new hb20.ltO hge50
      have hkB_50 := OkN.new hUB hge50
      have hgB_50 := OgR.new hUB.size hge50
      have hk0_50 := OkN.new hU0 hge50
      have hg0_50 := OgR.new hU0.size hge50
      have hB := hB.trans hXw18
      have hb1 := hb1.up hXw18
      have hb2 := hb2.up hXw18
      have hb4 := hb4.up hXw18
      have ho11 := ho11.up hXw18
      have hb20 := hb20.up hXw18
      have hUB := hUB.ext hXw18
      have hU0 := hU0.ext hXw18
      refine WL.op rfl (OpK.appendN (g := gR) rfl T.sl31 T.zv56 rfl rfl ho11 rfl (Osn.src ho50) (by first | (simp only [List.length_cons, List.length_nil]; omega) | (simp_all; omega)) (fun v51 og51 w19 hXw19 ho51 hap51 => ?_))
      have hl51 := Lo.app hl11 hB hap51
      have hd1_51 := Dj.app hd1_11 hb1.ltO hap51
      have hd2_51 := Dj.app hd2_11 hb2.ltO hap51
      have hd4_51 := Dj.app hd4_11 hb4.ltO hap51
      have hd20_51 := Dj.app (Dj.symm hd11_20) hb20.ltO hap51
      have hd50_51 := Dj.app (Dj.symm hd11_50) ho50.ltO hap51
      have hkB_51 := OkN.app hUB hkB_11 hap51
      have hgB_51 := OgR.app hgB_11 hUB.size hap51
      have hk0_51 := OkN.app hU0 hk0_11 hap51
      have hg0_51 := OgR.app hg0_11 hU0.size hap51
      have hB := hB.updL hXw19 hl11
      have hb1 := hb1.updD hXw19 hd1_11
      have hb2 := hb2.updD hXw19 hd2_11
      have hb4 := hb4.updD hXw19 hd4_11
      have hb20 := hb20.updD hXw19 (Dj.symm hd11_20)
      have ho50 := ho50.updD hXw19 (Dj.symm hd11_50)
      have hUB := hUB.step hXw19 hkB_11
      have hU0 := hU0.step hXw19 hk0_11
      refine WL.pure rfl rfl rfl (PV.fieldAddr T.fl33_2 rfl hb4.cells) ?_
      refine WL.op rfl (OpK.storeB T.sz31 rfl rfl (by first | rfl | exact Osl.oneCell (by assumption) | exact Osn.oneCell (by assumption) | exact Rd.oneCell (by assumption) | exact Rd.oneCell (NL.rd (by assumption)) | assumption) hb4 rfl (fun w20 hXw20 hb4 => ?_))
      have hB := hB.updL hXw20 hl4
      have hb1 := hb1.updD hXw20 hd1_4
      have hb2 := hb2.updD hXw20 hd2_4
      have hb20 := hb20.updD hXw20 (Dj.symm hd4_20)
      have ho50 := ho50.updD hXw20 (Dj.symm hd4_50)
      have ho51 := ho51.updD hXw20 (Dj.symm hd4_51)
      have hUB := hUB.step hXw20 hkB_4
      have hU0 := hU0.step hXw20 hk0_4
      refine WL.nil ?_
      refine NQ.block ?_
      refine NQ.then ?_
      refine CW.reg ?_
      refine WL.mv rfl rfl ?_
      refine WL.pure rfl rfl rfl (PV.sub rfl rfl (by constructor <;> omega)) ?_
      refine WL.asg rfl rfl ?_
      refine WL.nil ?_
      refine NQ.next (ρ := [(8, _)]) ⟨rfl, rfl, rfl, rfl, rfl, rfl, trivial⟩ ?_
      exact ⟨_, ⟨v51, og51, k + 1, _, _, _, (by simp; omega), rfl, hU0, osnE ho51 (by rfl), (by first | exact hg0_51 | exact OgR.weak hg0_51), bxE hb4 (by rfl), bxE hb1 (by rfl), (by first | omega | assumption | (simp_all; done) | (simp_all; omega)), (by simp [hrl]), (by exact okR_put hrs (by unfold okR; simp only; omega)), (by omega)⟩, by omega⟩
    try simp only [nq] at hc2
    refine CW.skipS ?_
    refine CW.seq ?_
    refine CW.reg ?_
    refine WL.mv rfl rfl ?_
    refine WL.op rfl (OpK.call rfl T.cf109 rfl (c_spec_l00Src_pick hB (by first | assumption | exact Lo.nl _) (by first | assumption | exact Lo.nl _) (by first | assumption | exact Rd.up (by assumption) hB | exact Osl.rd (by assumption) | exact Osn.rdR (by assumption)) (by first | assumption | omega | (simp only [marks_len]; omega)) (by first | assumption | omega | (simp only [marks_len]; omega)) (by first | assumption | omega | (simp only [marks_len]; omega)) (by first | assumption | omega | (simp only [marks_len]; omega))) (fun rv8 w21 hR => ?_))
    obtain ⟨hUC52, r53, at254, sd255, rfl, hm56, hm57, hbn1⟩ := hR
    have hUB := hUB.trans hUC52 ⟨hkB_1, trivial⟩
    have hU0 := hU0.trans hUC52 ⟨hk0_1, trivial⟩
    have hb2 := hb2.loop hUC52 ⟨(Dj.symm hd1_2), trivial⟩
    have hb4 := hb4.loop hUC52 ⟨(Dj.symm hd1_4), trivial⟩
    have ho11 := ho11.loop hUC52 ⟨(Dj.symm hd1_11), trivial⟩
    have hb20 := hb20.loop hUC52 ⟨(Dj.symm hd1_20), trivial⟩
    have hB := hB.loop hUC52 ⟨hl1, trivial⟩
    have hb1 := hbn1
    refine WL.pure rfl rfl rfl (PV.fieldAddr T.fl56_3 rfl hb20.cells) ?_
    refine WL.op rfl (OpK.storeB T.sz2 rfl rfl (by first | rfl | exact Osl.oneCell (by assumption) | exact Osn.oneCell (by assumption) | exact Rd.oneCell (by assumption) | exact Rd.oneCell (NL.rd (by assumption)) | assumption) hb20 rfl (fun w22 hXw22 hb20 => ?_))
    have hB := hB.updL hXw22 hl20
    have hb1 := hb1.updD hXw22 hd1_20
    have hb2 := hb2.updD hXw22 hd2_20
    have hb4 := hb4.updD hXw22 hd4_20
    have ho11 := ho11.updD hXw22 hd11_20
    have hUB := hUB.step hXw22 hkB_20
    have hU0 := hU0.step hXw22 hk0_20
    refine WL.nilS ?_
    refine CW.reg ?_
    refine WL.pure rfl rfl rfl (PV.fieldAddr T.fl33_2 rfl hb4.cells) ?_
    refine WL.pure rfl rfl rfl (PV.load1 T.na31 rfl hb4.cells (Ext.refl _) rfl) ?_
    refine WL.pure rfl rfl rfl (PV.loadA T.ag56 rfl hb20.cells (Ext.refl _) rfl) ?_
    refine WL.op rfl (OpK.build4 (os := [.tmp 48]) rfl T.sl31 rfl rfl T.zv56 rfl rfl (fun v58 g58 w23 hXw23 ho58 hge58 => ?_))
    have hl58 := Lo.new hB hge58
    have hd1_58 := Dj.new hb1.ltO hge58
    have hd2_58 := Dj.new hb2.ltO hge58
    have hd4_58 := Dj.new hb4.ltO hge58
    have hd11_58 := Dj.new ho11.ltO hge58
    have hd20_58 := Dj.new hb20.ltO hge58
    have hkB_58 := OkN.new hUB hge58
    have hgB_58 := OgR.new hUB.size hge58
    have hk0_58 := OkN.new hU0 hge58
    have hg0_58 := OgR.new hU0.size hge58
    have hB := hB.trans hXw23
    have hb1 := hb1.up hXw23
    have hb2 := hb2.up hXw23
    have hb4 := hb4.up hXw23
    have ho11 := ho11.up hXw23
    have hb20 := hb20.up hXw23
    have hUB := hUB.ext hXw23
    have hU0 := hU0.ext hXw23
    refine WL.op rfl (OpK.appendN (g := gR) rfl T.sl31 T.zv56 rfl rfl ho11 rfl (Osn.src ho58) (by first | (simp only [List.length_cons, List.length_nil]; omega) | (simp_all; omega)) (fun v59 og59 w24 hXw24 ho59 hap59 => ?_))
    have hl59 := Lo.app hl11 hB hap59
    have hd1_59 := Dj.app hd1_11 hb1.ltO hap59
    have hd2_59 := Dj.app hd2_11 hb2.ltO hap59
    have hd4_59 := Dj.app hd4_11 hb4.ltO hap59
    have hd20_59 := Dj.app (Dj.symm hd11_20) hb20.ltO hap59
    have hd58_59 := Dj.app (Dj.symm hd11_58) ho58.ltO hap59
    have hkB_59 := OkN.app hUB hkB_11 hap59
    have hgB_59 := OgR.app hgB_11 hUB.size hap59
    have hk0_59 := OkN.app hU0 hk0_11 hap59
    have hg0_59 := OgR.app hg0_11 hU0.size hap59
    have hB := hB.updL hXw24 hl11
    have hb1 := hb1.updD hXw24 hd1_11
    have hb2 := hb2.updD hXw24 hd2_11
    have hb4 := hb4.updD hXw24 hd4_11
    have hb20 := hb20.updD hXw24 (Dj.symm hd11_20)
    have ho58 := ho58.updD hXw24 (Dj.symm hd11_58)
    have hUB := hUB.step hXw24 hkB_11
    have hU0 := hU0.step hXw24 hk0_11
    refine WL.pure rfl rfl rfl (PV.fieldAddr T.fl33_2 rfl hb4.cells) ?_
    refine WL.op rfl (OpK.storeB T.sz31 rfl rfl (by first | rfl | exact Osl.oneCell (by assumption) | exact Osn.oneCell (by assumption) | exact Rd.oneCell (by assumption) | exact Rd.oneCell (NL.rd (by assumption)) | assumption) hb4 rfl (fun w25 hXw25 hb4 => ?_))
    have hB := hB.updL hXw25 hl4
    have hb1 := hb1.updD hXw25 hd1_4
    have hb2 := hb2.updD hXw25 hd2_4
    have hb20 := hb20.updD hXw25 (Dj.symm hd4_20)
    have ho58 := ho58.updD hXw25 (Dj.symm hd4_58)
    have ho59 := ho59.updD hXw25 (Dj.symm hd4_59)
    have hUB := hUB.step hXw25 hkB_4
    have hU0 := hU0.step hXw25 hk0_4
    refine WL.nil ?_
    refine NQ.block ?_
    refine NQ.then ?_
    refine CW.reg ?_
    refine WL.mv rfl rfl ?_
    refine WL.pure rfl rfl rfl (PV.sub rfl rfl (by constructor <;> omega)) ?_
    refine WL.asg rfl rfl ?_
    refine WL.nil ?_
    refine NQ.next (ρ := [(8, _)]) ⟨rfl, rfl, rfl, rfl, rfl, rfl, trivial⟩ ?_
    exact ⟨_, ⟨v59, og59, k + 1, _, _, _, (by simp; omega), rfl, hU0, osnE ho59 (by rfl), (by first | exact hg0_59 | exact OgR.weak hg0_59), bxE hb4 (by rfl), bxE hb1 (by rfl), (by first | omega | assumption | (simp_all; done) | (simp_all; omega)), (by simp [hrl]), (by exact okR_put hrs (by unfold okR; simp only; omega)), (by omega)⟩, by omega⟩
  try simp only [nq] at hc1
  refine CW.exit ?_
  refine XQ.then ?_
  refine XQ.then ?_
  refine XQ.here ?_
  refine NQ.then ?_
  refine CW.seq ?_
  refine CW.reg ?_
  refine WL.mv rfl rfl ?_
  refine WL.mv rfl rfl ?_
  refine WL.op rfl (OpK.call rfl T.cf109 rfl (c_spec_l00Src_pick hB (by first | assumption | exact Lo.nl _) (by first | assumption | exact Lo.nl _) (by first | assumption | exact Rd.up (by assumption) hB | exact Osl.rd (by assumption) | exact Osn.rdR (by assumption)) (by first | assumption | omega | (simp only [marks_len]; omega)) (by first | assumption | omega | (simp only [marks_len]; omega)) (by first | assumption | omega | (simp only [marks_len]; omega)) (by first | assumption | omega | (simp only [marks_len]; omega))) (fun rv9 w26 hR => ?_))
  obtain ⟨hUC60, r61, at262, sd263, rfl, hm64, hm65, hbn1⟩ := hR
  have hUB := hUB.trans hUC60 ⟨hkB_1, trivial⟩
  have hb2 := hb2.loop hUC60 ⟨(Dj.symm hd1_2), trivial⟩
  have hb4 := hb4.loop hUC60 ⟨(Dj.symm hd1_4), trivial⟩
  have ho11 := ho11.loop hUC60 ⟨(Dj.symm hd1_11), trivial⟩
  have hB := hB.loop hUC60 ⟨hl1, trivial⟩
  have hb1 := hbn1
  refine WL.asg rfl rfl ?_
  refine WL.nilS ?_
  refine CW.seq ?_
  refine CW.reg ?_
  refine WL.pure rfl rfl rfl (PV.fieldAddr T.fl33_2 rfl hb4.cells) ?_
  refine WL.pure rfl rfl rfl (PV.load1 T.na31 rfl hb4.cells (Ext.refl _) rfl) ?_
  refine WL.mv rfl rfl ?_
  refine WL.pure rfl rfl rfl (PV.sub rfl rfl (by constructor <;> omega)) ?_
  refine WL.mv rfl rfl ?_
  refine WL.pure rfl rfl rfl (PV.build (ks := [0, 1, 2, 3]) (os := [.tmp 58, .tmp 59, .const (.int .i64 (-1)), .const (.int .i64 1)]) (css := [[_], [_], [_], [_]]) (ds := [_, _, _, _]) T.bu56 rfl rfl ⟨rfl, rfl, rfl, rfl, trivial⟩ rfl) ?_
  refine WL.op rfl (OpK.build4 (os := [.tmp 60]) rfl T.sl31 rfl rfl T.zv56 rfl rfl (fun v66 g66 w27 hXw27 ho66 hge66 => ?_))
  have hl66 := Lo.new hB hge66
  have hd1_66 := Dj.new hb1.ltO hge66
  have hd2_66 := Dj.new hb2.ltO hge66
  have hd4_66 := Dj.new hb4.ltO hge66
  have hd11_66 := Dj.new ho11.ltO hge66
  have hkB_66 := OkN.new hUB hge66
  have hgB_66 := OgR.new hUB.size hge66
  have hB := hB.trans hXw27
  have hb1 := hb1.up hXw27
  have hb2 := hb2.up hXw27
  have hb4 := hb4.up hXw27
  have ho11 := ho11.up hXw27
  have hUB := hUB.ext hXw27
  refine WL.op rfl (OpK.appendN (g := gR) rfl T.sl31 T.zv56 rfl rfl ho11 rfl (Osn.src ho66) (by first | (simp only [List.length_cons, List.length_nil]; omega) | (simp_all; omega)) (fun v67 og67 w28 hXw28 ho67 hap67 => ?_))
  have hl67 := Lo.app hl11 hB hap67
  have hd1_67 := Dj.app hd1_11 hb1.ltO hap67
  have hd2_67 := Dj.app hd2_11 hb2.ltO hap67
  have hd4_67 := Dj.app hd4_11 hb4.ltO hap67
  have hd66_67 := Dj.app (Dj.symm hd11_66) ho66.ltO hap67
  have hkB_67 := OkN.app hUB hkB_11 hap67
  have hgB_67 := OgR.app hgB_11 hUB.size hap67
  have hB := hB.updL hXw28 hl11
  have hb1 := hb1.updD hXw28 hd1_11
  have hb2 := hb2.updD hXw28 hd2_11
  have hb4 := hb4.updD hXw28 hd4_11
  have ho66 := ho66.updD hXw28 (Dj.symm hd11_66)
  have hUB := hUB.step hXw28 hkB_11
  refine WL.pure rfl rfl rfl (PV.fieldAddr T.fl33_2 rfl hb4.cells) ?_
  refine WL.op rfl (OpK.storeB T.sz31 rfl rfl (by first | rfl | exact Osl.oneCell (by assumption) | exact Osn.oneCell (by assumption) | exact Rd.oneCell (by assumption) | exact Rd.oneCell (NL.rd (by assumption)) | assumption) hb4 rfl (fun w29 hXw29 hb4 => ?_))
  have hB := hB.updL hXw29 hl4
  have hb1 := hb1.updD hXw29 hd1_4
  have hb2 := hb2.updD hXw29 hd2_4
  have ho66 := ho66.updD hXw29 (Dj.symm hd4_66)
  have ho67 := ho67.updD hXw29 (Dj.symm hd4_67)
  have hUB := hUB.step hXw29 hkB_4
  refine WL.nilS ?_
  refine CW.seq ?_
  refine CW.reg ?_
  refine WL.pure rfl rfl rfl (PV.loadA T.ag33 rfl hb4.cells (Ext.refl _) rfl) ?_
  refine WL.op rfl (OpK.storeA T.sz33 rfl rfl rfl rfl (by simp [Value.oneCell'] <;> first | done | (repeat' apply And.intro) <;> first | rfl | exact Osl.oneCell (by assumption) | exact Osn.oneCell (by assumption) | exact Rd.oneCell (by assumption) | exact Rd.oneCell (NL.rd (by assumption)) | assumption) hb2 (fun w30 hXw30 hb2 => ?_))
  have hB := hB.updL hXw30 hl2
  have hb1 := hb1.updD hXw30 hd1_2
  have hb4 := hb4.updD hXw30 (Dj.symm hd2_4)
  have ho66 := ho66.updD hXw30 (Dj.symm hd2_66)
  have ho67 := ho67.updD hXw30 (Dj.symm hd2_67)
  have hUB := hUB.step hXw30 hkB_2
  refine WL.nilS ?_
  refine CW.ret ?_
  refine RQ.rc0 T.ag33 rfl (by first | exact Cells.up (by assumption) hB | exact Bx.cells (by assumption) | assumption) rfl ?_
  refine ⟨hUB, rs ++ [(S - 1, r61, -1, 1)], _, _, v67, og67, rfl, ?_, ?_, hb1, osnE ho67 ?_, (by first | exact hl67 | exact Lo.ogn hgB_67)⟩
  · skip
    exact ⟨by simp; omega, okR_put hrs (by unfold okR; simp only; omega)⟩
  · skip
    omega
  · skip
    rfl
theorem c_spec_R8Grammar {w : World} {b : World} {vc : Value} {bs : List Int} {S L : Int} (hB0 : Ext b w) (ha : Rd EU8 b vc bs) (hg : ∀ x ∈ bs, 0 ≤ x ∧ x ≤ 255) (hS2 : 1 ≤ S ∧ S ≤ 3) (hL2 : 1 ≤ L ∧ L ≤ 2) : Calls Try.prog 24 #[vc, .int .i64 S, .int .i64 L] w (Ret1 (fun v w' => UpdL [] w w' ∧ ∃ (rs : List R4) (u2 : Value) (og_u2 : Option Nat), v = .agg #[.int .i64 S, .int .i64 L, u2] ∧ (gramV S L rs) ∧ ((rs.length : Int) ≤ 12) ∧ Osn 4 gR w' og_u2 u2 (rs) ∧ Lo w og_u2)) := by
  have hB := hB0
  refine callsOf (vs := [_, _, _]) Try.func24 rfl Try.ntmps24 rfl rfl ?_
  have hUB : UpdL [] w w := UpdL.refl _ _
  refine CW.seq ?_
  refine CW.reg ?_
  refine WL.op rfl (OpK.alloc rfl T.zv33 rfl (fun b1 w1 hXw1 hb1 hge1 => ?_))
  have hl1 := Lo.new hB hge1
  have hkB_1 := OkN.new hUB hge1
  have hgB_1 := OgR.new hUB.size hge1
  have hB := hB.trans hXw1
  have hUB := hUB.ext hXw1
  refine WL.nilS ?_
  refine CW.seq ?_
  refine CW.reg ?_
  refine WL.mv rfl rfl ?_
  refine WL.op rfl (OpK.call rfl T.cf107 rfl (c_spec_l00From (by first | assumption | exact Rd.up (by assumption) hB | exact Osl.rd (by assumption) | exact Osn.rdR (by assumption))) (fun rv1 w2 hR => ?_))
  obtain ⟨hXw2, b2, rfl, hb2, hge2⟩ := hR
  have hl2 := Lo.new hB hge2
  have hd1_2 := Dj.new hb1.ltO hge2
  have hkB_2 := OkN.new hUB hge2
  have hgB_2 := OgR.new hUB.size hge2
  have hB := hB.trans hXw2
  have hb1 := hb1.up hXw2
  have hUB := hUB.ext hXw2
  refine WL.asg rfl rfl ?_
  refine WL.nilS ?_
  refine CW.seq ?_
  refine CW.reg ?_
  refine WL.mv rfl rfl ?_
  refine WL.mv rfl rfl ?_
  refine WL.mv rfl rfl ?_
  refine WL.op rfl (OpK.call rfl T.cf108 rfl (c_spec_l06DrawSides hB (by first | assumption | exact Lo.nl _) (by first | assumption | exact Lo.nl _) (by first | assumption | exact Rd.up (by assumption) hB | exact Osl.rd (by assumption) | exact Osn.rdR (by assumption)) (by first | assumption | omega | (simp only [marks_len]; omega)) (by first | assumption | omega | (simp only [marks_len]; omega)) (by first | assumption | omega | (simp only [marks_len]; omega)) (by first | assumption | omega | (simp only [marks_len]; omega)) (by first | assumption | omega | (simp only [marks_len]; omega))) (fun rv2 w3 hR => ?_))
  obtain ⟨hUC3, rs4, at25, sd26, v7, og7, rfl, hm8, hm9, hbn2, ho7, hq7⟩ := hR
  have hl7 := Lo.up hq7 hB
  have hd1_7 := Dj.lo hb1.ltO hq7
  have hd2_7 := Dj.lo hb2.ltO hq7
  have hkB_7 := OkN.lo hUB hq7
  have hgB_7 := OgR.lo hUB.size hq7
  have hUB := hUB.trans hUC3 ⟨hkB_2, trivial⟩
  have hb1 := hb1.loop hUC3 ⟨hd1_2, trivial⟩
  have hB := hB.loop hUC3 ⟨hl2, trivial⟩
  have hb2 := hbn2
  refine WL.op rfl (OpK.storeA T.sz33 rfl rfl rfl rfl (by simp [Value.oneCell'] <;> first | done | (repeat' apply And.intro) <;> first | rfl | exact Osl.oneCell (by assumption) | exact Osn.oneCell (by assumption) | exact Rd.oneCell (by assumption) | exact Rd.oneCell (NL.rd (by assumption)) | assumption) hb1 (fun w4 hXw4 hb1 => ?_))
  have hB := hB.updL hXw4 hl1
  have hb2 := hb2.updD hXw4 (Dj.symm hd1_2)
  have ho7 := ho7.updD hXw4 (Dj.symm hd1_7)
  have hUB := hUB.step hXw4 hkB_1
  refine WL.nilS ?_
  refine CW.ret ?_
  refine RQ.rc0 T.ag33 rfl (by first | exact Cells.up (by assumption) hB | exact Bx.cells (by assumption) | assumption) rfl ?_
  refine ⟨hUB, rs4, v7, og7, rfl, ?_, ?_, osnE ho7 ?_, (by first | exact hl7 | exact Lo.ogn hgB_7)⟩
  · skip
    exact gram_dr (by omega) (by omega) (by assumption)
  · skip
    omega
  · skip
    rfl
theorem c_spec_R8Word {w : World} {b : World} {vc : Value} {bs : List Int} {N L : Int} (hB0 : Ext b w) (ha : Rd EU8 b vc bs) (hg : ∀ x ∈ bs, 0 ≤ x ∧ x ≤ 255) (hN : 1 ≤ N ∧ N ≤ 12) (hL2 : 1 ≤ L ∧ L ≤ 2) : Calls Try.prog 25 #[vc, .int .i64 N, .int .i64 L] w (Ret1 (fun v w' => UpdL [] w w' ∧ ∃ (ws : List Int) (u : Value) (og_u : Option Nat), v = u ∧ ((ws.length : Int) = N) ∧ (∀ x ∈ ws, 0 ≤ x ∧ x ≤ L - 1) ∧ Osl VI w' og_u u (ws) ∧ Lo w og_u)) := by
  have hB := hB0
  refine callsOf (vs := [_, _, _]) Try.func25 rfl Try.ntmps25 rfl rfl ?_
  have hUB : UpdL [] w w := UpdL.refl _ _
  refine CW.seq ?_
  refine CW.reg ?_
  refine WL.asg rfl rfl ?_
  refine WL.nilS ?_
  refine CW.seq ?_
  refine CW.reg ?_
  refine WL.mv rfl rfl ?_
  refine WL.op rfl (OpK.call rfl T.cf107 rfl (c_spec_l00From (by first | assumption | exact Rd.up (by assumption) hB | exact Osl.rd (by assumption) | exact Osn.rdR (by assumption))) (fun rv1 w1 hR => ?_))
  obtain ⟨hXw1, b1, rfl, hb1, hge1⟩ := hR
  have hl1 := Lo.new hB hge1
  have hkB_1 := OkN.new hUB hge1
  have hgB_1 := OgR.new hUB.size hge1
  have hB := hB.trans hXw1
  have hUB := hUB.ext hXw1
  refine WL.asg rfl rfl ?_
  refine WL.nilS ?_
  refine CW.seq ?_
  refine CW.reg ?_
  refine WL.op rfl (OpK.buildS VI (os := []) [] rfl T.sl28 rfl rfl T.zv2 rfl (by intro z hz; cases hz) rfl (fun v2 g2 w2 hXw2 ho2 hge2 => ?_))
  have hl2 := Lo.new hB hge2
  have hd1_2 := Dj.new hb1.ltO hge2
  have hkB_2 := OkN.new hUB hge2
  have hgB_2 := OgR.new hUB.size hge2
  have hB := hB.trans hXw2
  have hb1 := hb1.up hXw2
  have hUB := hUB.ext hXw2
  refine WL.asg rfl rfl ?_
  refine WL.nilS ?_
  refine CW.seq ?_
  refine CW.block ?_
  have hlt1 := hb1.ltO
  have hlt2 := ho2.ltO
  refine CW.loop (σk := [(2, _), (7, _)]) (fun ρ wz m => ∃ (v3 : Value) (og3 : Option Nat) (k : Nat) (ws : List Int) (aq : Nat) (sq : Int), ρ = [(1, .int .i64 (N - (k : Nat))), (8, v3)] ∧ m = N.toNat - k ∧ UpdL [(some g2), (some b1.block)] w2 wz ∧ Osl VI wz og3 v3 (ws) ∧ OgR w2 (some g2) og3 ∧ Bx wz b1 [vc, .int .i64 ((aq : Nat) : Int), .int .u64 sq] ∧ ((k : Int) ≤ N) ∧ (ws.length = k) ∧ (∀ x ∈ ws, 0 ≤ x ∧ x ≤ L - 1) ∧ (aq ≤ k ∧ 0 ≤ sq ∧ sq < 18446744073709551616)) (ρ₀ := [(1, _), (8, _)]) (m₀ := _) ⟨rfl, rfl, rfl, rfl, trivial⟩ ⟨v2, (some g2), 0, [], 0, 0, (by simp), rfl, (UpdL.refl _ _), osE ho2 (by rfl), OgR.refl _ _, bxE hb1 (by rfl), (by first | omega | rfl | (simp; done) | assumption | (simp_all; done)), (by rfl), (by intro x hx; cases hx), (by omega)⟩ ?_
  rintro _ wl1 _ ⟨v3, og3, k, ws, aq, sq, rfl, rfl, hU0, ho3, ha3, hb1, hk, hl, hw, hs⟩
  have hUB := hUB.trans hU0 ⟨hkB_2, hkB_1, trivial⟩
  have hl3 := Lo.ogr hl2 hB ha3
  have hg0_3 := ha3
  have hk0_3 : OkB [(some g2), (some b1.block)] w2 og3 := OkB.ogr (OkB.mem (by simp)) (Nat.le_refl _) ha3
  have hkB_3 := OkB.ogr hkB_2 (by first | assumption | exact UpdL.size (by assumption)) ha3
  have hgB_3 := OgR.trans hgB_2 (by first | assumption | exact UpdL.size (by assumption)) ha3
  have hd1_3 := Dj.ogr hd1_2 hlt1 ha3
  have hk0_1 : OkB [(some g2), (some b1.block)] w2 (some b1.block) := OkB.mem (by simp)
  have hB := hB.loop hU0 ⟨hl2, hl1, trivial⟩
  refine CW.seq ?_
  refine CW.seq ?_
  refine CW.reg ?_
  refine WL.mv rfl rfl ?_
  refine WL.pure rfl rfl rfl (PV.gtr rfl rfl) ?_
  refine WL.nilS ?_
  refine CW.cond rfl (fun hc1 => ?_) (fun hc1 => ?_)
  · skip
    try simp only [nq] at hc1
    refine CW.skipS ?_
    refine CW.seq ?_
    refine CW.block ?_
    refine CW.reg ?_
    refine WL.mv rfl rfl ?_
    refine WL.mv rfl rfl ?_
    refine WL.mv rfl rfl ?_
    refine WL.op rfl (OpK.call rfl T.cf109 rfl (c_spec_l00Src_pick hB (by first | assumption | exact Lo.nl _) (by first | assumption | exact Lo.nl _) (by first | assumption | exact Rd.up (by assumption) hB | exact Osl.rd (by assumption) | exact Osn.rdR (by assumption)) (by first | assumption | omega | (simp only [marks_len]; omega)) (by first | assumption | omega | (simp only [marks_len]; omega)) (by first | assumption | omega | (simp only [marks_len]; omega)) (by first | assumption | omega | (simp only [marks_len]; omega))) (fun rv2 w3 hR => ?_))
    obtain ⟨hUC5, r6, at27, sd28, rfl, hm9, hm10, hbn1⟩ := hR
    have hUB := hUB.trans hUC5 ⟨hkB_1, trivial⟩
    have hU0 := hU0.trans hUC5 ⟨hk0_1, trivial⟩
    have ho3 := ho3.loop hUC5 ⟨(Dj.symm hd1_3), trivial⟩
    have hB := hB.loop hUC5 ⟨hl1, trivial⟩
    have hb1 := hbn1
    refine WL.op rfl (OpK.buildS VI (os := [.tmp 19]) [_] rfl T.sl28 rfl rfl T.zv2 rfl (by intro z hz; first | rfl | (simp only [List.mem_cons, List.not_mem_nil, or_false] at hz; subst hz; exact (by first | exact Rd.cells1 (by assumption) | exact Osl.cells1 (by assumption) | exact Osn.cells1 (by assumption) | exact Rd.cells1 (NL.rd (by assumption)) | exact Inn.cell1 (by assumption) (by omega) | assumption | rfl))) rfl (fun v11 g11 w4 hXw4 ho11 hge11 => ?_))
    have hl11 := Lo.new hB hge11
    have hd1_11 := Dj.new hb1.ltO hge11
    have hd3_11 := Dj.new ho3.ltO hge11
    have hkB_11 := OkN.new hUB hge11
    have hgB_11 := OgR.new hUB.size hge11
    have hk0_11 := OkN.new hU0 hge11
    have hg0_11 := OgR.new hU0.size hge11
    have hB := hB.trans hXw4
    have hb1 := hb1.up hXw4
    have ho3 := ho3.up hXw4
    have hUB := hUB.ext hXw4
    have hU0 := hU0.ext hXw4
    refine WL.op rfl (OpK.appendS (f := VI) rfl T.sl28 T.zv2 rfl rfl ho3 rfl (Osl.src ho11 (fun _ => rfl)) (by first | (simp only [List.length_cons, List.length_nil]; omega) | (simp_all; omega)) (fun v12 og12 w5 hXw5 ho12 hap12 => ?_))
    have hl12 := Lo.app hl3 hB hap12
    have hd1_12 := Dj.app hd1_3 hb1.ltO hap12
    have hd11_12 := Dj.app (Dj.symm hd3_11) ho11.ltO hap12
    have hkB_12 := OkN.app hUB hkB_3 hap12
    have hgB_12 := OgR.app hgB_3 hUB.size hap12
    have hk0_12 := OkN.app hU0 hk0_3 hap12
    have hg0_12 := OgR.app hg0_3 hU0.size hap12
    have hB := hB.updL hXw5 hl3
    have hb1 := hb1.updD hXw5 hd1_3
    have ho11 := ho11.updD hXw5 (Dj.symm hd3_11)
    have hUB := hUB.step hXw5 hkB_3
    have hU0 := hU0.step hXw5 hk0_3
    refine WL.asg rfl rfl ?_
    refine WL.nil ?_
    refine NQ.block ?_
    refine NQ.then ?_
    refine CW.reg ?_
    refine WL.mv rfl rfl ?_
    refine WL.pure rfl rfl rfl (PV.sub rfl rfl (by constructor <;> omega)) ?_
    refine WL.asg rfl rfl ?_
    refine WL.nil ?_
    refine NQ.next (ρ := [(1, _), (8, _)]) ⟨rfl, rfl, rfl, rfl, trivial⟩ ?_
    exact ⟨_, ⟨v12, og12, k + 1, _, _, _, (by simp; omega), rfl, hU0, osE ho12 (by first | rfl | (simp_all; done) | (simp_all; omega)), (by first | exact hg0_12 | exact OgR.weak hg0_12), bxE hb1 (by first | rfl | (simp_all; done) | (simp_all; omega)), (by first | omega | assumption | (simp_all; done) | (simp_all; omega)), (by simp [hl]), (by exact dr_in hw (by omega)), (by omega)⟩, by omega⟩
  try simp only [nq] at hc1
  refine CW.exit ?_
  refine XQ.then ?_
  refine XQ.then ?_
  refine XQ.here ?_
  refine NQ.then ?_
  refine CW.seq ?_
  refine CW.reg ?_
  refine WL.mv rfl rfl ?_
  refine WL.asg rfl rfl ?_
  refine WL.nilS ?_
  refine CW.ret ?_
  refine RQ.r1 rfl ?_
  refine ⟨hUB, ws, v3, og3, rfl, ?_, ?_, osE ho3 ?_, (by first | exact hl3 | exact Lo.ogn hgB_3)⟩
  · skip
    omega
  · skip
    assumption
  · skip
    rfl
theorem c_impl_within {w : World} {n lo hi : Int} : Calls Try.prog 104 #[.int .i64 n, .int .i64 lo, .int .i64 hi] w (Ret1 (RQt (.bool (decide (lo ≤ n ∧ n ≤ hi))) w)) := by
  have hB : Ext w w := Ext.refl w
  refine callsOf (vs := [_, _, _]) Try.func104 rfl Try.ntmps104 rfl rfl ?_
  refine CW.seq ?_
  refine CW.reg ?_
  refine WL.asg rfl rfl ?_
  refine WL.nilS ?_
  refine CW.seq ?_
  refine CW.reg ?_
  refine WL.mv rfl rfl ?_
  refine WL.mv rfl rfl ?_
  refine WL.pure rfl rfl rfl (PV.geq rfl rfl) ?_
  refine WL.mv rfl rfl ?_
  refine WL.split (t := 10) rfl (fun hc1 => ?_) (fun hc1 => ?_)
  rotate_left
  · skip
    try simp only [nq] at hc1
    refine WL.skip rfl rfl rfl rfl rfl ?_
    refine WL.skip rfl rfl rfl rfl rfl ?_
    refine WL.skip rfl rfl rfl rfl rfl ?_
    refine WL.pure rfl rfl rfl (PV.pickF rfl rfl) ?_
    refine WL.asg rfl rfl ?_
    refine WL.nilS ?_
    refine CW.ret ?_
    refine RQ.r1 rfl ?_
    refine ⟨?_, hB⟩
    first | rfl | exact bT (by omega) | exact bF (by omega) | exact bD (by omega) | exact iE (by omega) | (simp_all; done) | (simp_all; omega) | (simp_all; intros; omega)
  try simp only [nq] at hc1
  refine WL.pureG rfl rfl rfl rfl rfl (PV.move rfl) ?_
  refine WL.pureG rfl rfl rfl rfl rfl (PV.move rfl) ?_
  refine WL.pureG rfl rfl rfl rfl rfl (PV.leq rfl rfl) ?_
  refine WL.pure rfl rfl rfl (PV.pickT rfl rfl) ?_
  refine WL.asg rfl rfl ?_
  refine WL.nilS ?_
  refine CW.ret ?_
  refine RQ.r1 rfl ?_
  refine ⟨?_, hB⟩
  first | rfl | exact bT (by omega) | exact bF (by omega) | exact bD (by omega) | exact iE (by omega) | (simp_all; done) | (simp_all; omega) | (simp_all; intros; omega)
theorem c_impl_ValidGrammar {w : World} {a0 : Int} {a1 : Int} {va2 : Value} {xa2 : List R4}  (ha2 : Rd ER w va2 xa2) : Calls Try.prog 103 #[.agg #[.int .i64 a0, .int .i64 a1, va2]] w (Ret1 (RQt (.bool (decide (gramV a0 a1 xa2))) w)) := by
  have hB : Ext w w := Ext.refl w
  have hla2 := ha2.leI
  refine callsOf (vs := [_]) Try.func103 rfl Try.ntmps103 rfl rfl ?_
  refine CW.seq ?_
  refine CW.reg ?_
  refine WL.op rfl (OpK.box rfl rfl (by first | exact Rd.cells1 (by assumption) | exact Osl.cells1 (by assumption) | exact Osn.cells1 (by assumption) | exact Rd.cells1 (NL.rd (by assumption)) | exact Inn.cell1 (by assumption) (by omega) | assumption | rfl) (fun b1 w1 hXw1 hb1 hge1 => ?_))
  have hl1 := Lo.new hB hge1
  have hB := hB.trans hXw1
  refine WL.asg rfl rfl ?_
  refine WL.nilS ?_
  refine CW.seq ?_
  refine CW.seq ?_
  refine CW.reg ?_
  refine WL.pure rfl rfl rfl (PV.fieldAddr T.fl33_0 rfl hb1.cells) ?_
  refine WL.pure rfl rfl rfl (PV.load1 T.na2 rfl hb1.cells (Ext.refl _) rfl) ?_
  refine WL.op rfl (OpK.callR rfl T.cf104 rfl (c_impl_within) (fun w2 hXw2 => ?_))
  have hB := hB.trans hXw2
  have hb1 := hb1.up hXw2
  refine WL.pure rfl rfl rfl (PV.not rfl) ?_
  refine WL.mv rfl rfl ?_
  refine WL.split (t := 10) rfl (fun hc1 => ?_) (fun hc1 => ?_)
  · skip
    try simp only [nq] at hc1
    refine WL.skip rfl rfl rfl rfl rfl ?_
    refine WL.skip rfl rfl rfl rfl rfl ?_
    refine WL.skip rfl rfl rfl rfl rfl ?_
    refine WL.skip rfl rfl rfl rfl rfl ?_
    refine WL.pure rfl rfl rfl (PV.pickT rfl rfl) ?_
    refine WL.mv rfl rfl ?_
    refine WL.skip rfl rfl rfl rfl rfl ?_
    refine WL.skip rfl rfl rfl rfl rfl ?_
    refine WL.skip rfl rfl rfl rfl rfl ?_
    refine WL.skip rfl rfl rfl rfl rfl ?_
    refine WL.pure rfl rfl rfl (PV.pickT rfl rfl) ?_
    refine WL.nilS ?_
    refine CW.condT rfl ?_
    refine CW.seq ?_
    refine CW.reg ?_
    refine WL.asg rfl rfl ?_
    refine WL.nilS ?_
    refine CW.ret ?_
    refine RQ.then ?_
    refine RQ.r1 rfl ?_
    refine ⟨?_, hB⟩
    exact bF (by rintro ⟨h1, h2, h3, h4⟩; first | omega | (have h5 := h4 k (by omega); simp only [okR] at h5; omega))
  try simp only [nq] at hc1
  refine WL.pureG rfl rfl rfl rfl rfl (PV.fieldAddr T.fl33_1 rfl hb1.cells) ?_
  refine WL.pureG rfl rfl rfl rfl rfl (PV.load1 T.na2 rfl hb1.cells (Ext.refl _) rfl) ?_
  refine WL.opG rfl rfl rfl (OpK.callR rfl T.cf104 rfl (c_impl_within) (fun w3 hXw3 => ?_))
  have hB := hB.trans hXw3
  have hb1 := hb1.up hXw3
  refine WL.pureG rfl rfl rfl rfl rfl (PV.not rfl) ?_
  refine WL.pure rfl rfl rfl (PV.pickF rfl rfl) ?_
  refine WL.mv rfl rfl ?_
  refine WL.split (t := 16) rfl (fun hc2 => ?_) (fun hc2 => ?_)
  · skip
    try simp only [nq] at hc2
    refine WL.skip rfl rfl rfl rfl rfl ?_
    refine WL.skip rfl rfl rfl rfl rfl ?_
    refine WL.skip rfl rfl rfl rfl rfl ?_
    refine WL.skip rfl rfl rfl rfl rfl ?_
    refine WL.pure rfl rfl rfl (PV.pickT rfl rfl) ?_
    refine WL.nilS ?_
    refine CW.condT rfl ?_
    refine CW.seq ?_
    refine CW.reg ?_
    refine WL.asg rfl rfl ?_
    refine WL.nilS ?_
    refine CW.ret ?_
    refine RQ.then ?_
    refine RQ.r1 rfl ?_
    refine ⟨?_, hB⟩
    exact bF (by rintro ⟨h1, h2, h3, h4⟩; first | omega | (have h5 := h4 k (by omega); simp only [okR] at h5; omega))
  try simp only [nq] at hc2
  refine WL.pureG rfl rfl rfl rfl rfl (PV.fieldAddr T.fl33_2 rfl hb1.cells) ?_
  refine WL.pureG rfl rfl rfl rfl rfl (PV.load1 T.na31 rfl hb1.cells (Ext.refl _) rfl) ?_
  refine WL.pureG rfl rfl rfl rfl rfl ((by first | exact PV.len rfl (by assumption) T.sl31 | exact PV.lenOs rfl (by assumption) T.sl31 | exact PV.len rfl (NL.rd (by assumption)) T.sl31 | exact PV.len rfl (Inn.rd (by assumption) (by omega)) T.sl31)) ?_
  refine WL.pureG rfl rfl rfl rfl rfl (PV.gtr rfl rfl) ?_
  refine WL.pure rfl rfl rfl (PV.pickF rfl rfl) ?_
  refine WL.nilS ?_
  refine CW.cond rfl (fun hc3 => ?_) (fun hc3 => ?_)
  · skip
    try simp only [nq] at hc3
    refine CW.seq ?_
    refine CW.reg ?_
    refine WL.asg rfl rfl ?_
    refine WL.nilS ?_
    refine CW.ret ?_
    refine RQ.then ?_
    refine RQ.r1 rfl ?_
    refine ⟨?_, hB⟩
    exact bF (by rintro ⟨h1, h2, h3, h4⟩; first | omega | (have h5 := h4 k (by omega); simp only [okR] at h5; omega))
  try simp only [nq] at hc3
  refine CW.skipS ?_
  refine CW.seq ?_
  refine CW.seq ?_
  refine CW.reg ?_
  refine WL.pure rfl rfl rfl (PV.fieldAddr T.fl33_2 rfl hb1.cells) ?_
  refine WL.pure rfl rfl rfl (PV.load1 T.na31 rfl hb1.cells (Ext.refl _) rfl) ?_
  refine WL.pure rfl rfl rfl ((by first | exact PV.len rfl (by assumption) T.sl31 | exact PV.lenOs rfl (by assumption) T.sl31 | exact PV.len rfl (NL.rd (by assumption)) T.sl31 | exact PV.len rfl (Inn.rd (by assumption) (by omega)) T.sl31)) ?_
  refine WL.mv rfl rfl ?_
  refine WL.nilS ?_
  refine CW.block ?_
  refine CW.loop (σk := [(1, _), (23, _), (24, _)]) (fun ρ wz m => ∃ (k : Nat), ρ = [(25, .int .i64 (k : Nat))] ∧ m = xa2.length - k ∧ UpdL [] w3 wz ∧ (k ≤ xa2.length) ∧ (∀ q : Nat, q < k → okR a0 a1 (xa2.getD q (0, 0, 0, 0)))) (ρ₀ := [(25, _)]) (m₀ := _) ⟨rfl, rfl, rfl, rfl, trivial⟩ ⟨0, rfl, rfl, (UpdL.refl _ _), (by first | omega | rfl | (simp; done) | assumption | (simp_all; done)), (by intro q h1; exact absurd h1 (by omega))⟩ ?_
  rintro _ wl1 _ ⟨k, rfl, rfl, hU0, hk, hq⟩
  have hb1 := hb1.loop hU0 trivial
  have hB := hB.loop hU0 trivial
  refine CW.seq ?_
  refine CW.reg ?_
  refine WL.pure rfl rfl rfl (PV.lss rfl rfl) ?_
  refine WL.nilS ?_
  refine CW.seq ?_
  refine CW.cond rfl (fun hc4 => ?_) (fun hc4 => ?_)
  · skip
    try simp only [nq] at hc4
    refine CW.skipS ?_
    refine CW.seq ?_
    refine CW.block ?_
    refine CW.seq ?_
    refine CW.reg ?_
    first
      | refine WL.at (x := .tmp 23) (y := .tmp 25) (E := ER) ((0, 0, 0, 0)) rfl rfl (by first | assumption | exact Inn.rd (by assumption) (by omega)) (by first | omega | (simp only [List.length_set]; omega) | (simp only [List.length_append, List.length_take, List.length_replicate, List.length_drop]; omega)) (fun p1 csp1 hpp1 hcp1 hq => ?_)
      | refine WL.atZ (x := .tmp 23) (y := .tmp 25) (E := ER) ((0, 0, 0, 0)) rfl rfl (by first | assumption | exact Inn.rd (by assumption) (by omega)) (by first | omega | (simp only [List.length_set]; omega) | (simp only [List.length_append, List.length_take, List.length_replicate, List.length_drop]; omega)) (fun p1 csp1 hpp1 hzp1 hcp1 hq => ?_)
    cases hq
    refine WL.pure rfl rfl rfl ((by first | exact PV.indexAddr hpp1 rfl rfl T.sl31 | exact PV.indexAddr hpp1 rfl (by rw [← hzp1]; rfl) T.sl31)) ?_
    refine WL.pure rfl rfl rfl ((by first | exact PV.loadA T.ag56 rfl (by first | exact Cells.up (by assumption) hB | exact Bx.cells (by assumption) | assumption) (Ext.refl _) rfl | exact PV.loadP (ds := [_, _, _, _]) T.ag56 rfl (by first | exact Cells.up (by assumption) hB | exact Bx.cells (by assumption) | assumption) (Ext.refl _) rfl rfl)) ?_
    refine WL.op rfl (OpK.alloc rfl T.zv56 rfl (fun b2 w4 hXw4 hb2 hge2 => ?_))
    have hl2 := Lo.new hB hge2
    have hd1_2 := Dj.new hb1.ltO hge2
    have hk0_2 := OkN.new hU0 hge2
    have hg0_2 := OgR.new hU0.size hge2
    have hB := hB.trans hXw4
    have hb1 := hb1.up hXw4
    have hU0 := hU0.ext hXw4
    refine WL.op rfl (OpK.storeA T.sz56 rfl rfl rfl rfl (by simp [Value.oneCell'] <;> first | done | (repeat' apply And.intro) <;> first | rfl | exact Osl.oneCell (by assumption) | exact Osn.oneCell (by assumption) | exact Rd.oneCell (by assumption) | exact Rd.oneCell (NL.rd (by assumption)) | assumption) hb2 (fun w5 hXw5 hb2 => ?_))
    have hB := hB.updL hXw5 hl2
    have hb1 := hb1.updD hXw5 hd1_2
    have hU0 := hU0.step hXw5 hk0_2
    refine WL.nilS ?_
    refine CW.seq ?_
    refine CW.reg ?_
    refine WL.pure rfl rfl rfl (PV.fieldAddr T.fl33_0 rfl hb1.cells) ?_
    refine WL.pure rfl rfl rfl (PV.load1 T.na2 rfl hb1.cells (Ext.refl _) rfl) ?_
    refine WL.pure rfl rfl rfl (PV.sub rfl rfl (by constructor <;> omega)) ?_
    refine WL.asg rfl rfl ?_
    refine WL.nilS ?_
    refine CW.seq ?_
    refine CW.seq ?_
    refine CW.reg ?_
    refine WL.pure rfl rfl rfl (PV.fieldAddr T.fl56_2 rfl hb2.cells) ?_
    refine WL.pure rfl rfl rfl (PV.load1 T.na2 rfl hb2.cells (Ext.refl _) rfl) ?_
    refine WL.pure rfl rfl rfl (PV.eql rfl rfl) ?_
    refine WL.nilS ?_
    refine CW.cond rfl (fun hc5 => ?_) (fun hc5 => ?_)
    · skip
      try simp only [nq] at hc5
      refine CW.reg ?_
      refine WL.pure rfl rfl rfl (PV.fieldAddr T.fl33_1 rfl hb1.cells) ?_
      refine WL.pure rfl rfl rfl (PV.load1 T.na2 rfl hb1.cells (Ext.refl _) rfl) ?_
      refine WL.pure rfl rfl rfl (PV.sub rfl rfl (by constructor <;> omega)) ?_
      refine WL.asg rfl rfl ?_
      refine WL.nilS ?_
      refine CW.seq ?_
      refine CW.reg ?_
      refine WL.pure rfl rfl rfl (PV.fieldAddr T.fl56_0 rfl hb2.cells) ?_
      refine WL.pure rfl rfl rfl (PV.load1 T.na2 rfl hb2.cells (Ext.refl _) rfl) ?_
      refine WL.pure rfl rfl rfl (PV.fieldAddr T.fl33_0 rfl hb1.cells) ?_
      refine WL.pure rfl rfl rfl (PV.load1 T.na2 rfl hb1.cells (Ext.refl _) rfl) ?_
      refine WL.pure rfl rfl rfl (PV.sub rfl rfl (by constructor <;> omega)) ?_
      refine WL.op rfl (OpK.callR rfl T.cf104 rfl (c_impl_within) (fun w6 hXw6 => ?_))
      have hB := hB.trans hXw6
      have hb1 := hb1.up hXw6
      have hb2 := hb2.up hXw6
      have hU0 := hU0.ext hXw6
      refine WL.pure rfl rfl rfl (PV.not rfl) ?_
      refine WL.mv rfl rfl ?_
      refine WL.split (t := 45) rfl (fun hc6 => ?_) (fun hc6 => ?_)
      · skip
        try simp only [nq] at hc6
        refine WL.skip rfl rfl rfl rfl rfl ?_
        refine WL.skip rfl rfl rfl rfl rfl ?_
        refine WL.skip rfl rfl rfl rfl rfl ?_
        refine WL.skip rfl rfl rfl rfl rfl ?_
        refine WL.skip rfl rfl rfl rfl rfl ?_
        refine WL.pure rfl rfl rfl (PV.pickT rfl rfl) ?_
        refine WL.mv rfl rfl ?_
        refine WL.skip rfl rfl rfl rfl rfl ?_
        refine WL.skip rfl rfl rfl rfl rfl ?_
        refine WL.skip rfl rfl rfl rfl rfl ?_
        refine WL.skip rfl rfl rfl rfl rfl ?_
        refine WL.skip rfl rfl rfl rfl rfl ?_
        refine WL.skip rfl rfl rfl rfl rfl ?_
        refine WL.skip rfl rfl rfl rfl rfl ?_
        refine WL.pure rfl rfl rfl (PV.pickT rfl rfl) ?_
        refine WL.mv rfl rfl ?_
        refine WL.skip rfl rfl rfl rfl rfl ?_
        refine WL.skip rfl rfl rfl rfl rfl ?_
        refine WL.skip rfl rfl rfl rfl rfl ?_
        refine WL.skip rfl rfl rfl rfl rfl ?_
        refine WL.pure rfl rfl rfl (PV.pickT rfl rfl) ?_
        refine WL.nilS ?_
        refine CW.condT rfl ?_
        refine CW.seq ?_
        refine CW.reg ?_
        refine WL.asg rfl rfl ?_
        refine WL.nilS ?_
        refine CW.ret ?_
        refine RQ.block ?_
        refine RQ.then ?_
        refine RQ.then ?_
        refine RQ.block ?_
        refine RQ.then ?_
        refine RQ.r1 rfl ?_
        refine ⟨?_, hB⟩
        exact bF (by rintro ⟨h1, h2, h3, h4⟩; first | omega | (have h5 := h4 k (by omega); simp only [okR] at h5; omega))
      try simp only [nq] at hc6
      refine WL.pureG rfl rfl rfl rfl rfl (PV.fieldAddr T.fl56_1 rfl hb2.cells) ?_
      refine WL.pureG rfl rfl rfl rfl rfl (PV.load1 T.na2 rfl hb2.cells (Ext.refl _) rfl) ?_
      refine WL.pureG rfl rfl rfl rfl rfl (PV.move rfl) ?_
      refine WL.opG rfl rfl rfl (OpK.callR rfl T.cf104 rfl (c_impl_within) (fun w7 hXw7 => ?_))
      have hB := hB.trans hXw7
      have hb1 := hb1.up hXw7
      have hb2 := hb2.up hXw7
      have hU0 := hU0.ext hXw7
      refine WL.pureG rfl rfl rfl rfl rfl (PV.not rfl) ?_
      refine WL.pure rfl rfl rfl (PV.pickF rfl rfl) ?_
      refine WL.mv rfl rfl ?_
      refine WL.split (t := 52) rfl (fun hc7 => ?_) (fun hc7 => ?_)
      · skip
        try simp only [nq] at hc7
        refine WL.skip rfl rfl rfl rfl rfl ?_
        refine WL.skip rfl rfl rfl rfl rfl ?_
        refine WL.skip rfl rfl rfl rfl rfl ?_
        refine WL.skip rfl rfl rfl rfl rfl ?_
        refine WL.skip rfl rfl rfl rfl rfl ?_
        refine WL.skip rfl rfl rfl rfl rfl ?_
        refine WL.skip rfl rfl rfl rfl rfl ?_
        refine WL.pure rfl rfl rfl (PV.pickT rfl rfl) ?_
        refine WL.mv rfl rfl ?_
        refine WL.skip rfl rfl rfl rfl rfl ?_
        refine WL.skip rfl rfl rfl rfl rfl ?_
        refine WL.skip rfl rfl rfl rfl rfl ?_
        refine WL.skip rfl rfl rfl rfl rfl ?_
        refine WL.pure rfl rfl rfl (PV.pickT rfl rfl) ?_
        refine WL.nilS ?_
        refine CW.condT rfl ?_
        refine CW.seq ?_
        refine CW.reg ?_
        refine WL.asg rfl rfl ?_
        refine WL.nilS ?_
        refine CW.ret ?_
        refine RQ.block ?_
        refine RQ.then ?_
        refine RQ.then ?_
        refine RQ.block ?_
        refine RQ.then ?_
        refine RQ.r1 rfl ?_
        refine ⟨?_, hB⟩
        exact bF (by rintro ⟨h1, h2, h3, h4⟩; first | omega | (have h5 := h4 k (by omega); simp only [okR] at h5; omega))
      try simp only [nq] at hc7
      refine WL.pureG rfl rfl rfl rfl rfl (PV.fieldAddr T.fl56_2 rfl hb2.cells) ?_
      refine WL.pureG rfl rfl rfl rfl rfl (PV.load1 T.na2 rfl hb2.cells (Ext.refl _) rfl) ?_
      refine WL.pureG rfl rfl rfl rfl rfl (PV.fieldAddr T.fl33_0 rfl hb1.cells) ?_
      refine WL.pureG rfl rfl rfl rfl rfl (PV.load1 T.na2 rfl hb1.cells (Ext.refl _) rfl) ?_
      refine WL.pureG rfl rfl rfl rfl rfl (PV.sub rfl rfl (by constructor <;> omega)) ?_
      refine WL.opG rfl rfl rfl (OpK.callR rfl T.cf104 rfl (c_impl_within) (fun w8 hXw8 => ?_))
      have hB := hB.trans hXw8
      have hb1 := hb1.up hXw8
      have hb2 := hb2.up hXw8
      have hU0 := hU0.ext hXw8
      refine WL.pureG rfl rfl rfl rfl rfl (PV.not rfl) ?_
      refine WL.pure rfl rfl rfl (PV.pickF rfl rfl) ?_
      refine WL.mv rfl rfl ?_
      refine WL.split (t := 61) rfl (fun hc8 => ?_) (fun hc8 => ?_)
      · skip
        try simp only [nq] at hc8
        refine WL.skip rfl rfl rfl rfl rfl ?_
        refine WL.skip rfl rfl rfl rfl rfl ?_
        refine WL.skip rfl rfl rfl rfl rfl ?_
        refine WL.skip rfl rfl rfl rfl rfl ?_
        refine WL.pure rfl rfl rfl (PV.pickT rfl rfl) ?_
        refine WL.nilS ?_
        refine CW.condT rfl ?_
        refine CW.seq ?_
        refine CW.reg ?_
        refine WL.asg rfl rfl ?_
        refine WL.nilS ?_
        refine CW.ret ?_
        refine RQ.block ?_
        refine RQ.then ?_
        refine RQ.then ?_
        refine RQ.block ?_
        refine RQ.then ?_
        refine RQ.r1 rfl ?_
        refine ⟨?_, hB⟩
        exact bF (by rintro ⟨h1, h2, h3, h4⟩; first | omega | (have h5 := h4 k (by omega); simp only [okR] at h5; omega))
      try simp only [nq] at hc8
      refine WL.pureG rfl rfl rfl rfl rfl (PV.fieldAddr T.fl56_3 rfl hb2.cells) ?_
      refine WL.pureG rfl rfl rfl rfl rfl (PV.load1 T.na2 rfl hb2.cells (Ext.refl _) rfl) ?_
      refine WL.opG rfl rfl rfl (OpK.callR rfl T.cf104 rfl (c_impl_within) (fun w9 hXw9 => ?_))
      have hB := hB.trans hXw9
      have hb1 := hb1.up hXw9
      have hb2 := hb2.up hXw9
      have hU0 := hU0.ext hXw9
      refine WL.pureG rfl rfl rfl rfl rfl (PV.not rfl) ?_
      refine WL.pure rfl rfl rfl (PV.pickF rfl rfl) ?_
      refine WL.nilS ?_
      refine CW.cond rfl (fun hc9 => ?_) (fun hc9 => ?_)
      · skip
        try simp only [nq] at hc9
        refine CW.seq ?_
        refine CW.reg ?_
        refine WL.asg rfl rfl ?_
        refine WL.nilS ?_
        refine CW.ret ?_
        refine RQ.block ?_
        refine RQ.then ?_
        refine RQ.then ?_
        refine RQ.block ?_
        refine RQ.then ?_
        refine RQ.r1 rfl ?_
        refine ⟨?_, hB⟩
        exact bF (by rintro ⟨h1, h2, h3, h4⟩; first | omega | (have h5 := h4 k (by omega); simp only [okR] at h5; omega))
      try simp only [nq] at hc9
      refine CW.skip ?_
      refine NQ.block ?_
      refine NQ.then ?_
      refine CW.reg ?_
      refine WL.pure rfl rfl rfl (PV.add rfl rfl (by constructor <;> omega)) ?_
      refine WL.mv rfl rfl ?_
      refine WL.nil ?_
      refine NQ.next (ρ := [(25, _)]) ⟨rfl, rfl, rfl, rfl, trivial⟩ ?_
      exact ⟨_, ⟨k + 1, rfl, rfl, hU0, (by first | omega | assumption | (simp_all; done) | (simp_all; omega)), (by intro q h1; by_cases h : q < k; exact hq q h; obtain rfl : q = k := (by omega); simp only [okR]; omega)⟩, by omega⟩
    try simp only [nq] at hc5
    refine CW.skipS ?_
    refine CW.seq ?_
    refine CW.reg ?_
    refine WL.pure rfl rfl rfl (PV.fieldAddr T.fl56_0 rfl hb2.cells) ?_
    refine WL.pure rfl rfl rfl (PV.load1 T.na2 rfl hb2.cells (Ext.refl _) rfl) ?_
    refine WL.pure rfl rfl rfl (PV.fieldAddr T.fl33_0 rfl hb1.cells) ?_
    refine WL.pure rfl rfl rfl (PV.load1 T.na2 rfl hb1.cells (Ext.refl _) rfl) ?_
    refine WL.pure rfl rfl rfl (PV.sub rfl rfl (by constructor <;> omega)) ?_
    refine WL.op rfl (OpK.callR rfl T.cf104 rfl (c_impl_within) (fun w10 hXw10 => ?_))
    have hB := hB.trans hXw10
    have hb1 := hb1.up hXw10
    have hb2 := hb2.up hXw10
    have hU0 := hU0.ext hXw10
    refine WL.pure rfl rfl rfl (PV.not rfl) ?_
    refine WL.mv rfl rfl ?_
    refine WL.split (t := 45) rfl (fun hc10 => ?_) (fun hc10 => ?_)
    · skip
      try simp only [nq] at hc10
      refine WL.skip rfl rfl rfl rfl rfl ?_
      refine WL.skip rfl rfl rfl rfl rfl ?_
      refine WL.skip rfl rfl rfl rfl rfl ?_
      refine WL.skip rfl rfl rfl rfl rfl ?_
      refine WL.skip rfl rfl rfl rfl rfl ?_
      refine WL.pure rfl rfl rfl (PV.pickT rfl rfl) ?_
      refine WL.mv rfl rfl ?_
      refine WL.skip rfl rfl rfl rfl rfl ?_
      refine WL.skip rfl rfl rfl rfl rfl ?_
      refine WL.skip rfl rfl rfl rfl rfl ?_
      refine WL.skip rfl rfl rfl rfl rfl ?_
      refine WL.skip rfl rfl rfl rfl rfl ?_
      refine WL.skip rfl rfl rfl rfl rfl ?_
      refine WL.skip rfl rfl rfl rfl rfl ?_
      refine WL.pure rfl rfl rfl (PV.pickT rfl rfl) ?_
      refine WL.mv rfl rfl ?_
      refine WL.skip rfl rfl rfl rfl rfl ?_
      refine WL.skip rfl rfl rfl rfl rfl ?_
      refine WL.skip rfl rfl rfl rfl rfl ?_
      refine WL.skip rfl rfl rfl rfl rfl ?_
      refine WL.pure rfl rfl rfl (PV.pickT rfl rfl) ?_
      refine WL.nilS ?_
      refine CW.condT rfl ?_
      refine CW.seq ?_
      refine CW.reg ?_
      refine WL.asg rfl rfl ?_
      refine WL.nilS ?_
      refine CW.ret ?_
      refine RQ.block ?_
      refine RQ.then ?_
      refine RQ.then ?_
      refine RQ.block ?_
      refine RQ.then ?_
      refine RQ.r1 rfl ?_
      refine ⟨?_, hB⟩
      exact bF (by rintro ⟨h1, h2, h3, h4⟩; first | omega | (have h5 := h4 k (by omega); simp only [okR] at h5; omega))
    try simp only [nq] at hc10
    refine WL.pureG rfl rfl rfl rfl rfl (PV.fieldAddr T.fl56_1 rfl hb2.cells) ?_
    refine WL.pureG rfl rfl rfl rfl rfl (PV.load1 T.na2 rfl hb2.cells (Ext.refl _) rfl) ?_
    refine WL.pureG rfl rfl rfl rfl rfl (PV.move rfl) ?_
    refine WL.opG rfl rfl rfl (OpK.callR rfl T.cf104 rfl (c_impl_within) (fun w11 hXw11 => ?_))
    have hB := hB.trans hXw11
    have hb1 := hb1.up hXw11
    have hb2 := hb2.up hXw11
    have hU0 := hU0.ext hXw11
    refine WL.pureG rfl rfl rfl rfl rfl (PV.not rfl) ?_
    refine WL.pure rfl rfl rfl (PV.pickF rfl rfl) ?_
    refine WL.mv rfl rfl ?_
    refine WL.split (t := 52) rfl (fun hc11 => ?_) (fun hc11 => ?_)
    · skip
      try simp only [nq] at hc11
      refine WL.skip rfl rfl rfl rfl rfl ?_
      refine WL.skip rfl rfl rfl rfl rfl ?_
      refine WL.skip rfl rfl rfl rfl rfl ?_
      refine WL.skip rfl rfl rfl rfl rfl ?_
      refine WL.skip rfl rfl rfl rfl rfl ?_
      refine WL.skip rfl rfl rfl rfl rfl ?_
      refine WL.skip rfl rfl rfl rfl rfl ?_
      refine WL.pure rfl rfl rfl (PV.pickT rfl rfl) ?_
      refine WL.mv rfl rfl ?_
      refine WL.skip rfl rfl rfl rfl rfl ?_
      refine WL.skip rfl rfl rfl rfl rfl ?_
      refine WL.skip rfl rfl rfl rfl rfl ?_
      refine WL.skip rfl rfl rfl rfl rfl ?_
      refine WL.pure rfl rfl rfl (PV.pickT rfl rfl) ?_
      refine WL.nilS ?_
      refine CW.condT rfl ?_
      refine CW.seq ?_
      refine CW.reg ?_
      refine WL.asg rfl rfl ?_
      refine WL.nilS ?_
      refine CW.ret ?_
      refine RQ.block ?_
      refine RQ.then ?_
      refine RQ.then ?_
      refine RQ.block ?_
      refine RQ.then ?_
      refine RQ.r1 rfl ?_
      refine ⟨?_, hB⟩
      exact bF (by rintro ⟨h1, h2, h3, h4⟩; first | omega | (have h5 := h4 k (by omega); simp only [okR] at h5; omega))
    try simp only [nq] at hc11
    refine WL.pureG rfl rfl rfl rfl rfl (PV.fieldAddr T.fl56_2 rfl hb2.cells) ?_
    refine WL.pureG rfl rfl rfl rfl rfl (PV.load1 T.na2 rfl hb2.cells (Ext.refl _) rfl) ?_
    refine WL.pureG rfl rfl rfl rfl rfl (PV.fieldAddr T.fl33_0 rfl hb1.cells) ?_
    refine WL.pureG rfl rfl rfl rfl rfl (PV.load1 T.na2 rfl hb1.cells (Ext.refl _) rfl) ?_
    refine WL.pureG rfl rfl rfl rfl rfl (PV.sub rfl rfl (by constructor <;> omega)) ?_
    refine WL.opG rfl rfl rfl (OpK.callR rfl T.cf104 rfl (c_impl_within) (fun w12 hXw12 => ?_))
    have hB := hB.trans hXw12
    have hb1 := hb1.up hXw12
    have hb2 := hb2.up hXw12
    have hU0 := hU0.ext hXw12
    refine WL.pureG rfl rfl rfl rfl rfl (PV.not rfl) ?_
    refine WL.pure rfl rfl rfl (PV.pickF rfl rfl) ?_
    refine WL.mv rfl rfl ?_
    refine WL.split (t := 61) rfl (fun hc12 => ?_) (fun hc12 => ?_)
    · skip
      try simp only [nq] at hc12
      refine WL.skip rfl rfl rfl rfl rfl ?_
      refine WL.skip rfl rfl rfl rfl rfl ?_
      refine WL.skip rfl rfl rfl rfl rfl ?_
      refine WL.skip rfl rfl rfl rfl rfl ?_
      refine WL.pure rfl rfl rfl (PV.pickT rfl rfl) ?_
      refine WL.nilS ?_
      refine CW.condT rfl ?_
      refine CW.seq ?_
      refine CW.reg ?_
      refine WL.asg rfl rfl ?_
      refine WL.nilS ?_
      refine CW.ret ?_
      refine RQ.block ?_
      refine RQ.then ?_
      refine RQ.then ?_
      refine RQ.block ?_
      refine RQ.then ?_
      refine RQ.r1 rfl ?_
      refine ⟨?_, hB⟩
      exact bF (by rintro ⟨h1, h2, h3, h4⟩; first | omega | (have h5 := h4 k (by omega); simp only [okR] at h5; omega))
    try simp only [nq] at hc12
    refine WL.pureG rfl rfl rfl rfl rfl (PV.fieldAddr T.fl56_3 rfl hb2.cells) ?_
    refine WL.pureG rfl rfl rfl rfl rfl (PV.load1 T.na2 rfl hb2.cells (Ext.refl _) rfl) ?_
    refine WL.opG rfl rfl rfl (OpK.callR rfl T.cf104 rfl (c_impl_within) (fun w13 hXw13 => ?_))
    have hB := hB.trans hXw13
    have hb1 := hb1.up hXw13
    have hb2 := hb2.up hXw13
    have hU0 := hU0.ext hXw13
    refine WL.pureG rfl rfl rfl rfl rfl (PV.not rfl) ?_
    refine WL.pure rfl rfl rfl (PV.pickF rfl rfl) ?_
    refine WL.nilS ?_
    refine CW.cond rfl (fun hc13 => ?_) (fun hc13 => ?_)
    · skip
      try simp only [nq] at hc13
      refine CW.seq ?_
      refine CW.reg ?_
      refine WL.asg rfl rfl ?_
      refine WL.nilS ?_
      refine CW.ret ?_
      refine RQ.block ?_
      refine RQ.then ?_
      refine RQ.then ?_
      refine RQ.block ?_
      refine RQ.then ?_
      refine RQ.r1 rfl ?_
      refine ⟨?_, hB⟩
      exact bF (by rintro ⟨h1, h2, h3, h4⟩; first | omega | (have h5 := h4 k (by omega); simp only [okR] at h5; omega))
    try simp only [nq] at hc13
    refine CW.skip ?_
    refine NQ.block ?_
    refine NQ.then ?_
    refine CW.reg ?_
    refine WL.pure rfl rfl rfl (PV.add rfl rfl (by constructor <;> omega)) ?_
    refine WL.mv rfl rfl ?_
    refine WL.nil ?_
    refine NQ.next (ρ := [(25, _)]) ⟨rfl, rfl, rfl, rfl, trivial⟩ ?_
    exact ⟨_, ⟨k + 1, rfl, rfl, hU0, (by first | omega | assumption | (simp_all; done) | (simp_all; omega)), (by intro q h1; by_cases h : q < k; exact hq q h; obtain rfl : q = k := (by omega); simp only [okR]; omega)⟩, by omega⟩
  try simp only [nq] at hc4
  refine CW.exit ?_
  refine XQ.then ?_
  refine XQ.then ?_
  refine XQ.here ?_
  refine NQ.then ?_
  refine CW.seq ?_
  refine CW.reg ?_
  refine WL.asg rfl rfl ?_
  refine WL.nilS ?_
  refine CW.ret ?_
  refine RQ.r1 rfl ?_
  refine ⟨?_, hB⟩
  exact bT ⟨by omega, by omega, by omega, fun q h => hq q (by omega)⟩
theorem c_impl_areWithin {w : World} {va : Value} {xs : List Int} {lo hi : Int} (ha : Rd EI w va xs) : Calls Try.prog 144 #[va, .int .i64 lo, .int .i64 hi] w (Ret1 (RQt (.bool (allIn xs lo hi)) w)) := by
  have hB : Ext w w := Ext.refl w
  have hla := ha.leI
  refine callsOf (vs := [_, _, _]) Try.func144 rfl Try.ntmps144 rfl rfl ?_
  refine CW.seq ?_
  refine CW.reg ?_
  refine WL.asg rfl rfl ?_
  refine WL.nilS ?_
  refine CW.seq ?_
  refine CW.seq ?_
  refine CW.reg ?_
  refine WL.mv rfl rfl ?_
  refine WL.pure rfl rfl rfl ((by first | exact PV.len rfl (by assumption) T.sl28 | exact PV.lenOs rfl (by assumption) T.sl28 | exact PV.len rfl (NL.rd (by assumption)) T.sl28 | exact PV.len rfl (Inn.rd (by assumption) (by omega)) T.sl28)) ?_
  refine WL.mv rfl rfl ?_
  refine WL.nilS ?_
  refine CW.block ?_
  refine CW.loop (σk := [(1, _), (2, _), (9, _), (10, _)]) (fun ρ wz m => ∃ (k : Nat), ρ = [(11, .int .i64 (k : Nat))] ∧ m = xs.length - k ∧ UpdL [] w wz ∧ (k ≤ xs.length) ∧ (allIn (xs.take k) lo hi = true)) (ρ₀ := [(11, _)]) (m₀ := _) ⟨rfl, rfl, rfl, rfl, rfl, trivial⟩ ⟨0, rfl, rfl, (UpdL.refl _ _), (by first | omega | rfl | (simp; done) | assumption | (simp_all; done)), (by exact allIn_zero _ _ _)⟩ ?_
  rintro _ wl1 _ ⟨k, rfl, rfl, hU0, hk, he⟩
  have hB := hB.loop hU0 trivial
  refine CW.seq ?_
  refine CW.reg ?_
  refine WL.pure rfl rfl rfl (PV.lss rfl rfl) ?_
  refine WL.nilS ?_
  refine CW.seq ?_
  refine CW.cond rfl (fun hc1 => ?_) (fun hc1 => ?_)
  · skip
    try simp only [nq] at hc1
    refine CW.skipS ?_
    refine CW.seq ?_
    refine CW.block ?_
    refine CW.seq ?_
    refine CW.reg ?_
    first
      | refine WL.at (x := .tmp 9) (y := .tmp 11) (E := EI) (0) rfl rfl (by first | assumption | exact Inn.rd (by assumption) (by omega)) (by first | omega | (simp only [List.length_set]; omega) | (simp only [List.length_append, List.length_take, List.length_replicate, List.length_drop]; omega)) (fun p1 csp1 hpp1 hcp1 hq => ?_)
      | refine WL.atZ (x := .tmp 9) (y := .tmp 11) (E := EI) (0) rfl rfl (by first | assumption | exact Inn.rd (by assumption) (by omega)) (by first | omega | (simp only [List.length_set]; omega) | (simp only [List.length_append, List.length_take, List.length_replicate, List.length_drop]; omega)) (fun p1 csp1 hpp1 hzp1 hcp1 hq => ?_)
    cases hq
    refine WL.pure rfl rfl rfl ((by first | exact PV.indexAddr hpp1 rfl rfl T.sl28 | exact PV.indexAddr hpp1 rfl (by rw [← hzp1]; rfl) T.sl28)) ?_
    refine WL.pure rfl rfl rfl ((by first | exact PV.load0 T.na2 rfl (by first | exact Cells.up (by assumption) hB | exact Bx.cells (by assumption) | assumption) (Ext.refl _) rfl | exact PV.load1 T.na2 rfl (by first | exact Cells.up (by assumption) hB | exact Bx.cells (by assumption) | assumption) (Ext.refl _) rfl)) ?_
    refine WL.asg rfl rfl ?_
    refine WL.nilS ?_
    refine CW.seq ?_
    refine CW.reg ?_
    refine WL.mv rfl rfl ?_
    refine WL.mv rfl rfl ?_
    refine WL.mv rfl rfl ?_
    refine WL.op rfl (OpK.callR rfl T.cf104 rfl (c_impl_within) (fun w1 hXw1 => ?_))
    have hB := hB.trans hXw1
    have hU0 := hU0.ext hXw1
    refine WL.pure rfl rfl rfl (PV.not rfl) ?_
    refine WL.nilS ?_
    refine CW.cond rfl (fun hc2 => ?_) (fun hc2 => ?_)
    · skip
      try simp only [nq] at hc2
      refine CW.seq ?_
      refine CW.reg ?_
      refine WL.asg rfl rfl ?_
      refine WL.nilS ?_
      refine CW.ret ?_
      refine RQ.block ?_
      refine RQ.then ?_
      refine RQ.then ?_
      refine RQ.block ?_
      refine RQ.then ?_
      refine RQ.r1 rfl ?_
      refine ⟨?_, hB⟩
      exact bE (allIn_bad (k := k) (by omega) (by assumption)).symm
    try simp only [nq] at hc2
    refine CW.skip ?_
    refine NQ.block ?_
    refine NQ.then ?_
    refine CW.reg ?_
    refine WL.pure rfl rfl rfl (PV.add rfl rfl (by constructor <;> omega)) ?_
    refine WL.mv rfl rfl ?_
    refine WL.nil ?_
    refine NQ.next (ρ := [(11, _)]) ⟨rfl, rfl, rfl, rfl, rfl, trivial⟩ ?_
    exact ⟨_, ⟨k + 1, rfl, rfl, hU0, (by first | omega | assumption | (simp_all; done) | (simp_all; omega)), (by exact allIn_step (by omega) he (by assumption))⟩, by omega⟩
  try simp only [nq] at hc1
  refine CW.exit ?_
  refine XQ.then ?_
  refine XQ.then ?_
  refine XQ.here ?_
  refine NQ.then ?_
  refine CW.seq ?_
  refine CW.reg ?_
  refine WL.asg rfl rfl ?_
  refine WL.nilS ?_
  refine CW.ret ?_
  refine RQ.r1 rfl ?_
  refine ⟨?_, hB⟩
  exact bE (allIn_all (k := k) (by omega) he).symm
theorem c_impl_IsWord {w : World} {va : Value} {xs : List Int} {L : Int} (ha : Rd EI w va xs) : Calls Try.prog 124 #[va, .int .i64 L] w (Ret1 (RQt (.bool (isWordB xs L)) w)) := by
  have hB : Ext w w := Ext.refl w
  have hla := ha.leI
  refine callsOf (vs := [_, _]) Try.func124 rfl Try.ntmps124 rfl rfl ?_
  refine CW.seq ?_
  refine CW.reg ?_
  refine WL.asg rfl rfl ?_
  refine WL.nilS ?_
  refine CW.seq ?_
  refine CW.reg ?_
  refine WL.mv rfl rfl ?_
  refine WL.op rfl (OpK.callR rfl T.cf104 rfl (c_impl_within) (fun w1 hXw1 => ?_))
  have hB := hB.trans hXw1
  refine WL.mv rfl rfl ?_
  refine WL.split (t := 7) rfl (fun hc1 => ?_) (fun hc1 => ?_)
  rotate_left
  · skip
    try simp only [nq] at hc1
    refine WL.skip rfl rfl rfl rfl rfl ?_
    refine WL.skip rfl rfl rfl rfl rfl ?_
    refine WL.skip rfl rfl rfl rfl rfl ?_
    refine WL.pure rfl rfl rfl (PV.pickF rfl rfl) ?_
    refine WL.mv rfl rfl ?_
    refine WL.skip rfl rfl rfl rfl rfl ?_
    refine WL.skip rfl rfl rfl rfl rfl ?_
    refine WL.skip rfl rfl rfl rfl rfl ?_
    refine WL.skip rfl rfl rfl rfl rfl ?_
    refine WL.pure rfl rfl rfl (PV.pickF rfl rfl) ?_
    refine WL.asg rfl rfl ?_
    refine WL.nilS ?_
    refine CW.ret ?_
    refine RQ.r1 rfl ?_
    refine ⟨?_, hB⟩
    simp only [isWordB, wordB]; first | (simp_all; done) | (simp_all; omega) | (simp_all; intros; omega)
  try simp only [nq] at hc1
  refine WL.pureG rfl rfl rfl rfl rfl (PV.move rfl) ?_
  refine WL.pureG rfl rfl rfl rfl rfl ((by first | exact PV.len rfl (by assumption) T.sl28 | exact PV.lenOs rfl (by assumption) T.sl28 | exact PV.len rfl (NL.rd (by assumption)) T.sl28 | exact PV.len rfl (Inn.rd (by assumption) (by omega)) T.sl28)) ?_
  refine WL.pureG rfl rfl rfl rfl rfl (PV.leq rfl rfl) ?_
  refine WL.pure rfl rfl rfl (PV.pickT rfl rfl) ?_
  refine WL.mv rfl rfl ?_
  refine WL.split (t := 12) rfl (fun hc2 => ?_) (fun hc2 => ?_)
  rotate_left
  · skip
    try simp only [nq] at hc2
    refine WL.skip rfl rfl rfl rfl rfl ?_
    refine WL.skip rfl rfl rfl rfl rfl ?_
    refine WL.skip rfl rfl rfl rfl rfl ?_
    refine WL.skip rfl rfl rfl rfl rfl ?_
    refine WL.pure rfl rfl rfl (PV.pickF rfl rfl) ?_
    refine WL.asg rfl rfl ?_
    refine WL.nilS ?_
    refine CW.ret ?_
    refine RQ.r1 rfl ?_
    refine ⟨?_, hB⟩
    simp only [isWordB, wordB]; first | (simp_all; done) | (simp_all; omega) | (simp_all; intros; omega)
  try simp only [nq] at hc2
  refine WL.pureG rfl rfl rfl rfl rfl (PV.move rfl) ?_
  refine WL.pureG rfl rfl rfl rfl rfl (PV.move rfl) ?_
  refine WL.pureG rfl rfl rfl rfl rfl (PV.sub rfl rfl (by constructor <;> omega)) ?_
  refine WL.opG rfl rfl rfl (OpK.callR rfl T.cf144 rfl (c_impl_areWithin (by first | assumption | exact Rd.up (by assumption) hB | exact Osl.rd (by assumption) | exact Osn.rdR (by assumption))) (fun w2 hXw2 => ?_))
  have hB := hB.trans hXw2
  refine WL.pure rfl rfl rfl (PV.pickT rfl rfl) ?_
  refine WL.asg rfl rfl ?_
  refine WL.nilS ?_
  refine CW.ret ?_
  refine RQ.r1 rfl ?_
  refine ⟨?_, hB⟩
  simp only [isWordB, wordB]; first | (simp_all; done) | (simp_all; omega) | (simp_all; intros; omega)
theorem c_impl_Grammar_has {w : World} {a0 : Int} {a1 : Int} {va2 : Value} {xa2 : List R4} {vw : Value} {xs : List Int} (ha2 : Rd ER w va2 xa2) (hw : Rd EI w vw xs) : Calls Try.prog 110 #[.agg #[.int .i64 a0, .int .i64 a1, va2], vw] w (Ret1 (RQt (.bool (canB a0 a1 xa2 xs)) w)) := by
  have hB : Ext w w := Ext.refl w
  have hla2 := ha2.leI; have hlw := hw.leI
  refine callsOf (vs := [_, _]) Try.func110 rfl Try.ntmps110 rfl rfl ?_
  refine CW.seq ?_
  refine CW.reg ?_
  refine WL.op rfl (OpK.box rfl rfl (by first | exact Rd.cells1 (by assumption) | exact Osl.cells1 (by assumption) | exact Osn.cells1 (by assumption) | exact Rd.cells1 (NL.rd (by assumption)) | exact Inn.cell1 (by assumption) (by omega) | assumption | rfl) (fun b1 w1 hXw1 hb1 hge1 => ?_))
  have hl1 := Lo.new hB hge1
  have hB := hB.trans hXw1
  refine WL.asg rfl rfl ?_
  refine WL.nilS ?_
  refine CW.seq ?_
  refine CW.reg ?_
  refine WL.pure rfl rfl rfl (PV.loadA T.ag33 rfl hb1.cells (Ext.refl _) rfl) ?_
  refine WL.op rfl (OpK.callR rfl T.cf103 rfl (c_impl_ValidGrammar (by first | assumption | exact Rd.up (by assumption) hB | exact Osl.rd (by assumption) | exact Osn.rdR (by assumption))) (fun w2 hXw2 => ?_))
  have hB := hB.trans hXw2
  have hb1 := hb1.up hXw2
  refine WL.mv rfl rfl ?_
  refine WL.split (t := 7) rfl (fun hc1 => ?_) (fun hc1 => ?_)
  rotate_left
  · skip
    try simp only [nq] at hc1
    refine WL.skip rfl rfl rfl rfl rfl ?_
    refine WL.skip rfl rfl rfl rfl rfl ?_
    refine WL.skip rfl rfl rfl rfl rfl ?_
    refine WL.skip rfl rfl rfl rfl rfl ?_
    refine WL.pure rfl rfl rfl (PV.pickF rfl rfl) ?_
    refine WL.mv rfl rfl ?_
    refine WL.skip rfl rfl rfl rfl rfl ?_
    refine WL.skip rfl rfl rfl rfl rfl ?_
    refine WL.skip rfl rfl rfl rfl rfl ?_
    refine WL.pure rfl rfl rfl (PV.pickF rfl rfl) ?_
    refine WL.asg rfl rfl ?_
    refine WL.nilS ?_
    refine CW.ret ?_
    refine RQ.r1 rfl ?_
    refine ⟨?_, hB⟩
    first | exact bE (canB_n1 (by assumption)) | exact bE (canB_n2 (by assumption)) | exact bE (canB_n3 (by omega)) | exact bE (by rw [canB_e1 (by assumption) (by assumption)]; exact decide_eq_decide.2 (by omega)) | exact bE (canB_e2 (by assumption) (by omega))
  try simp only [nq] at hc1
  refine WL.pureG rfl rfl rfl rfl rfl (PV.move rfl) ?_
  refine WL.pureG rfl rfl rfl rfl rfl (PV.fieldAddr T.fl33_1 rfl hb1.cells) ?_
  refine WL.pureG rfl rfl rfl rfl rfl (PV.load1 T.na2 rfl hb1.cells (Ext.refl _) rfl) ?_
  refine WL.opG rfl rfl rfl (OpK.callR rfl T.cf124 rfl (c_impl_IsWord (by first | assumption | exact Rd.up (by assumption) hB | exact Osl.rd (by assumption) | exact Osn.rdR (by assumption))) (fun w3 hXw3 => ?_))
  have hB := hB.trans hXw3
  have hb1 := hb1.up hXw3
  refine WL.pure rfl rfl rfl (PV.pickT rfl rfl) ?_
  refine WL.mv rfl rfl ?_
  refine WL.split (t := 13) rfl (fun hc2 => ?_) (fun hc2 => ?_)
  rotate_left
  · skip
    try simp only [nq] at hc2
    refine WL.skip rfl rfl rfl rfl rfl ?_
    refine WL.skip rfl rfl rfl rfl rfl ?_
    refine WL.skip rfl rfl rfl rfl rfl ?_
    refine WL.pure rfl rfl rfl (PV.pickF rfl rfl) ?_
    refine WL.asg rfl rfl ?_
    refine WL.nilS ?_
    refine CW.ret ?_
    refine RQ.r1 rfl ?_
    refine ⟨?_, hB⟩
    first | exact bE (canB_n1 (by assumption)) | exact bE (canB_n2 (by assumption)) | exact bE (canB_n3 (by omega)) | exact bE (by rw [canB_e1 (by assumption) (by assumption)]; exact decide_eq_decide.2 (by omega)) | exact bE (canB_e2 (by assumption) (by omega))
  try simp only [nq] at hc2
  refine WL.pureG rfl rfl rfl rfl rfl (PV.move rfl) ?_
  refine WL.pureG rfl rfl rfl rfl rfl ((by first | exact PV.len rfl (by assumption) T.sl28 | exact PV.lenOs rfl (by assumption) T.sl28 | exact PV.len rfl (NL.rd (by assumption)) T.sl28 | exact PV.len rfl (Inn.rd (by assumption) (by omega)) T.sl28)) ?_
  refine WL.pureG rfl rfl rfl rfl rfl (PV.gtr rfl rfl) ?_
  refine WL.pure rfl rfl rfl (PV.pickT rfl rfl) ?_
  refine WL.asg rfl rfl ?_
  refine WL.nilS ?_
  refine CW.ret ?_
  refine RQ.r1 rfl ?_
  refine ⟨?_, hB⟩
  first | exact bE (canB_n1 (by assumption)) | exact bE (canB_n2 (by assumption)) | exact bE (canB_n3 (by omega)) | exact bE (by rw [canB_e1 (by assumption) (by assumption)]; exact decide_eq_decide.2 (by omega)) | exact bE (canB_e2 (by assumption) (by omega))
set_option maxHeartbeats 4000000 in
theorem c_impl_Grammar_made_1 {w : World} {b : World} {pg pq pw pc : Addr} {a0 : Int} {a1 : Int} {va2 : Value} {xa2 : List R4} {vw : Value} {xs : List Int} {ys : List Bool} {i L : Nat} (hB0 : Ext b w) (htb_pc : Bx w pc (List.map VB (ys))) (htl_pc : Lo b (some pc.block)) (htb_pg : Bx w pg [.int .i64 a0, .int .i64 a1, va2]) (htb_pq : Bx w pq [.pointer (some pc)]) (htb_pw : Bx w pw [vw]) (htd_pg_pc : Dj (some pg.block) (some pc.block)) (htd_pq_pc : Dj (some pq.block) (some pc.block)) (htd_pw_pc : Dj (some pw.block) (some pc.block)) (ha2 : Rd ER b va2 xa2) (hw : Rd EI b vw xs) (hg : gramV a0 a1 xa2) (h12 : 1 ≤ xs.length ∧ xs.length ≤ 12) (hTb : TCB xa2 xs a0 13 8 1248 ys L i) (hL : 1 ≤ L ∧ i + L ≤ xs.length) : Calls Try.prog 198 #[.int .i64 (i : Nat), .int .i64 ((i + L : Nat) : Int), .pointer (some pg), .pointer (some pq), .pointer (some pw)] w (Ret1 (fun v w' => UpdL [some pc.block] w w' ∧ ∃ (zs : List Bool), v = .tuple #[] ∧ (TCB xa2 xs a0 13 8 1248 zs L (i + 1)) ∧ Bx w' pc (List.map VB (zs)))) := by
  have hB := hB0
  have hla2 := ha2.leI; have hlw := hw.leI; have hg1 := hg.1; have hnn := hTb.n
  refine callsOf (vs := [_, _, _, _, _]) Try.func198 rfl Try.ntmps198 rfl rfl ?_
  have hUB : UpdL [(some pc.block)] w w := UpdL.refl _ _
  have hb1 := htb_pc
  have hl1 := htl_pc
  have hkB_1 : OkB [(some pc.block)] w (some pc.block) := OkB.mem (by simp)
  have hgB_1 := OgR.refl w (some pc.block)
  have hb2 := htb_pg
  have hd1_2 := Dj.symm htd_pg_pc
  have hb3 := htb_pq
  have hd1_3 := Dj.symm htd_pq_pc
  have hb4 := htb_pw
  have hd1_4 := Dj.symm htd_pw_pc
  refine CW.seq ?_
  refine CW.reg ?_
  refine WL.pure rfl rfl rfl (PV.fieldAddr T.fl33_2 rfl hb2.cells) ?_
  refine WL.pure rfl rfl rfl (PV.load1 T.na31 rfl hb2.cells (Ext.refl _) rfl) ?_
  refine WL.pure rfl rfl rfl ((by first | exact PV.len rfl (by assumption) T.sl31 | exact PV.lenOs rfl (by assumption) T.sl31 | exact PV.len rfl (NL.rd (by assumption)) T.sl31 | exact PV.len rfl (Inn.rd (by assumption) (by omega)) T.sl31)) ?_
  refine WL.mv rfl rfl ?_
  refine WL.nilS ?_
  refine CW.block ?_
  refine CW.loop (σk := [(0, _), (1, _), (3, _), (4, _), (11, _), (12, _)]) (fun ρ wz m => ∃ (K : Nat) (ys1 : List Bool), ρ = [(13, .int .i64 (K : Nat))] ∧ m = xa2.length - K ∧ UpdL [(some pc.block)] w wz ∧ Bx wz pc (List.map VB (ys1)) ∧ (K ≤ xa2.length) ∧ (TPB xa2 xs a0 13 8 1248 ys1 L i (fun k m => k < K))) (ρ₀ := [(13, _)]) (m₀ := _) ⟨rfl, rfl, rfl, rfl, rfl, rfl, rfl, trivial⟩ ⟨0, ys, rfl, rfl, (UpdL.refl _ _), bxM hb1 (by rfl), (by first | omega | rfl | (simp; done) | assumption | (simp_all; done)), (by exact (hTb.start (by omega) (by omega) (fun _ h => by cases h)).mono (fun k m c hk hc h => by omega))⟩ ?_
  rintro _ wl1 _ ⟨K, ys1, rfl, rfl, hU0, hb1, hK, hp⟩
  have hUB := hUB.trans hU0 ⟨hkB_1, trivial⟩
  have hb2 := hb2.loop hU0 ⟨(Dj.symm hd1_2), trivial⟩
  have hb3 := hb3.loop hU0 ⟨(Dj.symm hd1_3), trivial⟩
  have hb4 := hb4.loop hU0 ⟨(Dj.symm hd1_4), trivial⟩
  have hk0_1 : OkB [(some pc.block)] w (some pc.block) := OkB.mem (by simp)
  have hB := hB.loop hU0 ⟨hl1, trivial⟩
  refine CW.seq ?_
  refine CW.reg ?_
  refine WL.pure rfl rfl rfl (PV.lss rfl rfl) ?_
  refine WL.nilS ?_
  refine CW.seq ?_
  refine CW.cond rfl (fun hc1 => ?_) (fun hc1 => ?_)
  · skip
    try simp only [nq] at hc1
    refine CW.skipS ?_
    refine CW.seq ?_
    refine CW.block ?_
    refine CW.seq ?_
    refine CW.reg ?_
    first
      | refine WL.at (x := .tmp 11) (y := .tmp 13) (E := ER) ((0, 0, 0, 0)) rfl rfl (by first | assumption | exact Inn.rd (by assumption) (by omega)) (by first | omega | (simp only [List.length_set]; omega) | (simp only [List.length_append, List.length_take, List.length_replicate, List.length_drop]; omega)) (fun p1 csp1 hpp1 hcp1 hq => ?_)
      | refine WL.atZ (x := .tmp 11) (y := .tmp 13) (E := ER) ((0, 0, 0, 0)) rfl rfl (by first | assumption | exact Inn.rd (by assumption) (by omega)) (by first | omega | (simp only [List.length_set]; omega) | (simp only [List.length_append, List.length_take, List.length_replicate, List.length_drop]; omega)) (fun p1 csp1 hpp1 hzp1 hcp1 hq => ?_)
    cases hq
    refine WL.pure rfl rfl rfl ((by first | exact PV.indexAddr hpp1 rfl rfl T.sl31 | exact PV.indexAddr hpp1 rfl (by rw [← hzp1]; rfl) T.sl31)) ?_
    refine WL.pure rfl rfl rfl ((by first | exact PV.loadA T.ag56 rfl (by first | exact Cells.up (by assumption) hB | exact Bx.cells (by assumption) | assumption) (Ext.refl _) rfl | exact PV.loadP (ds := [_, _, _, _]) T.ag56 rfl (by first | exact Cells.up (by assumption) hB | exact Bx.cells (by assumption) | assumption) (Ext.refl _) rfl rfl)) ?_
    refine WL.op rfl (OpK.alloc rfl T.zv56 rfl (fun b6 w1 hXw1 hb6 hge6 => ?_))
    have hl6 := Lo.new hB hge6
    have hd1_6 := Dj.new hb1.ltO hge6
    have hd2_6 := Dj.new hb2.ltO hge6
    have hd3_6 := Dj.new hb3.ltO hge6
    have hd4_6 := Dj.new hb4.ltO hge6
    have hkB_6 := OkN.new hUB hge6
    have hgB_6 := OgR.new hUB.size hge6
    have hk0_6 := OkN.new hU0 hge6
    have hg0_6 := OgR.new hU0.size hge6
    have hB := hB.trans hXw1
    have hb1 := hb1.up hXw1
    have hb2 := hb2.up hXw1
    have hb3 := hb3.up hXw1
    have hb4 := hb4.up hXw1
    have hUB := hUB.ext hXw1
    have hU0 := hU0.ext hXw1
    refine WL.op rfl (OpK.storeA T.sz56 rfl rfl rfl rfl (by simp [Value.oneCell'] <;> first | done | (repeat' apply And.intro) <;> first | rfl | exact Osl.oneCell (by assumption) | exact Osn.oneCell (by assumption) | exact Rd.oneCell (by assumption) | exact Rd.oneCell (NL.rd (by assumption)) | assumption) hb6 (fun w2 hXw2 hb6 => ?_))
    have hB := hB.updL hXw2 hl6
    have hb1 := hb1.updD hXw2 hd1_6
    have hb2 := hb2.updD hXw2 hd2_6
    have hb3 := hb3.updD hXw2 hd3_6
    have hb4 := hb4.updD hXw2 hd4_6
    have hUB := hUB.step hXw2 hkB_6
    have hU0 := hU0.step hXw2 hk0_6
    refine WL.nilS ?_
    refine CW.seq ?_
    refine CW.seq ?_
    refine CW.reg ?_
    skip
    refine WL.pure rfl rfl rfl (PV.fieldAddr T.fl56_2 rfl hb6.cells) ?_
    refine WL.pure rfl rfl rfl (PV.load1 T.na2 rfl hb6.cells (Ext.refl _) rfl) ?_
    refine WL.pure rfl rfl rfl (PV.lss rfl rfl) ?_
    refine WL.nilS ?_
    refine CW.cond rfl (fun hc2 => ?_) (fun hc2 => ?_)
    · skip
      try simp only [nq] at hc2
      refine CW.seq ?_
      refine CW.draw T.mixed (by kernel_rfl) (fun _ _ _ _ _ h => h) (fun w8 w9 => Upd none w8 w9) 34 (.take 0 (.take 1 (.take 2 (.take 3 (.take 4 (.take 5 (.take 6 (.take 7 (.take 8 (.take 9 (.take 10 (.take 11 (.take 12 (.take 13 (.take 14 (.take 15 (.take 30 (.take 31 (.take 32 (.split (.take 16 (.take 17 (.take 18 (.take 19 (.take 20 (.take 21 (.take 22 (.take 23 (.take 24 (.take 25 (.take 26 (.take 27 (.take 28 (.take 29 (.take 33 (.must 34 .done)))))))))))))))) (.take 16 (.take 17 (.take 18 (.take 19 (.take 20 (.split (.take 21 (.take 22 (.take 23 (.take 24 (.take 25 (.take 26 (.take 27 (.take 28 (.take 29 (.take 33 (.must 34 .done))))))))))) (.take 21 (.take 22 (.take 23 (.take 24 (.take 25 (.take 26 (.take 27 (.take 28 (.take 29 (.take 33 (.must 34 .done))))))))))))))))))))))))))))))))))))) (by kernel_rfl) (fun w3 hXd => ?_)
      have hB := hB.trans hXd
      have hb1 := hb1.up hXd
      have hb2 := hb2.up hXd
      have hb3 := hb3.up hXd
      have hb4 := hb4.up hXd
      have hb6 := hb6.up hXd
      have hUB := hUB.ext hXd
      have hU0 := hU0.ext hXd
      have hBr := hB
      have hS : Upd none w3 w3 := Ext.toUpd (Ext.refl _)
      have hgl := gram_left hg K (by omega); have hgl1 : 0 ≤ (xa2.getD K (0, 0, 0, 0)).1 := hgl.1; have hgl2 : (xa2.getD K (0, 0, 0, 0)).1 < a0 := hgl.2; have hyn := hp.n; have ec : cl false 13 8 ys1 i (i + L) (rl xa2 K).1 = ys1.getD (i * 104 + (i + L) * 8 + (xa2.getD K (0, 0, 0, 0)).1.toNat) false := congrArg (fun q => ys1.getD q false) (show (i * 13 + (i + L)) * 8 + (xa2.getD K (0, 0, 0, 0)).1.toNat = _ from (by omega)); have ei : (i * 104 + (i + L) * 8 + (xa2.getD K (0, 0, 0, 0)).1.toNat) = (i * 13 + (i + L)) * 8 + (xa2.getD K (0, 0, 0, 0)).1.toNat := (by omega)
      refine HP.take rfl rfl rfl rfl hS (fun wS hS1 => PV.load0 T.na142 rfl (Bx.cells (Bx.updD (by assumption) hS1 (Dj.nlR _))) (Ext.refl _) rfl) ?_
      refine HP.take rfl rfl rfl rfl hS (fun wS hS1 => PV.move rfl) ?_
      refine HP.take rfl rfl rfl rfl hS (fun wS hS1 => PV.move rfl) ?_
      refine HP.take rfl rfl rfl rfl hS (fun wS hS1 => PV.fieldAddr T.fl56_0 rfl hb6.cells) ?_
      refine HP.take rfl rfl rfl rfl hS (fun wS hS1 => PV.load1 T.na2 rfl (Bx.cells (Bx.updD (by assumption) hS1 (Dj.nlR _))) (Ext.refl _) rfl) ?_
      refine HP.take rfl rfl rfl rfl hS (fun wS hS1 => PV.load0 T.na142 rfl (Bx.cells (Bx.updD (by assumption) hS1 (Dj.nlR _))) (Ext.refl _) rfl) ?_
      refine HP.take rfl rfl rfl rfl hS (fun wS hS1 => PV.move rfl) ?_
      refine HP.take rfl rfl rfl rfl hS (fun wS hS1 => PV.move rfl) ?_
      refine HP.take rfl rfl rfl rfl hS (fun wS hS1 => PV.fieldAddr T.fl56_0 rfl hb6.cells) ?_
      refine HP.take rfl rfl rfl rfl hS (fun wS hS1 => PV.load1 T.na2 rfl (Bx.cells (Bx.updD (by assumption) hS1 (Dj.nlR _))) (Ext.refl _) rfl) ?_
      refine HP.take rfl rfl rfl rfl hS (fun wS hS1 => PV.nilCheck rfl) ?_
      refine HP.take rfl rfl rfl rfl hS (fun wS hS1 => (by first | exact PV.ixN T.ar223 rfl hb1.spot rfl (by omega) | exact PV.ixZ T.ar223 rfl hb1.spot rfl (by omega))) ?_
      refine HP.take rfl rfl rfl rfl hS (fun wS hS1 => (by first | exact PV.ixPN T.ar145 rfl rfl (by omega) | exact PV.ixPZ T.ar145 rfl rfl (by omega))) ?_
      refine HP.take rfl rfl rfl rfl hS (fun wS hS1 => (by first | exact PV.ixPN1 T.ar144 rfl rfl (by omega) | exact PV.ixPZ1 T.ar144 rfl rfl (by omega))) ?_
      refine HP.take rfl rfl rfl rfl hS (fun wS hS1 => PV.loadArr false T.na4 rfl (Bx.cells (Bx.updD hb1 hS1 (Dj.nlR _))) (Ext.refl _) (by first | omega | (simp only [List.length_set]; omega))) ?_
      refine HP.take rfl rfl rfl rfl hS (fun wS hS1 => PV.move rfl) ?_
      refine HP.take rfl rfl rfl rfl hS (fun wS hS1 => PV.nilCheck rfl) ?_
      refine HP.take rfl rfl rfl rfl hS (fun wS hS1 => (by first | exact PV.ixN T.ar223 rfl hb1.spot rfl (by omega) | exact PV.ixZ T.ar223 rfl hb1.spot rfl (by omega))) ?_
      refine HP.take rfl rfl rfl rfl hS (fun wS hS1 => (by first | exact PV.ixPN T.ar145 rfl rfl (by omega) | exact PV.ixPZ T.ar145 rfl rfl (by omega))) ?_
      refine HP.split (t := 35) rfl (fun hc3 => ?_) (fun hc3 => ?_)
      · skip
        try simp only [nq] at hc3
        refine HP.skip rfl rfl rfl rfl rfl rfl hS ?_
        refine HP.skip rfl rfl rfl rfl rfl rfl hS ?_
        refine HP.skip rfl rfl rfl rfl rfl rfl hS ?_
        refine HP.skip rfl rfl rfl rfl rfl rfl hS ?_
        refine HP.skip rfl rfl rfl rfl rfl rfl hS ?_
        refine HP.skipU rfl rfl rfl rfl rfl rfl hS ?_
        refine HP.skipU rfl rfl rfl rfl rfl rfl hS ?_
        refine HP.skipU rfl rfl rfl rfl rfl rfl hS ?_
        refine HP.skipU rfl rfl rfl rfl rfl rfl hS ?_
        refine HP.skipU rfl rfl rfl rfl rfl rfl hS ?_
        refine HP.skipU rfl rfl rfl rfl rfl rfl hS ?_
        refine HP.skipU rfl rfl rfl rfl rfl rfl hS ?_
        refine HP.skip rfl rfl rfl rfl rfl rfl hS ?_
        refine HP.take rfl rfl rfl rfl hS (fun wS hS1 => PV.pickT rfl rfl) ?_
        refine HP.take rfl rfl rfl rfl hS (fun wS hS1 => (by first | exact PV.ixPN1 T.ar144 rfl rfl (by omega) | exact PV.ixPZ1 T.ar144 rfl rfl (by omega))) ?_
        refine HP.last rfl rfl (OpK.storeArr T.sz4 rfl rfl rfl hb1 (by first | omega | (simp only [List.length_set]; omega)) (fun w4 hXw4 hb1 => ?_))
        have hB := hB.updL hXw4 hl1
        have hb2 := hb2.updD hXw4 (Dj.symm hd1_2)
        have hb3 := hb3.updD hXw4 (Dj.symm hd1_3)
        have hb4 := hb4.updD hXw4 (Dj.symm hd1_4)
        have hb6 := hb6.updD hXw4 (Dj.symm hd1_6)
        have hUB := hUB.step hXw4 hkB_1
        have hU0 := hU0.step hXw4 hk0_1
        refine HP.doneS ?_
        refine CW.exit ?_
        refine XQ.then ?_
        refine XQ.here ?_
        refine NQ.then ?_
        refine CW.reg ?_
        refine WL.pure rfl rfl rfl (PV.add rfl rfl (by constructor <;> omega)) ?_
        refine WL.mv rfl rfl ?_
        refine WL.nil ?_
        refine NQ.next (ρ := [(13, _)]) ⟨rfl, rfl, rfl, rfl, rfl, rfl, rfl, trivial⟩ ?_
        exact ⟨_, ⟨K + 1, _, rfl, rfl, hU0, bxM hb1 (by rfl), (by first | omega | assumption | (simp_all; done) | (simp_all; omega)), (by first | exact hp.mono (fun k m c hk hc h => by have := hc.pl; omega) | (rw [ei]; exact (TP.leafB (K := K) hp hg (by omega) (by omega) (by omega) (by omega) (by omega) (by omega) (by assumption) (by rw [ec]; first | exact ⟨fun _ => .inl (by assumption), fun _ => rfl⟩ | exact ⟨fun h => .inr ⟨by omega, of_decide_eq_true h⟩, fun h => by rcases h with h | h; exact absurd (h.symm.trans (show _ = false by assumption)) (by decide); exact decide_eq_true h.2⟩ | exact ⟨fun h => (by cases h), fun h => by rcases h with h | h; exact absurd (h.symm.trans (show _ = false by assumption)) (by decide); have := h.1; omega⟩)).mono (fun k m c hk hc h => by rcases Nat.lt_succ_iff_lt_or_eq.1 h with h | rfl; exact .inl h; exact .inr ⟨rfl, hc.pl.2.2.1 (by assumption)⟩)))⟩, by omega⟩
      try simp only [nq] at hc3
      refine HP.takeG rfl rfl rfl rfl rfl rfl hS (fun wS hS1 => PV.move rfl) ?_
      refine HP.takeG rfl rfl rfl rfl rfl rfl hS (fun wS hS1 => PV.move rfl) ?_
      refine HP.takeG rfl rfl rfl rfl rfl rfl hS (fun wS hS1 => PV.add rfl rfl (by constructor <;> omega)) ?_
      refine HP.takeG rfl rfl rfl rfl rfl rfl hS (fun wS hS1 => PV.eql rfl rfl) ?_
      refine HP.takeG rfl rfl rfl rfl rfl rfl hS (fun wS hS1 => PV.move rfl) ?_
      refine HP.split (t := 40) rfl (fun hc4 => ?_) (fun hc4 => ?_)
      rotate_left
      · skip
        try simp only [nq] at hc4
        refine HP.skip rfl rfl rfl rfl rfl rfl hS ?_
        refine HP.skip rfl rfl rfl rfl rfl rfl hS ?_
        refine HP.skip rfl rfl rfl rfl rfl rfl hS ?_
        refine HP.skip rfl rfl rfl rfl rfl rfl hS ?_
        refine HP.skip rfl rfl rfl rfl rfl rfl hS ?_
        refine HP.skip rfl rfl rfl rfl rfl rfl hS ?_
        refine HP.skip rfl rfl rfl rfl rfl rfl hS ?_
        refine HP.takeG rfl rfl rfl rfl rfl rfl hS (fun wS hS1 => PV.pickF rfl rfl) ?_
        refine HP.take rfl rfl rfl rfl hS (fun wS hS1 => PV.pickF rfl rfl) ?_
        refine HP.take rfl rfl rfl rfl hS (fun wS hS1 => (by first | exact PV.ixPN1 T.ar144 rfl rfl (by omega) | exact PV.ixPZ1 T.ar144 rfl rfl (by omega))) ?_
        refine HP.last rfl rfl (OpK.storeArr T.sz4 rfl rfl rfl hb1 (by first | omega | (simp only [List.length_set]; omega)) (fun w5 hXw5 hb1 => ?_))
        have hB := hB.updL hXw5 hl1
        have hb2 := hb2.updD hXw5 (Dj.symm hd1_2)
        have hb3 := hb3.updD hXw5 (Dj.symm hd1_3)
        have hb4 := hb4.updD hXw5 (Dj.symm hd1_4)
        have hb6 := hb6.updD hXw5 (Dj.symm hd1_6)
        have hUB := hUB.step hXw5 hkB_1
        have hU0 := hU0.step hXw5 hk0_1
        refine HP.doneS ?_
        refine CW.exit ?_
        refine XQ.then ?_
        refine XQ.here ?_
        refine NQ.then ?_
        refine CW.reg ?_
        refine WL.pure rfl rfl rfl (PV.add rfl rfl (by constructor <;> omega)) ?_
        refine WL.mv rfl rfl ?_
        refine WL.nil ?_
        refine NQ.next (ρ := [(13, _)]) ⟨rfl, rfl, rfl, rfl, rfl, rfl, rfl, trivial⟩ ?_
        exact ⟨_, ⟨K + 1, _, rfl, rfl, hU0, bxM hb1 (by rfl), (by first | omega | assumption | (simp_all; done) | (simp_all; omega)), (by first | exact hp.mono (fun k m c hk hc h => by have := hc.pl; omega) | (rw [ei]; exact (TP.leafB (K := K) hp hg (by omega) (by omega) (by omega) (by omega) (by omega) (by omega) (by assumption) (by rw [ec]; first | exact ⟨fun _ => .inl (by assumption), fun _ => rfl⟩ | exact ⟨fun h => .inr ⟨by omega, of_decide_eq_true h⟩, fun h => by rcases h with h | h; exact absurd (h.symm.trans (show _ = false by assumption)) (by decide); exact decide_eq_true h.2⟩ | exact ⟨fun h => (by cases h), fun h => by rcases h with h | h; exact absurd (h.symm.trans (show _ = false by assumption)) (by decide); have := h.1; omega⟩)).mono (fun k m c hk hc h => by rcases Nat.lt_succ_iff_lt_or_eq.1 h with h | rfl; exact .inl h; exact .inr ⟨rfl, hc.pl.2.2.1 (by assumption)⟩)))⟩, by omega⟩
      try simp only [nq] at hc4
      refine HP.takeG rfl rfl rfl rfl rfl rfl hS (fun wS hS1 => PV.load0 T.na28 rfl (Bx.cells (Bx.updD (by assumption) hS1 (Dj.nlR _))) (Ext.refl _) rfl) ?_
      refine HP.takeG rfl rfl rfl rfl rfl rfl hS (fun wS hS1 => PV.move rfl) ?_
      first
        | refine HP.at (x := .tmp 41) (y := .tmp 42) (E := EI) (0) rfl rfl (by first | assumption | exact Inn.rd (by assumption) (by omega)) (by first | omega | (simp only [List.length_set]; omega) | (simp only [List.length_append, List.length_take, List.length_replicate, List.length_drop]; omega)) (fun p2 csp2 hpp2 hcp2 hq => ?_)
        | refine HP.atZ (x := .tmp 41) (y := .tmp 42) (E := EI) (0) rfl rfl (by first | assumption | exact Inn.rd (by assumption) (by omega)) (by first | omega | (simp only [List.length_set]; omega) | (simp only [List.length_append, List.length_take, List.length_replicate, List.length_drop]; omega)) (fun p2 csp2 hpp2 hzp2 hcp2 hq => ?_)
      cases hq
      refine HP.takeG rfl rfl rfl rfl rfl rfl hS (fun wS hS1 => (by first | exact PV.indexAddr hpp2 rfl rfl T.sl28 | exact PV.indexAddr hpp2 rfl (by rw [← hzp2]; rfl) T.sl28)) ?_
      refine HP.takeG rfl rfl rfl rfl rfl rfl hS (fun wS hS1 => (by first | exact PV.load0 T.na2 rfl (by first | exact Cells.up (by assumption) (hBr.trans hS1) | exact Bx.cells (Bx.updD (by assumption) hS1 (Dj.nlR _)) | exact Cells.upd (by assumption) hS1 (by simp)) (Ext.refl _) rfl | exact PV.load1 T.na2 rfl (by first | exact Cells.up (by assumption) (hBr.trans hS1) | exact Bx.cells (Bx.updD (by assumption) hS1 (Dj.nlR _)) | exact Cells.upd (by assumption) hS1 (by simp)) (Ext.refl _) rfl)) ?_
      refine HP.takeG rfl rfl rfl rfl rfl rfl hS (fun wS hS1 => PV.fieldAddr T.fl56_1 rfl hb6.cells) ?_
      refine HP.takeG rfl rfl rfl rfl rfl rfl hS (fun wS hS1 => PV.load1 T.na2 rfl (Bx.cells (Bx.updD (by assumption) hS1 (Dj.nlR _))) (Ext.refl _) rfl) ?_
      refine HP.takeG rfl rfl rfl rfl rfl rfl hS (fun wS hS1 => PV.eql rfl rfl) ?_
      refine HP.takeG rfl rfl rfl rfl rfl rfl hS (fun wS hS1 => PV.pickT rfl rfl) ?_
      refine HP.take rfl rfl rfl rfl hS (fun wS hS1 => PV.pickF rfl rfl) ?_
      refine HP.take rfl rfl rfl rfl hS (fun wS hS1 => (by first | exact PV.ixPN1 T.ar144 rfl rfl (by omega) | exact PV.ixPZ1 T.ar144 rfl rfl (by omega))) ?_
      refine HP.last rfl rfl (OpK.storeArr T.sz4 rfl rfl rfl hb1 (by first | omega | (simp only [List.length_set]; omega)) (fun w6 hXw6 hb1 => ?_))
      have hB := hB.updL hXw6 hl1
      have hb2 := hb2.updD hXw6 (Dj.symm hd1_2)
      have hb3 := hb3.updD hXw6 (Dj.symm hd1_3)
      have hb4 := hb4.updD hXw6 (Dj.symm hd1_4)
      have hb6 := hb6.updD hXw6 (Dj.symm hd1_6)
      have hUB := hUB.step hXw6 hkB_1
      have hU0 := hU0.step hXw6 hk0_1
      refine HP.doneS ?_
      refine CW.exit ?_
      refine XQ.then ?_
      refine XQ.here ?_
      refine NQ.then ?_
      refine CW.reg ?_
      refine WL.pure rfl rfl rfl (PV.add rfl rfl (by constructor <;> omega)) ?_
      refine WL.mv rfl rfl ?_
      refine WL.nil ?_
      refine NQ.next (ρ := [(13, _)]) ⟨rfl, rfl, rfl, rfl, rfl, rfl, rfl, trivial⟩ ?_
      exact ⟨_, ⟨K + 1, _, rfl, rfl, hU0, bxM hb1 (by rfl), (by first | omega | assumption | (simp_all; done) | (simp_all; omega)), (by first | exact hp.mono (fun k m c hk hc h => by have := hc.pl; omega) | (rw [ei]; exact (TP.leafB (K := K) hp hg (by omega) (by omega) (by omega) (by omega) (by omega) (by omega) (by assumption) (by rw [ec]; first | exact ⟨fun _ => .inl (by assumption), fun _ => rfl⟩ | exact ⟨fun h => .inr ⟨by omega, of_decide_eq_true h⟩, fun h => by rcases h with h | h; exact absurd (h.symm.trans (show _ = false by assumption)) (by decide); exact decide_eq_true h.2⟩ | exact ⟨fun h => (by cases h), fun h => by rcases h with h | h; exact absurd (h.symm.trans (show _ = false by assumption)) (by decide); have := h.1; omega⟩)).mono (fun k m c hk hc h => by rcases Nat.lt_succ_iff_lt_or_eq.1 h with h | rfl; exact .inl h; exact .inr ⟨rfl, hc.pl.2.2.1 (by assumption)⟩)))⟩, by omega⟩
    try simp only [nq] at hc2
    refine CW.skipS ?_
    refine CW.seq ?_
    refine CW.reg ?_
    refine WL.mv rfl rfl ?_
    refine WL.pure rfl rfl rfl (PV.add rfl rfl (by constructor <;> omega)) ?_
    refine WL.asg rfl rfl ?_
    refine WL.nilS ?_
    refine CW.block ?_
    refine CW.loop (σk := [(0, _), (1, _), (3, _), (4, _), (8, _), (11, _), (12, _), (13, _)]) (fun ρ wz m => ∃ (M : Nat) (ys1 : List Bool), ρ = [(9, .int .i64 (M : Nat))] ∧ m = i + L - M ∧ UpdL [(some pc.block)] w2 wz ∧ Bx wz pc (List.map VB (ys1)) ∧ (i + 1 ≤ M ∧ M ≤ i + L) ∧ (TPB xa2 xs a0 13 8 1248 ys1 L i (fun k m => k < K ∨ (k = K ∧ m < M)))) (ρ₀ := [(9, _)]) (m₀ := _) ⟨rfl, rfl, rfl, rfl, rfl, rfl, rfl, rfl, rfl, trivial⟩ ⟨i + 1, ys1, rfl, rfl, (UpdL.refl _ _), bxM hb1 (by rfl), (by first | omega | rfl | (simp; done) | assumption | (simp_all; done)), (by exact hp.mono (fun k m c hk hc h => by rcases h with h | ⟨rfl, h⟩; exact h; have := hc.pl.2.2.2 (by assumption); omega))⟩ ?_
    rintro _ wl2 _ ⟨M, ys1, rfl, rfl, hU1, hb1, hm, hp⟩
    have hUB := hUB.trans hU1 ⟨hkB_1, trivial⟩
    have hU0 := hU0.trans hU1 ⟨hk0_1, trivial⟩
    have hb2 := hb2.loop hU1 ⟨(Dj.symm hd1_2), trivial⟩
    have hb3 := hb3.loop hU1 ⟨(Dj.symm hd1_3), trivial⟩
    have hb4 := hb4.loop hU1 ⟨(Dj.symm hd1_4), trivial⟩
    have hb6 := hb6.loop hU1 ⟨(Dj.symm hd1_6), trivial⟩
    have hk1_1 : OkB [(some pc.block)] w2 (some pc.block) := OkB.mem (by simp)
    have hB := hB.loop hU1 ⟨hl1, trivial⟩
    refine CW.seq ?_
    refine CW.seq ?_
    refine CW.reg ?_
    refine WL.mv rfl rfl ?_
    refine WL.mv rfl rfl ?_
    refine WL.pure rfl rfl rfl (PV.lss rfl rfl) ?_
    refine WL.nilS ?_
    refine CW.cond rfl (fun hc5 => ?_) (fun hc5 => ?_)
    · skip
      try simp only [nq] at hc5
      refine CW.skipS ?_
      refine CW.seq ?_
      refine CW.block ?_
      refine CW.draw T.mixed (by kernel_rfl) (fun _ _ _ _ _ h => h) (fun w8 w9 => Upd none w8 w9) 43 (.take 0 (.take 1 (.take 2 (.take 3 (.take 4 (.take 5 (.take 6 (.take 7 (.take 8 (.take 9 (.take 10 (.take 11 (.take 12 (.take 13 (.take 14 (.take 15 (.take 39 (.take 40 (.take 41 (.split (.take 16 (.take 17 (.take 18 (.take 19 (.take 20 (.take 21 (.take 22 (.take 23 (.take 24 (.take 25 (.take 26 (.take 27 (.take 28 (.take 29 (.take 30 (.take 31 (.take 32 (.take 33 (.take 34 (.take 35 (.take 36 (.take 37 (.take 38 (.take 42 (.must 43 .done))))))))))))))))))))))))) (.take 16 (.take 17 (.take 18 (.take 19 (.take 20 (.take 21 (.take 22 (.take 23 (.take 24 (.take 25 (.take 26 (.split (.take 27 (.take 28 (.take 29 (.take 30 (.take 31 (.take 32 (.take 33 (.take 34 (.take 35 (.take 36 (.take 37 (.take 38 (.take 42 (.must 43 .done)))))))))))))) (.take 27 (.take 28 (.take 29 (.take 30 (.take 31 (.take 32 (.take 33 (.take 34 (.take 35 (.take 36 (.take 37 (.take 38 (.take 42 (.must 43 .done)))))))))))))))))))))))))))))))))))))))))))))) (by kernel_rfl) (fun w7 hXd => ?_)
      have hB := hB.trans hXd
      have hb1 := hb1.up hXd
      have hb2 := hb2.up hXd
      have hb3 := hb3.up hXd
      have hb4 := hb4.up hXd
      have hb6 := hb6.up hXd
      have hUB := hUB.ext hXd
      have hU0 := hU0.ext hXd
      have hU1 := hU1.ext hXd
      have hBr := hB
      have hS : Upd none w7 w7 := Ext.toUpd (Ext.refl _)
      have hgl := gram_left hg K (by omega); have hgl1 : 0 ≤ (xa2.getD K (0, 0, 0, 0)).1 := hgl.1; have hgl2 : (xa2.getD K (0, 0, 0, 0)).1 < a0 := hgl.2; have hyn := hp.n; have ec : cl false 13 8 ys1 i (i + L) (rl xa2 K).1 = ys1.getD (i * 104 + (i + L) * 8 + (xa2.getD K (0, 0, 0, 0)).1.toNat) false := congrArg (fun q => ys1.getD q false) (show (i * 13 + (i + L)) * 8 + (xa2.getD K (0, 0, 0, 0)).1.toNat = _ from (by omega)); have ei : (i * 104 + (i + L) * 8 + (xa2.getD K (0, 0, 0, 0)).1.toNat) = (i * 13 + (i + L)) * 8 + (xa2.getD K (0, 0, 0, 0)).1.toNat := (by omega); have hgn := gram_node hg (k := K) (by omega) (by assumption); have gn1 : 0 ≤ (xa2.getD K (0, 0, 0, 0)).2.1 ∧ (xa2.getD K (0, 0, 0, 0)).2.1 < a0 := hgn.1; have gn2 : 0 ≤ (xa2.getD K (0, 0, 0, 0)).2.2.1 ∧ (xa2.getD K (0, 0, 0, 0)).2.2.1 < a0 := hgn.2; have ea : cl false 13 8 ys1 i M (rl xa2 K).2.1 = ys1.getD (i * 104 + M * 8 + (xa2.getD K (0, 0, 0, 0)).2.1.toNat) false := congrArg (fun q => ys1.getD q false) (show (i * 13 + M) * 8 + (xa2.getD K (0, 0, 0, 0)).2.1.toNat = _ from (by omega)); have eb : cl false 13 8 ys1 M (i + L) (rl xa2 K).2.2.1 = ys1.getD (M * 104 + (i + L) * 8 + (xa2.getD K (0, 0, 0, 0)).2.2.1.toNat) false := congrArg (fun q => ys1.getD q false) (show (M * 13 + (i + L)) * 8 + (xa2.getD K (0, 0, 0, 0)).2.2.1.toNat = _ from (by omega))
      refine HP.take rfl rfl rfl rfl hS (fun wS hS1 => PV.load0 T.na142 rfl (Bx.cells (Bx.updD (by assumption) hS1 (Dj.nlR _))) (Ext.refl _) rfl) ?_
      refine HP.take rfl rfl rfl rfl hS (fun wS hS1 => PV.move rfl) ?_
      refine HP.take rfl rfl rfl rfl hS (fun wS hS1 => PV.move rfl) ?_
      refine HP.take rfl rfl rfl rfl hS (fun wS hS1 => PV.fieldAddr T.fl56_0 rfl hb6.cells) ?_
      refine HP.take rfl rfl rfl rfl hS (fun wS hS1 => PV.load1 T.na2 rfl (Bx.cells (Bx.updD (by assumption) hS1 (Dj.nlR _))) (Ext.refl _) rfl) ?_
      refine HP.take rfl rfl rfl rfl hS (fun wS hS1 => PV.load0 T.na142 rfl (Bx.cells (Bx.updD (by assumption) hS1 (Dj.nlR _))) (Ext.refl _) rfl) ?_
      refine HP.take rfl rfl rfl rfl hS (fun wS hS1 => PV.move rfl) ?_
      refine HP.take rfl rfl rfl rfl hS (fun wS hS1 => PV.move rfl) ?_
      refine HP.take rfl rfl rfl rfl hS (fun wS hS1 => PV.fieldAddr T.fl56_0 rfl hb6.cells) ?_
      refine HP.take rfl rfl rfl rfl hS (fun wS hS1 => PV.load1 T.na2 rfl (Bx.cells (Bx.updD (by assumption) hS1 (Dj.nlR _))) (Ext.refl _) rfl) ?_
      refine HP.take rfl rfl rfl rfl hS (fun wS hS1 => PV.nilCheck rfl) ?_
      refine HP.take rfl rfl rfl rfl hS (fun wS hS1 => (by first | exact PV.ixN T.ar223 rfl hb1.spot rfl (by omega) | exact PV.ixZ T.ar223 rfl hb1.spot rfl (by omega))) ?_
      refine HP.take rfl rfl rfl rfl hS (fun wS hS1 => (by first | exact PV.ixPN T.ar145 rfl rfl (by omega) | exact PV.ixPZ T.ar145 rfl rfl (by omega))) ?_
      refine HP.take rfl rfl rfl rfl hS (fun wS hS1 => (by first | exact PV.ixPN1 T.ar144 rfl rfl (by omega) | exact PV.ixPZ1 T.ar144 rfl rfl (by omega))) ?_
      refine HP.take rfl rfl rfl rfl hS (fun wS hS1 => PV.loadArr false T.na4 rfl (Bx.cells (Bx.updD hb1 hS1 (Dj.nlR _))) (Ext.refl _) (by first | omega | (simp only [List.length_set]; omega))) ?_
      refine HP.take rfl rfl rfl rfl hS (fun wS hS1 => PV.move rfl) ?_
      refine HP.take rfl rfl rfl rfl hS (fun wS hS1 => PV.nilCheck rfl) ?_
      refine HP.take rfl rfl rfl rfl hS (fun wS hS1 => (by first | exact PV.ixN T.ar223 rfl hb1.spot rfl (by omega) | exact PV.ixZ T.ar223 rfl hb1.spot rfl (by omega))) ?_
      refine HP.take rfl rfl rfl rfl hS (fun wS hS1 => (by first | exact PV.ixPN T.ar145 rfl rfl (by omega) | exact PV.ixPZ T.ar145 rfl rfl (by omega))) ?_
      refine HP.split (t := 76) rfl (fun hc6 => ?_) (fun hc6 => ?_)
      · skip
        try simp only [nq] at hc6
        refine HP.skip rfl rfl rfl rfl rfl rfl hS ?_
        refine HP.skip rfl rfl rfl rfl rfl rfl hS ?_
        refine HP.skip rfl rfl rfl rfl rfl rfl hS ?_
        refine HP.skip rfl rfl rfl rfl rfl rfl hS ?_
        refine HP.skip rfl rfl rfl rfl rfl rfl hS ?_
        refine HP.skip rfl rfl rfl rfl rfl rfl hS ?_
        refine HP.skip rfl rfl rfl rfl rfl rfl hS ?_
        refine HP.skip rfl rfl rfl rfl rfl rfl hS ?_
        refine HP.skip rfl rfl rfl rfl rfl rfl hS ?_
        refine HP.skip rfl rfl rfl rfl rfl rfl hS ?_
        refine HP.skip rfl rfl rfl rfl rfl rfl hS ?_
        refine HP.skipU rfl rfl rfl rfl rfl rfl hS ?_
        refine HP.skipU rfl rfl rfl rfl rfl rfl hS ?_
        refine HP.skipU rfl rfl rfl rfl rfl rfl hS ?_
        refine HP.skipU rfl rfl rfl rfl rfl rfl hS ?_
        refine HP.skipU rfl rfl rfl rfl rfl rfl hS ?_
        refine HP.skipU rfl rfl rfl rfl rfl rfl hS ?_
        refine HP.skipU rfl rfl rfl rfl rfl rfl hS ?_
        refine HP.skipU rfl rfl rfl rfl rfl rfl hS ?_
        refine HP.skipU rfl rfl rfl rfl rfl rfl hS ?_
        refine HP.skipU rfl rfl rfl rfl rfl rfl hS ?_
        refine HP.skip rfl rfl rfl rfl rfl rfl hS ?_
        refine HP.take rfl rfl rfl rfl hS (fun wS hS1 => PV.pickT rfl rfl) ?_
        refine HP.take rfl rfl rfl rfl hS (fun wS hS1 => (by first | exact PV.ixPN1 T.ar144 rfl rfl (by omega) | exact PV.ixPZ1 T.ar144 rfl rfl (by omega))) ?_
        refine HP.last rfl rfl (OpK.storeArr T.sz4 rfl rfl rfl hb1 (by first | omega | (simp only [List.length_set]; omega)) (fun w8 hXw8 hb1 => ?_))
        have hB := hB.updL hXw8 hl1
        have hb2 := hb2.updD hXw8 (Dj.symm hd1_2)
        have hb3 := hb3.updD hXw8 (Dj.symm hd1_3)
        have hb4 := hb4.updD hXw8 (Dj.symm hd1_4)
        have hb6 := hb6.updD hXw8 (Dj.symm hd1_6)
        have hUB := hUB.step hXw8 hkB_1
        have hU0 := hU0.step hXw8 hk0_1
        have hU1 := hU1.step hXw8 hk1_1
        refine HP.done ?_
        refine NQ.block ?_
        refine NQ.then ?_
        refine CW.reg ?_
        refine WL.mv rfl rfl ?_
        refine WL.pure rfl rfl rfl (PV.add rfl rfl (by constructor <;> omega)) ?_
        refine WL.asg rfl rfl ?_
        refine WL.nil ?_
        refine NQ.next (ρ := [(9, _)]) ⟨rfl, rfl, rfl, rfl, rfl, rfl, rfl, rfl, rfl, trivial⟩ ?_
        exact ⟨_, ⟨M + 1, _, rfl, rfl, hU1, bxM hb1 (by rfl), (by first | omega | assumption | (simp_all; done) | (simp_all; omega)), (by rw [ei]; exact (TP.nodeB (K := K) (M := M) hp hg (by omega) (by omega) (by omega) (by omega) (by omega) (by omega) (by assumption) (by omega) (by omega) (by rw [ec, ea, eb]; first | exact ⟨fun _ => .inl (by assumption), fun _ => rfl⟩ | exact ⟨fun h => .inr ⟨by assumption, h⟩, fun h => by rcases h with h | h; exact absurd (h.symm.trans (show _ = false by assumption)) (by decide); exact h.2⟩ | exact ⟨fun h => (by cases h), fun h => by rcases h with h | h; exact absurd (h.symm.trans (show _ = false by assumption)) (by decide); exact absurd (h.1.symm.trans (show _ = false by assumption)) (by decide)⟩)).mono (fun k m c hk hc h => by omega))⟩, by omega⟩
      try simp only [nq] at hc6
      refine HP.takeG rfl rfl rfl rfl rfl rfl hS (fun wS hS1 => PV.load0 T.na142 rfl (Bx.cells (Bx.updD (by assumption) hS1 (Dj.nlR _))) (Ext.refl _) rfl) ?_
      refine HP.takeG rfl rfl rfl rfl rfl rfl hS (fun wS hS1 => PV.move rfl) ?_
      refine HP.takeG rfl rfl rfl rfl rfl rfl hS (fun wS hS1 => PV.move rfl) ?_
      refine HP.takeG rfl rfl rfl rfl rfl rfl hS (fun wS hS1 => PV.fieldAddr T.fl56_1 rfl hb6.cells) ?_
      refine HP.takeG rfl rfl rfl rfl rfl rfl hS (fun wS hS1 => PV.load1 T.na2 rfl (Bx.cells (Bx.updD (by assumption) hS1 (Dj.nlR _))) (Ext.refl _) rfl) ?_
      refine HP.takeG rfl rfl rfl rfl rfl rfl hS (fun wS hS1 => PV.nilCheck rfl) ?_
      refine HP.takeG rfl rfl rfl rfl rfl rfl hS (fun wS hS1 => (by first | exact PV.ixN T.ar223 rfl hb1.spot rfl (by omega) | exact PV.ixZ T.ar223 rfl hb1.spot rfl (by omega))) ?_
      refine HP.takeG rfl rfl rfl rfl rfl rfl hS (fun wS hS1 => (by first | exact PV.ixPN T.ar145 rfl rfl (by omega) | exact PV.ixPZ T.ar145 rfl rfl (by omega))) ?_
      refine HP.takeG rfl rfl rfl rfl rfl rfl hS (fun wS hS1 => (by first | exact PV.ixPN1 T.ar144 rfl rfl (by omega) | exact PV.ixPZ1 T.ar144 rfl rfl (by omega))) ?_
      refine HP.takeG rfl rfl rfl rfl rfl rfl hS (fun wS hS1 => PV.loadArr false T.na4 rfl (Bx.cells (Bx.updD hb1 hS1 (Dj.nlR _))) (Ext.refl _) (by first | omega | (simp only [List.length_set]; omega))) ?_
      refine HP.takeG rfl rfl rfl rfl rfl rfl hS (fun wS hS1 => PV.move rfl) ?_
      refine HP.split (t := 87) rfl (fun hc7 => ?_) (fun hc7 => ?_)
      rotate_left
      · skip
        try simp only [nq] at hc7
        refine HP.skip rfl rfl rfl rfl rfl rfl hS ?_
        refine HP.skip rfl rfl rfl rfl rfl rfl hS ?_
        refine HP.skip rfl rfl rfl rfl rfl rfl hS ?_
        refine HP.skip rfl rfl rfl rfl rfl rfl hS ?_
        refine HP.skip rfl rfl rfl rfl rfl rfl hS ?_
        refine HP.skip rfl rfl rfl rfl rfl rfl hS ?_
        refine HP.skip rfl rfl rfl rfl rfl rfl hS ?_
        refine HP.skip rfl rfl rfl rfl rfl rfl hS ?_
        refine HP.skip rfl rfl rfl rfl rfl rfl hS ?_
        refine HP.skip rfl rfl rfl rfl rfl rfl hS ?_
        refine HP.takeG rfl rfl rfl rfl rfl rfl hS (fun wS hS1 => PV.pickF rfl rfl) ?_
        refine HP.take rfl rfl rfl rfl hS (fun wS hS1 => PV.pickF rfl rfl) ?_
        refine HP.take rfl rfl rfl rfl hS (fun wS hS1 => (by first | exact PV.ixPN1 T.ar144 rfl rfl (by omega) | exact PV.ixPZ1 T.ar144 rfl rfl (by omega))) ?_
        refine HP.last rfl rfl (OpK.storeArr T.sz4 rfl rfl rfl hb1 (by first | omega | (simp only [List.length_set]; omega)) (fun w9 hXw9 hb1 => ?_))
        have hB := hB.updL hXw9 hl1
        have hb2 := hb2.updD hXw9 (Dj.symm hd1_2)
        have hb3 := hb3.updD hXw9 (Dj.symm hd1_3)
        have hb4 := hb4.updD hXw9 (Dj.symm hd1_4)
        have hb6 := hb6.updD hXw9 (Dj.symm hd1_6)
        have hUB := hUB.step hXw9 hkB_1
        have hU0 := hU0.step hXw9 hk0_1
        have hU1 := hU1.step hXw9 hk1_1
        refine HP.done ?_
        refine NQ.block ?_
        refine NQ.then ?_
        refine CW.reg ?_
        refine WL.mv rfl rfl ?_
        refine WL.pure rfl rfl rfl (PV.add rfl rfl (by constructor <;> omega)) ?_
        refine WL.asg rfl rfl ?_
        refine WL.nil ?_
        refine NQ.next (ρ := [(9, _)]) ⟨rfl, rfl, rfl, rfl, rfl, rfl, rfl, rfl, rfl, trivial⟩ ?_
        exact ⟨_, ⟨M + 1, _, rfl, rfl, hU1, bxM hb1 (by rfl), (by first | omega | assumption | (simp_all; done) | (simp_all; omega)), (by rw [ei]; exact (TP.nodeB (K := K) (M := M) hp hg (by omega) (by omega) (by omega) (by omega) (by omega) (by omega) (by assumption) (by omega) (by omega) (by rw [ec, ea, eb]; first | exact ⟨fun _ => .inl (by assumption), fun _ => rfl⟩ | exact ⟨fun h => .inr ⟨by assumption, h⟩, fun h => by rcases h with h | h; exact absurd (h.symm.trans (show _ = false by assumption)) (by decide); exact h.2⟩ | exact ⟨fun h => (by cases h), fun h => by rcases h with h | h; exact absurd (h.symm.trans (show _ = false by assumption)) (by decide); exact absurd (h.1.symm.trans (show _ = false by assumption)) (by decide)⟩)).mono (fun k m c hk hc h => by omega))⟩, by omega⟩
      try simp only [nq] at hc7
      refine HP.takeG rfl rfl rfl rfl rfl rfl hS (fun wS hS1 => PV.load0 T.na142 rfl (Bx.cells (Bx.updD (by assumption) hS1 (Dj.nlR _))) (Ext.refl _) rfl) ?_
      refine HP.takeG rfl rfl rfl rfl rfl rfl hS (fun wS hS1 => PV.move rfl) ?_
      refine HP.takeG rfl rfl rfl rfl rfl rfl hS (fun wS hS1 => PV.move rfl) ?_
      refine HP.takeG rfl rfl rfl rfl rfl rfl hS (fun wS hS1 => PV.fieldAddr T.fl56_2 rfl hb6.cells) ?_
      refine HP.takeG rfl rfl rfl rfl rfl rfl hS (fun wS hS1 => PV.load1 T.na2 rfl (Bx.cells (Bx.updD (by assumption) hS1 (Dj.nlR _))) (Ext.refl _) rfl) ?_
      refine HP.takeG rfl rfl rfl rfl rfl rfl hS (fun wS hS1 => PV.nilCheck rfl) ?_
      refine HP.takeG rfl rfl rfl rfl rfl rfl hS (fun wS hS1 => (by first | exact PV.ixN T.ar223 rfl hb1.spot rfl (by omega) | exact PV.ixZ T.ar223 rfl hb1.spot rfl (by omega))) ?_
      refine HP.takeG rfl rfl rfl rfl rfl rfl hS (fun wS hS1 => (by first | exact PV.ixPN T.ar145 rfl rfl (by omega) | exact PV.ixPZ T.ar145 rfl rfl (by omega))) ?_
      refine HP.takeG rfl rfl rfl rfl rfl rfl hS (fun wS hS1 => (by first | exact PV.ixPN1 T.ar144 rfl rfl (by omega) | exact PV.ixPZ1 T.ar144 rfl rfl (by omega))) ?_
      refine HP.takeG rfl rfl rfl rfl rfl rfl hS (fun wS hS1 => PV.loadArr false T.na4 rfl (Bx.cells (Bx.updD hb1 hS1 (Dj.nlR _))) (Ext.refl _) (by first | omega | (simp only [List.length_set]; omega))) ?_
      refine HP.takeG rfl rfl rfl rfl rfl rfl hS (fun wS hS1 => PV.pickT rfl rfl) ?_
      refine HP.take rfl rfl rfl rfl hS (fun wS hS1 => PV.pickF rfl rfl) ?_
      refine HP.take rfl rfl rfl rfl hS (fun wS hS1 => (by first | exact PV.ixPN1 T.ar144 rfl rfl (by omega) | exact PV.ixPZ1 T.ar144 rfl rfl (by omega))) ?_
      refine HP.last rfl rfl (OpK.storeArr T.sz4 rfl rfl rfl hb1 (by first | omega | (simp only [List.length_set]; omega)) (fun w10 hXw10 hb1 => ?_))
      have hB := hB.updL hXw10 hl1
      have hb2 := hb2.updD hXw10 (Dj.symm hd1_2)
      have hb3 := hb3.updD hXw10 (Dj.symm hd1_3)
      have hb4 := hb4.updD hXw10 (Dj.symm hd1_4)
      have hb6 := hb6.updD hXw10 (Dj.symm hd1_6)
      have hUB := hUB.step hXw10 hkB_1
      have hU0 := hU0.step hXw10 hk0_1
      have hU1 := hU1.step hXw10 hk1_1
      refine HP.done ?_
      refine NQ.block ?_
      refine NQ.then ?_
      refine CW.reg ?_
      refine WL.mv rfl rfl ?_
      refine WL.pure rfl rfl rfl (PV.add rfl rfl (by constructor <;> omega)) ?_
      refine WL.asg rfl rfl ?_
      refine WL.nil ?_
      refine NQ.next (ρ := [(9, _)]) ⟨rfl, rfl, rfl, rfl, rfl, rfl, rfl, rfl, rfl, trivial⟩ ?_
      exact ⟨_, ⟨M + 1, _, rfl, rfl, hU1, bxM hb1 (by rfl), (by first | omega | assumption | (simp_all; done) | (simp_all; omega)), (by rw [ei]; exact (TP.nodeB (K := K) (M := M) hp hg (by omega) (by omega) (by omega) (by omega) (by omega) (by omega) (by assumption) (by omega) (by omega) (by rw [ec, ea, eb]; first | exact ⟨fun _ => .inl (by assumption), fun _ => rfl⟩ | exact ⟨fun h => .inr ⟨by assumption, h⟩, fun h => by rcases h with h | h; exact absurd (h.symm.trans (show _ = false by assumption)) (by decide); exact h.2⟩ | exact ⟨fun h => (by cases h), fun h => by rcases h with h | h; exact absurd (h.symm.trans (show _ = false by assumption)) (by decide); exact absurd (h.1.symm.trans (show _ = false by assumption)) (by decide)⟩)).mono (fun k m c hk hc h => by omega))⟩, by omega⟩
    try simp only [nq] at hc5
    refine CW.exit ?_
    refine XQ.then ?_
    refine XQ.then ?_
    refine XQ.here ?_
    refine NQ.block ?_
    refine NQ.then ?_
    refine CW.reg ?_
    refine WL.pure rfl rfl rfl (PV.add rfl rfl (by constructor <;> omega)) ?_
    refine WL.mv rfl rfl ?_
    refine WL.nil ?_
    refine NQ.next (ρ := [(13, _)]) ⟨rfl, rfl, rfl, rfl, rfl, rfl, rfl, trivial⟩ ?_
    exact ⟨_, ⟨K + 1, _, rfl, rfl, hU0, bxM hb1 (by rfl), (by first | omega | assumption | (simp_all; done) | (simp_all; omega)), (by first | exact hp.mono (fun k m c hk hc h => by have := hc.pl; omega) | (rw [ei]; exact (TP.leafB (K := K) hp hg (by omega) (by omega) (by omega) (by omega) (by omega) (by omega) (by assumption) (by rw [ec]; first | exact ⟨fun _ => .inl (by assumption), fun _ => rfl⟩ | exact ⟨fun h => .inr ⟨by omega, of_decide_eq_true h⟩, fun h => by rcases h with h | h; exact absurd (h.symm.trans (show _ = false by assumption)) (by decide); exact decide_eq_true h.2⟩ | exact ⟨fun h => (by cases h), fun h => by rcases h with h | h; exact absurd (h.symm.trans (show _ = false by assumption)) (by decide); have := h.1; omega⟩)).mono (fun k m c hk hc h => by rcases Nat.lt_succ_iff_lt_or_eq.1 h with h | rfl; exact .inl h; exact .inr ⟨rfl, hc.pl.2.2.1 (by assumption)⟩)))⟩, by omega⟩
  try simp only [nq] at hc1
  refine CW.exit ?_
  refine XQ.then ?_
  refine XQ.then ?_
  refine XQ.here ?_
  refine NQ.r0 ?_
  refine ⟨hUB, _, rfl, ?_, hb1⟩
  · skip
    exact hp.fin (fun k m h1 _ _ => by omega)
theorem c_impl_Grammar_choices_1_1 {w : World} {b : World} {pq pi pj pc : Addr} {r0 r1 r2 r3 c : Int} {ys : List Int} {i j K M : Nat} (hB0 : Ext b w) (htb_pc : Bx w pc (List.map VI (ys))) (htl_pc : Lo b (some pc.block)) (htb_pq : Bx w pq [.pointer (some pc)]) (htb_pi : Bx w pi [.int .i64 (i : Nat)]) (htb_pj : Bx w pj [.int .i64 (j : Nat)]) (htd_pq_pc : Dj (some pq.block) (some pc.block)) (htd_pi_pc : Dj (some pi.block) (some pc.block)) (htd_pj_pc : Dj (some pj.block) (some pc.block)) (hn : ys.length = 3744) (hij : i < 12 ∧ j ≤ 12) (hr0 : 0 ≤ r0 ∧ r0 < 8) : Calls Try.prog 197 #[.agg #[.int .i64 r0, .int .i64 r1, .int .i64 r2, .int .i64 r3], .int .i64 (K : Nat), .int .i64 (M : Nat), .int .i64 c, .pointer (some pq), .pointer (some pi), .pointer (some pj)] w (Ret1 (fun v w' => UpdL [some pc.block] w w' ∧ ∃ (zs : List Int), v = .tuple #[] ∧ (zs = takeZ ys i j r0 c (K : Nat) (M : Nat)) ∧ Bx w' pc (List.map VI (zs)))) := by
  have hB := hB0
  refine callsOf (vs := [_, _, _, _, _, _, _]) Try.func197 rfl Try.ntmps197 rfl rfl ?_
  have hUB : UpdL [(some pc.block)] w w := UpdL.refl _ _
  have hb1 := htb_pc
  have hl1 := htl_pc
  have hkB_1 : OkB [(some pc.block)] w (some pc.block) := OkB.mem (by simp)
  have hgB_1 := OgR.refl w (some pc.block)
  have hb2 := htb_pq
  have hd1_2 := Dj.symm htd_pq_pc
  have hb3 := htb_pi
  have hd1_3 := Dj.symm htd_pi_pc
  have hb4 := htb_pj
  have hd1_4 := Dj.symm htd_pj_pc
  refine CW.seq ?_
  refine CW.reg ?_
  refine WL.op rfl (OpK.box rfl rfl (by first | exact Rd.cells1 (by assumption) | exact Osl.cells1 (by assumption) | exact Osn.cells1 (by assumption) | exact Rd.cells1 (NL.rd (by assumption)) | exact Inn.cell1 (by assumption) (by omega) | assumption | rfl) (fun b5 w1 hXw1 hb5 hge5 => ?_))
  have hl5 := Lo.new hB hge5
  have hd1_5 := Dj.new hb1.ltO hge5
  have hd2_5 := Dj.new hb2.ltO hge5
  have hd3_5 := Dj.new hb3.ltO hge5
  have hd4_5 := Dj.new hb4.ltO hge5
  have hkB_5 := OkN.new hUB hge5
  have hgB_5 := OgR.new hUB.size hge5
  have hB := hB.trans hXw1
  have hb1 := hb1.up hXw1
  have hb2 := hb2.up hXw1
  have hb3 := hb3.up hXw1
  have hb4 := hb4.up hXw1
  have hUB := hUB.ext hXw1
  refine WL.nilS ?_
  refine CW.seq ?_
  refine CW.draw T.mixed (by kernel_rfl) (fun _ _ _ _ _ h => h) (fun w8 w9 => Upd none w8 w9) 13 (.take 0 (.take 1 (.take 2 (.take 3 (.take 4 (.take 5 (.take 6 (.take 7 (.take 8 (.take 9 (.take 10 (.take 11 (.take 12 .done))))))))))))) (by kernel_rfl) (fun w2 hXd => ?_)
  have hB := hB.trans hXd
  have hb1 := hb1.up hXd
  have hb2 := hb2.up hXd
  have hb3 := hb3.up hXd
  have hb4 := hb4.up hXd
  have hb5 := hb5.up hXd
  have hUB := hUB.ext hXd
  have hBr := hB
  have hS : Upd none w2 w2 := Ext.toUpd (Ext.refl _)
  refine HP.take rfl rfl rfl rfl hS (fun wS hS1 => PV.move rfl) ?_
  refine HP.take rfl rfl rfl rfl hS (fun wS hS1 => PV.load0 T.na131 rfl (Bx.cells (Bx.updD (by assumption) hS1 (Dj.nlR _))) (Ext.refl _) rfl) ?_
  refine HP.take rfl rfl rfl rfl hS (fun wS hS1 => PV.load0 T.na3 rfl (Bx.cells (Bx.updD (by assumption) hS1 (Dj.nlR _))) (Ext.refl _) rfl) ?_
  refine HP.take rfl rfl rfl rfl hS (fun wS hS1 => PV.load0 T.na3 rfl (Bx.cells (Bx.updD (by assumption) hS1 (Dj.nlR _))) (Ext.refl _) rfl) ?_
  refine HP.take rfl rfl rfl rfl hS (fun wS hS1 => PV.fieldAddr T.fl56_0 rfl hb5.cells) ?_
  refine HP.take rfl rfl rfl rfl hS (fun wS hS1 => PV.load1 T.na2 rfl (Bx.cells (Bx.updD (by assumption) hS1 (Dj.nlR _))) (Ext.refl _) rfl) ?_
  refine HP.take rfl rfl rfl rfl hS (fun wS hS1 => PV.nilCheck rfl) ?_
  refine HP.take rfl rfl rfl rfl hS (fun wS hS1 => (by first | exact PV.ixN T.ar220 rfl hb1.spot rfl (by omega) | exact PV.ixZ T.ar220 rfl hb1.spot rfl (by omega))) ?_
  refine HP.take rfl rfl rfl rfl hS (fun wS hS1 => (by first | exact PV.ixPN T.ar130 rfl rfl (by omega) | exact PV.ixPZ T.ar130 rfl rfl (by omega))) ?_
  refine HP.take rfl rfl rfl rfl hS (fun wS hS1 => (by first | exact PV.ixPN T.ar129 rfl rfl (by omega) | exact PV.ixPZ T.ar129 rfl rfl (by omega))) ?_
  refine HP.take rfl rfl rfl rfl hS (fun wS hS1 => PV.fieldAddrP0 T.fl128_0 rfl) ?_
  refine HP.take rfl rfl rfl rfl hS (fun wS hS1 => PV.loadArr 0 T.na2 rfl (Bx.cells (Bx.updD hb1 hS1 (Dj.nlR _))) (Ext.refl _) (by first | omega | (simp only [List.length_set]; omega))) ?_
  refine HP.take rfl rfl rfl rfl hS (fun wS hS1 => PV.lss rfl rfl) ?_
  refine HP.doneS ?_
  refine CW.cond rfl (fun hc1 => ?_) (fun hc1 => ?_)
  · skip
    try simp only [nq] at hc1
    refine CW.draw T.mixed (by kernel_rfl) (fun _ _ _ _ _ h => h) (fun w8 w9 => Upd none w8 w9) 13 (.take 0 (.take 1 (.take 2 (.take 3 (.take 4 (.take 5 (.take 6 (.take 7 (.take 8 (.take 9 (.take 10 (.take 11 (.take 12 (.must 13 .done)))))))))))))) (by kernel_rfl) (fun w3 hXd => ?_)
    have hB := hB.trans hXd
    have hb1 := hb1.up hXd
    have hb2 := hb2.up hXd
    have hb3 := hb3.up hXd
    have hb4 := hb4.up hXd
    have hb5 := hb5.up hXd
    have hUB := hUB.ext hXd
    have hBr := hB
    have hS : Upd none w3 w3 := Ext.toUpd (Ext.refl _)
    refine HP.take rfl rfl rfl rfl hS (fun wS hS1 => PV.load0 T.na131 rfl (Bx.cells (Bx.updD (by assumption) hS1 (Dj.nlR _))) (Ext.refl _) rfl) ?_
    refine HP.take rfl rfl rfl rfl hS (fun wS hS1 => PV.load0 T.na3 rfl (Bx.cells (Bx.updD (by assumption) hS1 (Dj.nlR _))) (Ext.refl _) rfl) ?_
    refine HP.take rfl rfl rfl rfl hS (fun wS hS1 => PV.load0 T.na3 rfl (Bx.cells (Bx.updD (by assumption) hS1 (Dj.nlR _))) (Ext.refl _) rfl) ?_
    refine HP.take rfl rfl rfl rfl hS (fun wS hS1 => PV.fieldAddr T.fl56_0 rfl hb5.cells) ?_
    refine HP.take rfl rfl rfl rfl hS (fun wS hS1 => PV.load1 T.na2 rfl (Bx.cells (Bx.updD (by assumption) hS1 (Dj.nlR _))) (Ext.refl _) rfl) ?_
    refine HP.take rfl rfl rfl rfl hS (fun wS hS1 => PV.move rfl) ?_
    refine HP.take rfl rfl rfl rfl hS (fun wS hS1 => PV.move rfl) ?_
    refine HP.take rfl rfl rfl rfl hS (fun wS hS1 => PV.move rfl) ?_
    refine HP.take rfl rfl rfl rfl hS (fun wS hS1 => PV.build (ks := [0, 1, 2]) (os := [.tmp 29, .tmp 30, .tmp 31]) (css := [[_], [_], [_]]) (ds := [_, _, _]) T.bu128 rfl rfl ⟨rfl, rfl, rfl, trivial⟩ rfl) ?_
    refine HP.take rfl rfl rfl rfl hS (fun wS hS1 => PV.nilCheck rfl) ?_
    refine HP.take rfl rfl rfl rfl hS (fun wS hS1 => (by first | exact PV.ixN T.ar220 rfl hb1.spot rfl (by omega) | exact PV.ixZ T.ar220 rfl hb1.spot rfl (by omega))) ?_
    refine HP.take rfl rfl rfl rfl hS (fun wS hS1 => (by first | exact PV.ixPN T.ar130 rfl rfl (by omega) | exact PV.ixPZ T.ar130 rfl rfl (by omega))) ?_
    refine HP.take rfl rfl rfl rfl hS (fun wS hS1 => (by first | exact PV.ixPN T.ar129 rfl rfl (by omega) | exact PV.ixPZ T.ar129 rfl rfl (by omega))) ?_
    refine HP.last rfl rfl (OpK.storeArr3 T.sz128 rfl rfl rfl rfl rfl hb1 (by first | omega | (simp only [List.length_set]; omega)) (fun w4 hXw4 hb1 => ?_))
    have hB := hB.updL hXw4 hl1
    have hb2 := hb2.updD hXw4 (Dj.symm hd1_2)
    have hb3 := hb3.updD hXw4 (Dj.symm hd1_3)
    have hb4 := hb4.updD hXw4 (Dj.symm hd1_4)
    have hb5 := hb5.updD hXw4 (Dj.symm hd1_5)
    have hUB := hUB.step hXw4 hkB_1
    refine HP.done ?_
    refine NQ.r0 ?_
    refine ⟨hUB, _, rfl, ?_, hb1⟩
    · skip
      first | exact takeZ_y (by unfold kC; omega) (by assumption) | exact takeZ_n (q := i * 312 + j * 24 + r0.toNat * 3) (by unfold kC; omega) (by omega)
  try simp only [nq] at hc1
  refine CW.skip ?_
  refine NQ.r0 ?_
  refine ⟨hUB, _, rfl, ?_, hb1⟩
  · skip
    first | exact takeZ_y (by unfold kC; omega) (by assumption) | exact takeZ_n (q := i * 312 + j * 24 + r0.toNat * 3) (by unfold kC; omega) (by omega)

end Go.Proofs.Ythemmoceomdccaa
