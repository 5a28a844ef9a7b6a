/- Walks of the functions that the law FnTrees reaches: each says what its function computes. No condition. -/
import Derived.Test.YthemmoceomdccaaProg
import Derived.Test.YthemmoceomdccaaLibM
import Derived.Test.YthemmoceomdccaaPlA
import Derived.Test.YthemmoceomdccaaPlM
import Derived.Test.YthemmoceomdccaaLibN
import Derived.Test.YthemmoceomdccaaLibO
import Derived.Test.YthemmoceomdccaaLibG2
import Derived.Test.YthemmoceomdccaaPlG
import Derived.Test.YthemmoceomdccaaLibRf
import Derived.Test.YthemmoceomdccaaPlTr
import Derived.Test.YthemmoceomdccaaPlTs
import Derived.Test.YthemmoceomdccaaLibRs
import Derived.Test.YthemmoceomdccaaLibR
import Derived.Test.YthemmoceomdccaaPlX
import Derived.Test.YthemmoceomdccaaPlCt
import Derived.Test.YthemmoceomdccaaPlFt
import Derived.Test.YthemmoceomdccaaLibKp
import Derived.Test.YthemmoceomdccaaLibKa
import Derived.Test.YthemmoceomdccaaPlCl
import Derived.Test.YthemmoceomdccaaPlR
import Derived.Test.YthemmoceomdccaaPlDq
import Derived.Test.YthemmoceomdccaaPlFu
import Derived.Test.YthemmoceomdccaaPlFv
import Derived.Test.YthemmoceomdccaaPlId
import Derived.Test.YthemmoceomdccaaPlCn
import Derived.Test.YthemmoceomdccaaPlFy
import Derived.Test.YthemmoceomdccaaPlR8
namespace Go.Proofs.Ythemmoceomdccaa.T
open Go Go.WX Go.Proofs

theorem sl42 : slOf Try.prog 42 = some (5, 1, 1) := by kernel_rfl
theorem na5 : naOf Try.prog 5 = true := by kernel_rfl
theorem us5 : (Try.prog.underlying 5).isSome = true := by kernel_rfl
theorem ik2 : ikOf Try.prog 2 = some .i64 := by kernel_rfl
theorem bu216 : buOf Try.prog 216 = some ([.slice none 0 0, .int .i64 0, .int .u64 0], [(0, 1), (1, 1), (2, 1)]) := by kernel_rfl
theorem mixed : Try.prog.follows .mixedOrders = true := by kernel_rfl
theorem fl216_1 : flOf Try.prog 216 1 = some (1, 3, 1) := by kernel_rfl
theorem na3 : naOf Try.prog 3 = true := by kernel_rfl
theorem fl216_0 : flOf Try.prog 216 0 = some (0, 42, 1) := by kernel_rfl
theorem na42 : naOf Try.prog 42 = true := by kernel_rfl
theorem ik3 : ikOf Try.prog 3 = some .i64 := by kernel_rfl
theorem sz3 : szOf Try.prog 3 = some 1 := by kernel_rfl
theorem fl216_2 : flOf Try.prog 216 2 = some (2, 214, 1) := by kernel_rfl
theorem na214 : naOf Try.prog 214 = true := by kernel_rfl
theorem us3 : (Try.prog.underlying 3).isSome = true := by kernel_rfl
theorem ik214 : ikOf Try.prog 214 = some .u64 := by kernel_rfl
theorem sz214 : szOf Try.prog 214 = some 1 := by kernel_rfl
theorem us214 : (Try.prog.underlying 214).isSome = true := by kernel_rfl
theorem cf195 : cfOf Try.prog 195 = true := by kernel_rfl
theorem cf109 : cfOf Try.prog 109 = true := by kernel_rfl
theorem zv72 : zvOf Try.prog 72 = some (.agg #[.int .i64 0, .int .i64 0, .slice none 0 0, .slice none 0 0, .slice none 0 0]) := by kernel_rfl
theorem bu72 : buOf Try.prog 72 = some ([.int .i64 0, .int .i64 0, .slice none 0 0, .slice none 0 0, .slice none 0 0], [(0, 1), (1, 1), (2, 1), (3, 1), (4, 1)]) := by kernel_rfl
theorem sz72 : szOf Try.prog 72 = some 5 := by kernel_rfl
theorem fl72_2 : flOf Try.prog 72 2 = some (2, 28, 1) := by kernel_rfl
theorem na28 : naOf Try.prog 28 = true := by kernel_rfl
theorem sl28 : slOf Try.prog 28 = some (2, 1, 8) := by kernel_rfl
theorem zv2 : zvOf Try.prog 2 = some (.int .i64 0) := by kernel_rfl
theorem sz28 : szOf Try.prog 28 = some 1 := by kernel_rfl
theorem fl72_3 : flOf Try.prog 72 3 = some (3, 28, 1) := by kernel_rfl
theorem fl72_4 : flOf Try.prog 72 4 = some (4, 62, 1) := by kernel_rfl
theorem na62 : naOf Try.prog 62 = true := by kernel_rfl
theorem cf194 : cfOf Try.prog 194 = true := by kernel_rfl
theorem sl62 : slOf Try.prog 62 = some (4, 1, 1) := by kernel_rfl
theorem zv4 : zvOf Try.prog 4 = some (.bool false) := by kernel_rfl
theorem sz62 : szOf Try.prog 62 = some 1 := by kernel_rfl
theorem ag72 : agOf Try.prog 72 = some 5 := by kernel_rfl
theorem cf107 : cfOf Try.prog 107 = true := by kernel_rfl
theorem cf127 : cfOf Try.prog 127 = true := by kernel_rfl
theorem cf128 : cfOf Try.prog 128 = true := by kernel_rfl
theorem na2 : naOf Try.prog 2 = true := by kernel_rfl
theorem cf104 : cfOf Try.prog 104 = true := by kernel_rfl
theorem cf136 : cfOf Try.prog 136 = true := by kernel_rfl
theorem cf48 : cfOf Try.prog 48 = true := by kernel_rfl
theorem zv28 : zvOf Try.prog 28 = some (.slice none 0 0) := by kernel_rfl
theorem cf200 : cfOf Try.prog 200 = true := by kernel_rfl
theorem cf226 : cfOf Try.prog 226 = true := by kernel_rfl
theorem na125 : naOf Try.prog 125 = true := by kernel_rfl
theorem na58 : naOf Try.prog 58 = true := by kernel_rfl
theorem sz2 : szOf Try.prog 2 = some 1 := by kernel_rfl
theorem cf129 : cfOf Try.prog 129 = true := by kernel_rfl
theorem sl25 : slOf Try.prog 25 = some (28, 1, 24) := by kernel_rfl
theorem zv25 : zvOf Try.prog 25 = some (.slice none 0 0) := by kernel_rfl
theorem sz25 : szOf Try.prog 25 = some 1 := by kernel_rfl
theorem na25 : naOf Try.prog 25 = true := by kernel_rfl
theorem na157 : naOf Try.prog 157 = true := by kernel_rfl
theorem na160 : naOf Try.prog 160 = true := by kernel_rfl
theorem cf201 : cfOf Try.prog 201 = true := by kernel_rfl
theorem cf135 : cfOf Try.prog 135 = true := by kernel_rfl
theorem cf133 : cfOf Try.prog 133 = true := by kernel_rfl
theorem fl72_0 : flOf Try.prog 72 0 = some (0, 2, 1) := by kernel_rfl
theorem fl72_1 : flOf Try.prog 72 1 = some (1, 2, 1) := by kernel_rfl
theorem cf144 : cfOf Try.prog 144 = true := by kernel_rfl
theorem cf56 : cfOf Try.prog 56 = true := by kernel_rfl
theorem cf50 : cfOf Try.prog 50 = true := by kernel_rfl
theorem na4 : naOf Try.prog 4 = true := by kernel_rfl
theorem fl167_0 : flOf Try.prog 167 0 = some (0, 2, 1) := by kernel_rfl
theorem sl163 : slOf Try.prog 163 = some (167, 4, 32) := by kernel_rfl
theorem ag167 : agOf Try.prog 167 = some 4 := by kernel_rfl
theorem cf204 : cfOf Try.prog 204 = true := by kernel_rfl
theorem cf227 : cfOf Try.prog 227 = true := by kernel_rfl
theorem na163 : naOf Try.prog 163 = true := by kernel_rfl
theorem cf203 : cfOf Try.prog 203 = true := by kernel_rfl
theorem zv167 : zvOf Try.prog 167 = some (.agg #[.int .i64 0, .int .i64 0, .int .i64 0, .int .i64 0]) := by kernel_rfl
theorem sz163 : szOf Try.prog 163 = some 1 := by kernel_rfl
theorem zv163 : zvOf Try.prog 163 = some (.slice none 0 0) := by kernel_rfl
theorem bu167 : buOf Try.prog 167 = some ([.int .i64 0, .int .i64 0, .int .i64 0, .int .i64 0], [(0, 1), (1, 1), (2, 1), (3, 1)]) := by kernel_rfl
theorem cf202 : cfOf Try.prog 202 = true := by kernel_rfl
theorem cf138 : cfOf Try.prog 138 = true := by kernel_rfl
theorem cf231 : cfOf Try.prog 231 = true := by kernel_rfl
theorem ik251 : ikOf Try.prog 251 = some .u64 := by kernel_rfl
theorem cf229 : cfOf Try.prog 229 = true := by kernel_rfl
theorem us251 : (Try.prog.underlying 251).isSome = true := by kernel_rfl
theorem cf225 : cfOf Try.prog 225 = true := by kernel_rfl
theorem cf199 : cfOf Try.prog 199 = true := by kernel_rfl
theorem sz167 : szOf Try.prog 167 = some 4 := by kernel_rfl
theorem az231 : azOf Try.prog 231 = some (List.replicate 33 (VI 0)) := by kernel_rfl
theorem ar231 : arOf Try.prog 231 = some (33, 2, 1) := by kernel_rfl
theorem sz231 : szOf Try.prog 231 = some 33 := by kernel_rfl
theorem ag231 : agOf Try.prog 231 = some 33 := by kernel_rfl
theorem cf139 : cfOf Try.prog 139 = true := by kernel_rfl
theorem cf140 : cfOf Try.prog 140 = true := by kernel_rfl
theorem cf137 : cfOf Try.prog 137 = true := by kernel_rfl
theorem cf141 : cfOf Try.prog 141 = true := by kernel_rfl
theorem bl4 : blOf Try.prog 4 = true := by kernel_rfl
theorem cf142 : cfOf Try.prog 142 = true := by kernel_rfl
theorem cf143 : cfOf Try.prog 143 = true := by kernel_rfl
theorem az171 : azOf Try.prog 171 = some (List.replicate 144 (VI 0)) := by kernel_rfl
theorem sz171 : szOf Try.prog 171 = some 144 := by kernel_rfl
theorem ar171 : arOf Try.prog 171 = some (9, 170, 16) := by kernel_rfl
theorem ar170 : arOf Try.prog 170 = some (16, 2, 1) := by kernel_rfl
theorem ar174 : arOf Try.prog 174 = some (12, 173, 13) := by kernel_rfl
theorem ar173 : arOf Try.prog 173 = some (13, 172, 1) := by kernel_rfl
theorem sz172 : szOf Try.prog 172 = some 1 := by kernel_rfl
theorem na172 : naOf Try.prog 172 = true := by kernel_rfl
theorem cf145 : cfOf Try.prog 145 = true := by kernel_rfl
theorem cf124 : cfOf Try.prog 124 = true := by kernel_rfl
theorem az174 : azOf Try.prog 174 = some (List.replicate 156 (VU32 0)) := by kernel_rfl
theorem sz174 : szOf Try.prog 174 = some 156 := by kernel_rfl
theorem cf113 : cfOf Try.prog 113 = true := by kernel_rfl
theorem fl167_1 : flOf Try.prog 167 1 = some (1, 2, 1) := by kernel_rfl
theorem fl167_2 : flOf Try.prog 167 2 = some (2, 3, 1) := by kernel_rfl
theorem fl167_3 : flOf Try.prog 167 3 = some (3, 3, 1) := by kernel_rfl
theorem cf22 : cfOf Try.prog 22 = true := by kernel_rfl
theorem cf23 : cfOf Try.prog 23 = true := by kernel_rfl
theorem cf43 : cfOf Try.prog 43 = true := by kernel_rfl
theorem cf44 : cfOf Try.prog 44 = true := by kernel_rfl
theorem cf45 : cfOf Try.prog 45 = true := by kernel_rfl
theorem cf46 : cfOf Try.prog 46 = true := by kernel_rfl
theorem cf47 : cfOf Try.prog 47 = true := by kernel_rfl
theorem cf49 : cfOf Try.prog 49 = true := by kernel_rfl
theorem cf31 : cfOf Try.prog 31 = true := by kernel_rfl
theorem cf51 : cfOf Try.prog 51 = true := by kernel_rfl
theorem cf52 : cfOf Try.prog 52 = true := by kernel_rfl
theorem cf53 : cfOf Try.prog 53 = true := by kernel_rfl
theorem cf54 : cfOf Try.prog 54 = true := by kernel_rfl
theorem cf55 : cfOf Try.prog 55 = true := by kernel_rfl
theorem cf57 : cfOf Try.prog 57 = true := by kernel_rfl
theorem cf58 : cfOf Try.prog 58 = true := by kernel_rfl
theorem cf59 : cfOf Try.prog 59 = true := by kernel_rfl

end Go.Proofs.Ythemmoceomdccaa.T
namespace Go.Proofs.Ythemmoceomdccaa
open Go Go.WX Go.Proofs
set_option linter.unusedSimpArgs false
set_option linter.unusedVariables false

theorem c_laws_r8Long {w : World} {va vb : Value} {xs ys : List Int} (ha : Rd EU8 w va xs) (hb : Rd EU8 w vb ys) : Calls Try.prog 22 #[va, vb] w (Ret1 (RQt (.bool (decide (48 < (xs.length : Int) ∨ 48 < (ys.length : Int)))) w)) := by
  have hB : Ext w w := Ext.refl w
  have hla := ha.leI; have hlb := hb.leI
  refine callsOf (vs := [_, _]) Try.func22 rfl Try.ntmps22 rfl rfl ?_
  refine CW.seq ?_
  refine CW.reg ?_
  refine WL.asg rfl rfl ?_
  refine WL.nilS ?_
  refine CW.seq ?_
  refine CW.reg ?_
  refine WL.mv rfl rfl ?_
  refine WL.pure rfl rfl rfl ((by first | exact PV.len rfl (by assumption) T.sl42 | exact PV.lenOs rfl (by assumption) T.sl42 | exact PV.len rfl (NL.rd (by assumption)) T.sl42 | exact PV.len rfl (Inn.rd (by assumption) (by omega)) T.sl42)) ?_
  refine WL.pure rfl rfl rfl (PV.gtr rfl rfl) ?_
  refine WL.mv rfl rfl ?_
  refine WL.split (t := 8) rfl (fun hc1 => ?_) (fun hc1 => ?_)
  · skip
    try simp only [nq] at hc1
    refine WL.skip rfl rfl rfl rfl rfl ?_
    refine WL.skip rfl rfl rfl rfl rfl ?_
    refine WL.skip rfl rfl rfl rfl rfl ?_
    refine WL.pure rfl rfl rfl (PV.pickT rfl rfl) ?_
    refine WL.asg rfl rfl ?_
    refine WL.nilS ?_
    refine CW.ret ?_
    refine RQ.r1 rfl ?_
    refine ⟨?_, hB⟩
    first | rfl | exact bT (by omega) | exact bF (by omega) | exact bD (by omega) | exact iE (by omega) | (simp_all; done) | (simp_all; omega) | (simp_all; intros; omega)
  try simp only [nq] at hc1
  refine WL.pureG rfl rfl rfl rfl rfl (PV.move rfl) ?_
  refine WL.pureG rfl rfl rfl rfl rfl ((by first | exact PV.len rfl (by assumption) T.sl42 | exact PV.lenOs rfl (by assumption) T.sl42 | exact PV.len rfl (NL.rd (by assumption)) T.sl42 | exact PV.len rfl (Inn.rd (by assumption) (by omega)) T.sl42)) ?_
  refine WL.pureG rfl rfl rfl rfl rfl (PV.gtr rfl rfl) ?_
  refine WL.pure rfl rfl rfl (PV.pickF rfl rfl) ?_
  refine WL.asg rfl rfl ?_
  refine WL.nilS ?_
  refine CW.ret ?_
  refine RQ.r1 rfl ?_
  refine ⟨?_, hB⟩
  first | rfl | exact bT (by omega) | exact bF (by omega) | exact bD (by omega) | exact iE (by omega) | (simp_all; done) | (simp_all; omega) | (simp_all; intros; omega)
theorem c_laws_r8At {w : World} {va : Value} {xs : List Int} {i N : Int} (ha : Rd EU8 w va xs) (hg : ∀ x ∈ xs, 0 ≤ x ∧ x ≤ 255) (hi : 0 ≤ i ∧ i ≤ 100 ∧ 2 ≤ N ∧ N ≤ 100) : Calls Try.prog 23 #[va, .int .i64 i, .int .i64 N] w (Ret1 (RQt (.int .i64 (at8 xs i.toNat N)) w)) := by
  have hB : Ext w w := Ext.refl w
  have hla := ha.leI
  refine callsOf (vs := [_, _, _]) Try.func23 rfl Try.ntmps23 rfl rfl ?_
  refine CW.seq ?_
  refine CW.reg ?_
  refine WL.asg rfl rfl ?_
  refine WL.nilS ?_
  refine CW.seq ?_
  refine CW.seq ?_
  refine CW.reg ?_
  refine WL.mv rfl rfl ?_
  refine WL.pure rfl rfl rfl (PV.leq rfl rfl) ?_
  refine WL.mv rfl rfl ?_
  refine WL.split (t := 9) rfl (fun hc1 => ?_) (fun hc1 => ?_)
  · skip
    try simp only [nq] at hc1
    refine WL.skip rfl rfl rfl rfl rfl ?_
    refine WL.skip rfl rfl rfl rfl rfl ?_
    refine WL.skip rfl rfl rfl rfl rfl ?_
    refine WL.skip rfl rfl rfl rfl rfl ?_
    refine WL.pure rfl rfl rfl (PV.pickT rfl rfl) ?_
    refine WL.nilS ?_
    refine CW.condT rfl ?_
    refine CW.seq ?_
    refine CW.reg ?_
    refine WL.asg rfl rfl ?_
    refine WL.nilS ?_
    refine CW.ret ?_
    refine RQ.then ?_
    refine RQ.r1 rfl ?_
    refine ⟨?_, hB⟩
    first | exact iE (by rw [at8, if_neg (by omega)]) | exact iE (by rw [at8, if_pos (by omega)]) | (exfalso; omega)
  try simp only [nq] at hc1
  refine WL.pureG rfl rfl rfl rfl rfl (PV.move rfl) ?_
  refine WL.pureG rfl rfl rfl rfl rfl (PV.move rfl) ?_
  refine WL.pureG rfl rfl rfl rfl rfl ((by first | exact PV.len rfl (by assumption) T.sl42 | exact PV.lenOs rfl (by assumption) T.sl42 | exact PV.len rfl (NL.rd (by assumption)) T.sl42 | exact PV.len rfl (Inn.rd (by assumption) (by omega)) T.sl42)) ?_
  refine WL.pureG rfl rfl rfl rfl rfl (PV.geq rfl rfl) ?_
  refine WL.pure rfl rfl rfl (PV.pickF rfl rfl) ?_
  refine WL.nilS ?_
  refine CW.cond rfl (fun hc2 => ?_) (fun hc2 => ?_)
  · skip
    try simp only [nq] at hc2
    refine CW.seq ?_
    refine CW.reg ?_
    refine WL.asg rfl rfl ?_
    refine WL.nilS ?_
    refine CW.ret ?_
    refine RQ.then ?_
    refine RQ.r1 rfl ?_
    refine ⟨?_, hB⟩
    first | exact iE (by rw [at8, if_neg (by omega)]) | exact iE (by rw [at8, if_pos (by omega)]) | (exfalso; omega)
  try simp only [nq] at hc2
  refine CW.skipS ?_
  refine CW.seq ?_
  refine CW.reg ?_
  have hgx := getD_P hg (i := i.toNat) (by omega)
  refine WL.mv rfl rfl ?_
  refine WL.mv rfl rfl ?_
  first
    | refine WL.at (x := .tmp 15) (y := .tmp 16) (E := EU8) (0) rfl rfl (by first | assumption | exact Inn.rd (by assumption) (by omega)) (by first | omega | (simp only [List.length_set]; omega) | (simp only [List.length_append, List.length_take, List.length_replicate, List.length_drop]; omega)) (fun p1 csp1 hpp1 hcp1 hq => ?_)
    | refine WL.atZ (x := .tmp 15) (y := .tmp 16) (E := EU8) (0) rfl rfl (by first | assumption | exact Inn.rd (by assumption) (by omega)) (by first | omega | (simp only [List.length_set]; omega) | (simp only [List.length_append, List.length_take, List.length_replicate, List.length_drop]; omega)) (fun p1 csp1 hpp1 hzp1 hcp1 hq => ?_)
  cases hq
  refine WL.pure rfl rfl rfl ((by first | exact PV.indexAddr hpp1 rfl rfl T.sl42 | exact PV.indexAddr hpp1 rfl (by rw [← hzp1]; rfl) T.sl42)) ?_
  refine WL.pure rfl rfl rfl ((by first | exact PV.load0 T.na5 rfl (by first | exact Cells.up (by assumption) hB | exact Bx.cells (by assumption) | assumption) (Ext.refl _) rfl | exact PV.load1 T.na5 rfl (by first | exact Cells.up (by assumption) hB | exact Bx.cells (by assumption) | assumption) (Ext.refl _) rfl)) ?_
  refine WL.pure rfl rfl rfl (PV.conv rfl T.us5 T.ik2 (by constructor <;> omega)) ?_
  refine WL.mv rfl rfl ?_
  refine WL.pure rfl rfl rfl (PV.rem rfl rfl (by omega) rfl) ?_
  refine WL.asg rfl rfl ?_
  refine WL.nilS ?_
  refine CW.ret ?_
  refine RQ.r1 rfl ?_
  refine ⟨?_, hB⟩
  first | exact iE (by rw [at8, if_neg (by omega)]) | exact iE (by rw [at8, if_pos (by omega)]) | (exfalso; omega)
theorem c_spec_l00From {w : World} {vc : Value} {bs : List Int} (ha : Rd EU8 w vc bs) : Calls Try.prog 107 #[vc] w (Ret1 (fun v w' => Ext w w' ∧ ∃ p, v = .pointer (some p) ∧ Bx w' p [vc, .int .i64 0, .int .u64 0] ∧ w.heap.size ≤ p.block)) := by
  have hB : Ext w w := Ext.refl w
  refine callsOf (vs := [_]) Try.func107 rfl Try.ntmps107 rfl rfl ?_
  refine CW.seq ?_
  refine CW.reg ?_
  refine WL.asg rfl rfl ?_
  refine WL.nilS ?_
  refine CW.seq ?_
  refine CW.reg ?_
  refine WL.mv rfl rfl ?_
  refine WL.pure rfl rfl rfl (PV.build (ks := [0]) (os := [.tmp 3]) (css := [[_]]) (ds := [_, _, _]) T.bu216 rfl rfl ⟨(by first | exact Rd.cells1 (by assumption) | exact Osl.cells1 (by assumption) | exact Osn.cells1 (by assumption) | exact Rd.cells1 (NL.rd (by assumption)) | exact Inn.cell1 (by assumption) (by omega) | assumption | rfl), trivial⟩ rfl) ?_
  refine WL.op rfl (OpK.box rfl rfl (by first | exact Rd.cells1 (by assumption) | exact Osl.cells1 (by assumption) | exact Osn.cells1 (by assumption) | exact Rd.cells1 (NL.rd (by assumption)) | exact Inn.cell1 (by assumption) (by omega) | assumption | rfl) (fun b1 w1 hXw1 hb1 hge1 => ?_))
  have hl1 := Lo.new hB hge1
  have hB := hB.trans hXw1
  refine WL.asg rfl rfl ?_
  refine WL.nilS ?_
  refine CW.ret ?_
  refine RQ.r1 rfl ?_
  refine ⟨hB, b1, ?_, hb1, (hl1 _ rfl)⟩
  · skip
    rfl
theorem c_spec_l00Src_next {w : World} {b : World} {ps : Addr} {vc : Value} {bs : List Int} {at_ : Nat} {sd : Int}  (hB0 : Ext b w) (htb_ps : Bx w ps [vc, .int .i64 ((at_ : Nat) : Int), .int .u64 sd]) (htl_ps : Lo b (some ps.block)) (ha : Rd EU8 b vc bs) (hg : ∀ x ∈ bs, 0 ≤ x ∧ x ≤ 255) (hat : at_ ≤ 1000000) (hsd : 0 ≤ sd ∧ sd < 18446744073709551616) : Calls Try.prog 195 #[.pointer (some ps)] w (Ret1 (fun v w' => UpdL [some ps.block] w w' ∧ ∃ (r sd2 : Int), v = .int .i64 r ∧ (0 ≤ r ∧ r ≤ 255) ∧ (0 ≤ sd2 ∧ sd2 < 18446744073709551616) ∧ Bx w' ps [vc, .int .i64 ((at_ + 1 : Nat) : Int), .int .u64 sd2])) := by
  have hB := hB0
  have hla := ha.leI
  refine callsOf (vs := [_]) Try.func195 rfl Try.ntmps195 rfl rfl ?_
  have hUB : UpdL [(some ps.block)] w w := UpdL.refl _ _
  have hb1 := htb_ps
  have hl1 := htl_ps
  have hkB_1 : OkB [(some ps.block)] w (some ps.block) := OkB.mem (by simp)
  have hgB_1 := OgR.refl w (some ps.block)
  refine CW.seq ?_
  refine CW.reg ?_
  refine WL.asg rfl rfl ?_
  refine WL.nilS ?_
  refine CW.seq ?_
  refine CW.reg ?_
  refine WL.asg rfl rfl ?_
  refine WL.nilS ?_
  refine CW.seq ?_
  refine CW.seq ?_
  refine CW.draw T.mixed (by kernel_rfl) (fun _ _ _ _ _ h => h) (fun w8 w9 => Upd none w8 w9) 10 (.take 0 (.take 1 (.take 2 (.take 3 (.take 4 (.take 5 (.take 6 (.take 7 (.take 8 (.take 9 .done)))))))))) (by kernel_rfl) (fun w1 hXd => ?_)
  have hB := hB.trans hXd
  have hb1 := hb1.up hXd
  have hUB := hUB.ext hXd
  have hBr := hB
  have hS : Upd none w1 w1 := Ext.toUpd (Ext.refl _)
  refine HP.take rfl rfl rfl rfl hS (fun wS hS1 => PV.move rfl) ?_
  refine HP.take rfl rfl rfl rfl hS (fun wS hS1 => PV.nilCheck rfl) ?_
  refine HP.take rfl rfl rfl rfl hS (fun wS hS1 => PV.fieldAddr T.fl216_1 rfl hb1.cells) ?_
  refine HP.take rfl rfl rfl rfl hS (fun wS hS1 => PV.load1 T.na3 rfl (Bx.cells (Bx.updD (by assumption) hS1 (Dj.nlR _))) (Ext.refl _) rfl) ?_
  refine HP.take rfl rfl rfl rfl hS (fun wS hS1 => PV.move rfl) ?_
  refine HP.take rfl rfl rfl rfl hS (fun wS hS1 => PV.nilCheck rfl) ?_
  refine HP.take rfl rfl rfl rfl hS (fun wS hS1 => PV.fieldAddr T.fl216_0 rfl hb1.cells) ?_
  refine HP.take rfl rfl rfl rfl hS (fun wS hS1 => PV.load1 T.na42 rfl (Bx.cells (Bx.updD (by assumption) hS1 (Dj.nlR _))) (Ext.refl _) rfl) ?_
  refine HP.take rfl rfl rfl rfl hS (fun wS hS1 => (by first | exact PV.len rfl (by assumption) T.sl42 | exact PV.lenOs rfl (by assumption) T.sl42 | exact PV.len rfl (NL.rd (by assumption)) T.sl42 | exact PV.len rfl (Inn.rd (by assumption) (by omega)) T.sl42)) ?_
  refine HP.take rfl rfl rfl rfl hS (fun wS hS1 => PV.lss rfl rfl) ?_
  refine HP.doneS ?_
  refine CW.cond rfl (fun hc1 => ?_) (fun hc1 => ?_)
  · skip
    try simp only [nq] at hc1
    have hgx := getD_P hg (i := at_) (by omega)
    refine CW.draw T.mixed (by kernel_rfl) (fun _ _ _ _ _ h => h) (fun w8 w9 => Upd none w8 w9) 12 (.take 0 (.take 1 (.take 2 (.take 3 (.take 4 (.take 5 (.take 6 (.take 7 (.take 8 (.take 9 (.take 10 (.take 11 .done)))))))))))) (by kernel_rfl) (fun w2 hXd => ?_)
    have hB := hB.trans hXd
    have hb1 := hb1.up hXd
    have hUB := hUB.ext hXd
    have hBr := hB
    have hS : Upd none w2 w2 := Ext.toUpd (Ext.refl _)
    refine HP.take rfl rfl rfl rfl hS (fun wS hS1 => PV.move rfl) ?_
    refine HP.take rfl rfl rfl rfl hS (fun wS hS1 => PV.nilCheck rfl) ?_
    refine HP.take rfl rfl rfl rfl hS (fun wS hS1 => PV.fieldAddr T.fl216_0 rfl hb1.cells) ?_
    refine HP.take rfl rfl rfl rfl hS (fun wS hS1 => PV.load1 T.na42 rfl (Bx.cells (Bx.updD (by assumption) hS1 (Dj.nlR _))) (Ext.refl _) rfl) ?_
    refine HP.take rfl rfl rfl rfl hS (fun wS hS1 => PV.move rfl) ?_
    refine HP.take rfl rfl rfl rfl hS (fun wS hS1 => PV.nilCheck rfl) ?_
    refine HP.take rfl rfl rfl rfl hS (fun wS hS1 => PV.fieldAddr T.fl216_1 rfl hb1.cells) ?_
    refine HP.take rfl rfl rfl rfl hS (fun wS hS1 => PV.load1 T.na3 rfl (Bx.cells (Bx.updD (by assumption) hS1 (Dj.nlR _))) (Ext.refl _) rfl) ?_
    first
      | refine HP.at (x := .tmp 17) (y := .tmp 21) (E := EU8) (0) rfl rfl (by first | assumption | exact Inn.rd (by assumption) (by omega)) (by first | omega | (simp only [List.length_set]; omega) | (simp only [List.length_append, List.length_take, List.length_replicate, List.length_drop]; omega)) (fun p1 csp1 hpp1 hcp1 hq => ?_)
      | refine HP.atZ (x := .tmp 17) (y := .tmp 21) (E := EU8) (0) rfl rfl (by first | assumption | exact Inn.rd (by assumption) (by omega)) (by first | omega | (simp only [List.length_set]; omega) | (simp only [List.length_append, List.length_take, List.length_replicate, List.length_drop]; omega)) (fun p1 csp1 hpp1 hzp1 hcp1 hq => ?_)
    cases hq
    refine HP.take rfl rfl rfl rfl hS (fun wS hS1 => (by first | exact PV.indexAddr hpp1 rfl rfl T.sl42 | exact PV.indexAddr hpp1 rfl (by rw [← hzp1]; rfl) T.sl42)) ?_
    refine HP.take rfl rfl rfl rfl hS (fun wS hS1 => (by first | exact PV.load0 T.na5 rfl (by first | exact Cells.up (by assumption) (hBr.trans hS1) | exact Bx.cells (Bx.updD (by assumption) hS1 (Dj.nlR _)) | exact Cells.upd (by assumption) hS1 (by simp)) (Ext.refl _) rfl | exact PV.load1 T.na5 rfl (by first | exact Cells.up (by assumption) (hBr.trans hS1) | exact Bx.cells (Bx.updD (by assumption) hS1 (Dj.nlR _)) | exact Cells.upd (by assumption) hS1 (by simp)) (Ext.refl _) rfl)) ?_
    refine HP.take rfl rfl rfl rfl hS (fun wS hS1 => PV.conv rfl T.us5 T.ik3 (by constructor <;> omega)) ?_
    refine HP.take rfl rfl rfl rfl hS (fun wS hS1 => PV.assign rfl) ?_
    refine HP.doneS ?_
    refine CW.seq ?_
    refine CW.reg ?_
    refine WL.mv rfl rfl ?_
    refine WL.pure rfl rfl rfl (PV.nilCheck rfl) ?_
    refine WL.pure rfl rfl rfl (PV.fieldAddr T.fl216_1 rfl hb1.cells) ?_
    refine WL.pure rfl rfl rfl (PV.load1 T.na3 rfl hb1.cells (Ext.refl _) rfl) ?_
    refine WL.pure rfl rfl rfl (PV.add rfl rfl (by constructor <;> omega)) ?_
    refine WL.pure rfl rfl rfl (PV.nilCheck rfl) ?_
    refine WL.pure rfl rfl rfl (PV.fieldAddr T.fl216_1 rfl hb1.cells) ?_
    refine WL.op rfl (OpK.storeB T.sz3 rfl rfl (by first | rfl | exact Inn.one1 (by assumption) (by omega) | exact Osl.oneCell (by assumption) | exact Osn.oneCell (by assumption) | exact Rd.oneCell (by assumption) | exact Rd.oneCell (NL.rd (by assumption)) | assumption) hb1 rfl (fun w3 hXw3 hb1 => ?_))
    have hB := hB.updL hXw3 hl1
    have hUB := hUB.step hXw3 hkB_1
    refine WL.nilS ?_
    refine CW.seq ?_
    refine CW.reg ?_
    refine WL.mv rfl rfl ?_
    refine WL.mv rfl rfl ?_
    refine WL.pure rfl rfl rfl (PV.nilCheck rfl) ?_
    refine WL.pure rfl rfl rfl (PV.fieldAddr T.fl216_2 rfl hb1.cells) ?_
    refine WL.pure rfl rfl rfl (PV.load1 T.na214 rfl hb1.cells (Ext.refl _) rfl) ?_
    refine WL.pure rfl rfl rfl (PV.mulW rfl rfl) ?_
    refine WL.mv rfl rfl ?_
    refine WL.pure rfl rfl rfl (PV.convW rfl T.us3 T.ik214) ?_
    refine WL.pure rfl rfl rfl (PV.addW rfl rfl) ?_
    refine WL.pure rfl rfl rfl (PV.addW rfl rfl) ?_
    refine WL.pure rfl rfl rfl (PV.nilCheck rfl) ?_
    refine WL.pure rfl rfl rfl (PV.fieldAddr T.fl216_2 rfl hb1.cells) ?_
    refine WL.op rfl (OpK.storeB T.sz214 rfl rfl (by first | rfl | exact Inn.one1 (by assumption) (by omega) | exact Osl.oneCell (by assumption) | exact Osn.oneCell (by assumption) | exact Rd.oneCell (by assumption) | exact Rd.oneCell (NL.rd (by assumption)) | assumption) hb1 rfl (fun w4 hXw4 hb1 => ?_))
    have hB := hB.updL hXw4 hl1
    have hUB := hUB.step hXw4 hkB_1
    refine WL.nilS ?_
    refine CW.seq ?_
    refine CW.seq ?_
    refine CW.draw T.mixed (by kernel_rfl) (fun _ _ _ _ _ h => h) (fun w8 w9 => Upd none w8 w9) 10 (.take 0 (.take 1 (.take 2 (.take 3 (.take 4 (.take 5 (.take 6 (.take 7 (.take 8 (.take 9 .done)))))))))) (by kernel_rfl) (fun w5 hXd => ?_)
    have hB := hB.trans hXd
    have hb1 := hb1.up hXd
    have hUB := hUB.ext hXd
    have hBr := hB
    have hS : Upd none w5 w5 := Ext.toUpd (Ext.refl _)
    refine HP.take rfl rfl rfl rfl hS (fun wS hS1 => PV.move rfl) ?_
    refine HP.take rfl rfl rfl rfl hS (fun wS hS1 => PV.nilCheck rfl) ?_
    refine HP.take rfl rfl rfl rfl hS (fun wS hS1 => PV.fieldAddr T.fl216_1 rfl hb1.cells) ?_
    refine HP.take rfl rfl rfl rfl hS (fun wS hS1 => PV.load1 T.na3 rfl (Bx.cells (Bx.updD (by assumption) hS1 (Dj.nlR _))) (Ext.refl _) rfl) ?_
    refine HP.take rfl rfl rfl rfl hS (fun wS hS1 => PV.move rfl) ?_
    refine HP.take rfl rfl rfl rfl hS (fun wS hS1 => PV.nilCheck rfl) ?_
    refine HP.take rfl rfl rfl rfl hS (fun wS hS1 => PV.fieldAddr T.fl216_0 rfl hb1.cells) ?_
    refine HP.take rfl rfl rfl rfl hS (fun wS hS1 => PV.load1 T.na42 rfl (Bx.cells (Bx.updD (by assumption) hS1 (Dj.nlR _))) (Ext.refl _) rfl) ?_
    refine HP.take rfl rfl rfl rfl hS (fun wS hS1 => (by first | exact PV.len rfl (by assumption) T.sl42 | exact PV.lenOs rfl (by assumption) T.sl42 | exact PV.len rfl (NL.rd (by assumption)) T.sl42 | exact PV.len rfl (Inn.rd (by assumption) (by omega)) T.sl42)) ?_
    refine HP.take rfl rfl rfl rfl hS (fun wS hS1 => PV.leq rfl rfl) ?_
    refine HP.doneS ?_
    refine CW.cond rfl (fun hc2 => ?_) (fun hc2 => ?_)
    · skip
      try simp only [nq] at hc2
      refine CW.seq ?_
      refine CW.reg ?_
      refine WL.mv rfl rfl ?_
      refine WL.asg rfl rfl ?_
      refine WL.nilS ?_
      refine CW.ret ?_
      refine RQ.then ?_
      refine RQ.r1 rfl ?_
      refine ⟨hUB, _, _, rfl, ?_, ?_, hb1⟩
      · skip
        first | omega | exact rnd255 _
      · skip
        exact wrapU_rng _
    try simp only [nq] at hc2
    refine CW.skipS ?_
    refine CW.seq ?_
    refine CW.reg ?_
    refine WL.mv rfl rfl ?_
    refine WL.pure rfl rfl rfl (PV.nilCheck rfl) ?_
    refine WL.pure rfl rfl rfl (PV.fieldAddr T.fl216_2 rfl hb1.cells) ?_
    refine WL.pure rfl rfl rfl (PV.load1 T.na214 rfl hb1.cells (Ext.refl _) rfl) ?_
    refine WL.pure rfl rfl rfl (PV.shr rfl rfl (by omega) (by first | (simp only [IntKind.bits]; omega) | (simp [IntKind.bits] <;> omega))) ?_
    refine WL.pure rfl rfl rfl (PV.and rfl rfl) ?_
    refine WL.pure rfl rfl rfl (PV.conv rfl T.us214 T.ik2 (by exact ⟨Int.le_trans (by decide) (rnd255 _).1, Int.le_trans (rnd255 _).2 (by decide)⟩)) ?_
    refine WL.asg rfl rfl ?_
    refine WL.nilS ?_
    refine CW.ret ?_
    refine RQ.r1 rfl ?_
    refine ⟨hUB, _, _, rfl, ?_, ?_, hb1⟩
    · skip
      first | omega | exact rnd255 _
    · skip
      exact wrapU_rng _
  try simp only [nq] at hc1
  refine CW.skipS ?_
  refine CW.seq ?_
  refine CW.reg ?_
  refine WL.mv rfl rfl ?_
  refine WL.pure rfl rfl rfl (PV.nilCheck rfl) ?_
  refine WL.pure rfl rfl rfl (PV.fieldAddr T.fl216_1 rfl hb1.cells) ?_
  refine WL.pure rfl rfl rfl (PV.load1 T.na3 rfl hb1.cells (Ext.refl _) rfl) ?_
  refine WL.pure rfl rfl rfl (PV.add rfl rfl (by constructor <;> omega)) ?_
  refine WL.pure rfl rfl rfl (PV.nilCheck rfl) ?_
  refine WL.pure rfl rfl rfl (PV.fieldAddr T.fl216_1 rfl hb1.cells) ?_
  refine WL.op rfl (OpK.storeB T.sz3 rfl rfl (by first | rfl | exact Inn.one1 (by assumption) (by omega) | exact Osl.oneCell (by assumption) | exact Osn.oneCell (by assumption) | exact Rd.oneCell (by assumption) | exact Rd.oneCell (NL.rd (by assumption)) | assumption) hb1 rfl (fun w6 hXw6 hb1 => ?_))
  have hB := hB.updL hXw6 hl1
  have hUB := hUB.step hXw6 hkB_1
  refine WL.nilS ?_
  refine CW.seq ?_
  refine CW.reg ?_
  refine WL.mv rfl rfl ?_
  refine WL.mv rfl rfl ?_
  refine WL.pure rfl rfl rfl (PV.nilCheck rfl) ?_
  refine WL.pure rfl rfl rfl (PV.fieldAddr T.fl216_2 rfl hb1.cells) ?_
  refine WL.pure rfl rfl rfl (PV.load1 T.na214 rfl hb1.cells (Ext.refl _) rfl) ?_
  refine WL.pure rfl rfl rfl (PV.mulW rfl rfl) ?_
  refine WL.mv rfl rfl ?_
  refine WL.pure rfl rfl rfl (PV.convW rfl T.us3 T.ik214) ?_
  refine WL.pure rfl rfl rfl (PV.addW rfl rfl) ?_
  refine WL.pure rfl rfl rfl (PV.addW rfl rfl) ?_
  refine WL.pure rfl rfl rfl (PV.nilCheck rfl) ?_
  refine WL.pure rfl rfl rfl (PV.fieldAddr T.fl216_2 rfl hb1.cells) ?_
  refine WL.op rfl (OpK.storeB T.sz214 rfl rfl (by first | rfl | exact Inn.one1 (by assumption) (by omega) | exact Osl.oneCell (by assumption) | exact Osn.oneCell (by assumption) | exact Rd.oneCell (by assumption) | exact Rd.oneCell (NL.rd (by assumption)) | assumption) hb1 rfl (fun w7 hXw7 hb1 => ?_))
  have hB := hB.updL hXw7 hl1
  have hUB := hUB.step hXw7 hkB_1
  refine WL.nilS ?_
  refine CW.seq ?_
  refine CW.seq ?_
  refine CW.draw T.mixed (by kernel_rfl) (fun _ _ _ _ _ h => h) (fun w8 w9 => Upd none w8 w9) 10 (.take 0 (.take 1 (.take 2 (.take 3 (.take 4 (.take 5 (.take 6 (.take 7 (.take 8 (.take 9 .done)))))))))) (by kernel_rfl) (fun w8 hXd => ?_)
  have hB := hB.trans hXd
  have hb1 := hb1.up hXd
  have hUB := hUB.ext hXd
  have hBr := hB
  have hS : Upd none w8 w8 := Ext.toUpd (Ext.refl _)
  refine HP.take rfl rfl rfl rfl hS (fun wS hS1 => PV.move rfl) ?_
  refine HP.take rfl rfl rfl rfl hS (fun wS hS1 => PV.nilCheck rfl) ?_
  refine HP.take rfl rfl rfl rfl hS (fun wS hS1 => PV.fieldAddr T.fl216_1 rfl hb1.cells) ?_
  refine HP.take rfl rfl rfl rfl hS (fun wS hS1 => PV.load1 T.na3 rfl (Bx.cells (Bx.updD (by assumption) hS1 (Dj.nlR _))) (Ext.refl _) rfl) ?_
  refine HP.take rfl rfl rfl rfl hS (fun wS hS1 => PV.move rfl) ?_
  refine HP.take rfl rfl rfl rfl hS (fun wS hS1 => PV.nilCheck rfl) ?_
  refine HP.take rfl rfl rfl rfl hS (fun wS hS1 => PV.fieldAddr T.fl216_0 rfl hb1.cells) ?_
  refine HP.take rfl rfl rfl rfl hS (fun wS hS1 => PV.load1 T.na42 rfl (Bx.cells (Bx.updD (by assumption) hS1 (Dj.nlR _))) (Ext.refl _) rfl) ?_
  refine HP.take rfl rfl rfl rfl hS (fun wS hS1 => (by first | exact PV.len rfl (by assumption) T.sl42 | exact PV.lenOs rfl (by assumption) T.sl42 | exact PV.len rfl (NL.rd (by assumption)) T.sl42 | exact PV.len rfl (Inn.rd (by assumption) (by omega)) T.sl42)) ?_
  refine HP.take rfl rfl rfl rfl hS (fun wS hS1 => PV.leq rfl rfl) ?_
  refine HP.doneS ?_
  refine CW.cond rfl (fun hc3 => ?_) (fun hc3 => ?_)
  · skip
    try simp only [nq] at hc3
    refine CW.seq ?_
    refine CW.reg ?_
    refine WL.mv rfl rfl ?_
    refine WL.asg rfl rfl ?_
    refine WL.nilS ?_
    refine CW.ret ?_
    refine RQ.then ?_
    refine RQ.r1 rfl ?_
    refine ⟨hUB, _, _, rfl, ?_, ?_, hb1⟩
    · skip
      first | omega | exact rnd255 _
    · skip
      exact wrapU_rng _
  try simp only [nq] at hc3
  refine CW.skipS ?_
  refine CW.seq ?_
  refine CW.reg ?_
  refine WL.mv rfl rfl ?_
  refine WL.pure rfl rfl rfl (PV.nilCheck rfl) ?_
  refine WL.pure rfl rfl rfl (PV.fieldAddr T.fl216_2 rfl hb1.cells) ?_
  refine WL.pure rfl rfl rfl (PV.load1 T.na214 rfl hb1.cells (Ext.refl _) rfl) ?_
  refine WL.pure rfl rfl rfl (PV.shr rfl rfl (by omega) (by first | (simp only [IntKind.bits]; omega) | (simp [IntKind.bits] <;> omega))) ?_
  refine WL.pure rfl rfl rfl (PV.and rfl rfl) ?_
  refine WL.pure rfl rfl rfl (PV.conv rfl T.us214 T.ik2 (by exact ⟨Int.le_trans (by decide) (rnd255 _).1, Int.le_trans (rnd255 _).2 (by decide)⟩)) ?_
  refine WL.asg rfl rfl ?_
  refine WL.nilS ?_
  refine CW.ret ?_
  refine RQ.r1 rfl ?_
  refine ⟨hUB, _, _, rfl, ?_, ?_, hb1⟩
  · skip
    first | omega | exact rnd255 _
  · skip
    exact wrapU_rng _
theorem c_spec_l00Src_pick {w : World} {b : World} {ps : Addr} {vc : Value} {bs : List Int} {at_ : Nat} {sd : Int} {N : Int} (hB0 : Ext b w) (htb_ps : Bx w ps [vc, .int .i64 ((at_ : Nat) : Int), .int .u64 sd]) (htl_ps : Lo b (some ps.block)) (ha : Rd EU8 b vc bs) (hg : ∀ x ∈ bs, 0 ≤ x ∧ x ≤ 255) (hat : at_ ≤ 1000000) (hsd : 0 ≤ sd ∧ sd < 18446744073709551616) (hN2 : 1 ≤ N ∧ N ≤ 200) : Calls Try.prog 109 #[.pointer (some ps), .int .i64 N] w (Ret1 (fun v w' => UpdL [some ps.block] w w' ∧ ∃ (r : Int) (at2 : Nat) (sd2 : Int), v = .int .i64 r ∧ (0 ≤ r ∧ r ≤ N - 1) ∧ (at2 ≤ at_ + 1 ∧ 0 ≤ sd2 ∧ sd2 < 18446744073709551616) ∧ Bx w' ps [vc, .int .i64 ((at2 : Nat) : Int), .int .u64 sd2])) := by
  have hB := hB0
  have hla := ha.leI
  refine callsOf (vs := [_, _]) Try.func109 rfl Try.ntmps109 rfl rfl ?_
  have hUB : UpdL [(some ps.block)] w w := UpdL.refl _ _
  have hb1 := htb_ps
  have hl1 := htl_ps
  have hkB_1 : OkB [(some ps.block)] w (some ps.block) := OkB.mem (by simp)
  have hgB_1 := OgR.refl w (some ps.block)
  refine CW.seq ?_
  refine CW.reg ?_
  refine WL.asg rfl rfl ?_
  refine WL.nilS ?_
  refine CW.seq ?_
  refine CW.seq ?_
  refine CW.reg ?_
  refine WL.mv rfl rfl ?_
  refine WL.pure rfl rfl rfl (PV.leq rfl rfl) ?_
  refine WL.nilS ?_
  refine CW.cond rfl (fun hc1 => ?_) (fun hc1 => ?_)
  · skip
    try simp only [nq] at hc1
    refine CW.seq ?_
    refine CW.reg ?_
    refine WL.asg rfl rfl ?_
    refine WL.nilS ?_
    refine CW.ret ?_
    refine RQ.then ?_
    refine RQ.r1 rfl ?_
    refine ⟨hUB, 0, at_, sd, rfl, ?_, ?_, hb1⟩
    · skip
      first | omega | exact remN (by omega) (by omega)
    · skip
      first | exact ⟨by omega, hsd⟩ | (refine ⟨by omega, ?_⟩; assumption)
  try simp only [nq] at hc1
  refine CW.skipS ?_
  refine CW.seq ?_
  refine CW.reg ?_
  refine WL.mv rfl rfl ?_
  refine WL.op rfl (OpK.call rfl T.cf195 rfl (c_spec_l00Src_next hB (by first | assumption | exact Lo.nl _) (by first | assumption | exact Lo.nl _) (by first | assumption | exact Rd.up (by assumption) hB | exact Osl.rd (by assumption) | exact Osn.rdR (by assumption) | exact NL.rd (by assumption) | exact rdII (by assumption) (by assumption) | exact Inn.rd (by assumption) (by omega)) (by first | assumption | omega | (simp only [marks_len, marksB_len, marksR_len]; omega)) (by first | assumption | omega | (simp only [marks_len, marksB_len, marksR_len]; omega)) (by first | assumption | omega | (simp only [marks_len, marksB_len, marksR_len]; omega))) (fun rv1 w1 hR => ?_))
  obtain ⟨hUC2, r3, sd24, rfl, hm5, hm6, hbn1⟩ := hR
  have hUB := hUB.trans hUC2 ⟨hkB_1, trivial⟩
  have hB := hB.loop hUC2 ⟨hl1, trivial⟩
  have hb1 := hbn1
  refine WL.asg rfl rfl ?_
  refine WL.nilS ?_
  refine CW.seq ?_
  refine CW.seq ?_
  refine CW.reg ?_
  refine WL.mv rfl rfl ?_
  refine WL.pure rfl rfl rfl (PV.gtr rfl rfl) ?_
  refine WL.nilS ?_
  refine CW.cond rfl (fun hc2 => ?_) (fun hc2 => ?_)
  · skip
    try simp only [nq] at hc2
    exfalso; omega
  try simp only [nq] at hc2
  refine CW.skipS ?_
  refine CW.seq ?_
  refine CW.reg ?_
  refine WL.mv rfl rfl ?_
  refine WL.mv rfl rfl ?_
  refine WL.pure rfl rfl rfl (PV.rem rfl rfl (by omega) rfl) ?_
  refine WL.asg rfl rfl ?_
  refine WL.nilS ?_
  refine CW.ret ?_
  refine RQ.r1 rfl ?_
  refine ⟨hUB, _, _, _, rfl, ?_, ?_, hb1⟩
  · skip
    first | omega | exact remN (by omega) (by omega)
  · skip
    first | exact ⟨by omega, hsd⟩ | (refine ⟨by omega, ?_⟩; assumption)
theorem c_spec_l00Src_one {w : World} {b : World} {ps : Addr} {vc : Value} {bs : List Int} {at_ : Nat} {sd : Int} {N : Int} (hB0 : Ext b w) (htb_ps : Bx w ps [vc, .int .i64 ((at_ : Nat) : Int), .int .u64 sd]) (htl_ps : Lo b (some ps.block)) (ha : Rd EU8 b vc bs) (hg : ∀ x ∈ bs, 0 ≤ x ∧ x ≤ 255) (hat : at_ ≤ 1000000) (hsd : 0 ≤ sd ∧ sd < 18446744073709551616) (hN2 : 2 ≤ N ∧ N ≤ 200) : Calls Try.prog 194 #[.pointer (some ps), .int .i64 N] w (Ret1 (fun v w' => UpdL [some ps.block] w w' ∧ ∃ (r : Bool) (at2 : Nat) (sd2 : Int), v = .bool r ∧ (at2 ≤ at_ + 1 ∧ 0 ≤ sd2 ∧ sd2 < 18446744073709551616) ∧ Bx w' ps [vc, .int .i64 ((at2 : Nat) : Int), .int .u64 sd2])) := by
  have hB := hB0
  have hla := ha.leI
  refine callsOf (vs := [_, _]) Try.func194 rfl Try.ntmps194 rfl rfl ?_
  have hUB : UpdL [(some ps.block)] w w := UpdL.refl _ _
  have hb1 := htb_ps
  have hl1 := htl_ps
  have hkB_1 : OkB [(some ps.block)] w (some ps.block) := OkB.mem (by simp)
  have hgB_1 := OgR.refl w (some ps.block)
  refine CW.seq ?_
  refine CW.reg ?_
  refine WL.asg rfl rfl ?_
  refine WL.nilS ?_
  refine CW.seq ?_
  refine CW.reg ?_
  refine WL.mv rfl rfl ?_
  refine WL.mv rfl rfl ?_
  refine WL.op rfl (OpK.call rfl T.cf109 rfl (c_spec_l00Src_pick hB (by first | assumption | exact Lo.nl _) (by first | assumption | exact Lo.nl _) (by first | assumption | exact Rd.up (by assumption) hB | exact Osl.rd (by assumption) | exact Osn.rdR (by assumption) | exact NL.rd (by assumption) | exact rdII (by assumption) (by assumption) | exact Inn.rd (by assumption) (by omega)) (by first | assumption | omega | (simp only [marks_len, marksB_len, marksR_len]; omega)) (by first | assumption | omega | (simp only [marks_len, marksB_len, marksR_len]; omega)) (by first | assumption | omega | (simp only [marks_len, marksB_len, marksR_len]; omega)) (by first | assumption | omega | (simp only [marks_len, marksB_len, marksR_len]; omega))) (fun rv1 w1 hR => ?_))
  obtain ⟨hUC2, r3, at24, sd25, rfl, hm6, hm7, hbn1⟩ := hR
  have hUB := hUB.trans hUC2 ⟨hkB_1, trivial⟩
  have hB := hB.loop hUC2 ⟨hl1, trivial⟩
  have hb1 := hbn1
  refine WL.pure rfl rfl rfl (PV.eql rfl rfl) ?_
  refine WL.asg rfl rfl ?_
  refine WL.nilS ?_
  refine CW.ret ?_
  refine RQ.r1 rfl ?_
  refine ⟨hUB, _, _, _, rfl, ?_, hb1⟩
  · skip
    assumption
theorem c_spec_l06DrawTreesSides {w : World} {b : World} {ps : Addr} {vc : Value} {bs : List Int} {at_ : Nat} {sd : Int} {S L : Int} (hB0 : Ext b w) (htb_ps : Bx w ps [vc, .int .i64 ((at_ : Nat) : Int), .int .u64 sd]) (htl_ps : Lo b (some ps.block)) (ha : Rd EU8 b vc bs) (hg : ∀ x ∈ bs, 0 ≤ x ∧ x ≤ 255) (hat : at_ ≤ 900) (hsd : 0 ≤ sd ∧ sd < 18446744073709551616) (hS2 : 1 ≤ S ∧ S ≤ 4) (hL2 : 1 ≤ L ∧ L ≤ 3) : Calls Try.prog 127 #[.pointer (some ps), .int .i64 S, .int .i64 L] w (Ret1 (fun v w' => UpdL [some ps.block] w w' ∧ ∃ (x2 x3 : List Int) (x4 : List Bool) (at2 : Nat) (sd2 : Int) (u2 : Value) (og_u2 : Option Nat) (u3 : Value) (og_u3 : Option Nat) (u4 : Value) (og_u4 : Option Nat), v = .agg #[.int .i64 S, .int .i64 L, u2, u3, u4] ∧ ((x2.length : Int) = L ∧ (x3.length : Int) = S * S ∧ (x4.length : Int) = S) ∧ ((∀ y ∈ x2, 0 ≤ y ∧ y ≤ S - 1) ∧ (∀ y ∈ x3, 0 ≤ y ∧ y ≤ S - 1)) ∧ (at2 ≤ at_ + 40 ∧ 0 ≤ sd2 ∧ sd2 < 18446744073709551616) ∧ Bx w' ps [vc, .int .i64 ((at2 : Nat) : Int), .int .u64 sd2] ∧ Osl VI w' og_u2 u2 (x2) ∧ Lo w og_u2 ∧ Osl VI w' og_u3 u3 (x3) ∧ Lo w og_u3 ∧ Osl VB w' og_u4 u4 (x4) ∧ Lo w og_u4 ∧ Dj og_u2 og_u3 ∧ Dj og_u2 og_u4 ∧ Dj og_u3 og_u4)) := by
  have hB := hB0
  have hla := ha.leI; have hsq : 1 ≤ S * S ∧ S * S ≤ 16 := (by have h16 := sq16 (s := S) (by omega); have h1 : 1 * 1 ≤ S * S := Int.mul_le_mul hS2.1 hS2.1 (by omega) (by omega); have h2 : S * S ≤ 4 * 4 := Int.mul_le_mul hS2.2 hS2.2 (by omega) (by omega); omega)
  refine callsOf (vs := [_, _, _]) Try.func127 rfl Try.ntmps127 rfl rfl ?_
  have hUB : UpdL [(some ps.block)] w w := UpdL.refl _ _
  have hb1 := htb_ps
  have hl1 := htl_ps
  have hkB_1 : OkB [(some ps.block)] w (some ps.block) := OkB.mem (by simp)
  have hgB_1 := OgR.refl w (some ps.block)
  refine CW.seq ?_
  refine CW.reg ?_
  refine WL.op rfl (OpK.alloc rfl T.zv72 rfl (fun b2 w1 hXw1 hb2 hge2 => ?_))
  have hl2 := Lo.new hB hge2
  have hd1_2 := Dj.new hb1.ltO hge2
  have hkB_2 := OkN.new hUB hge2
  have hgB_2 := OgR.new hUB.size hge2
  have hB := hB.trans hXw1
  have hb1 := hb1.up hXw1
  have hUB := hUB.ext hXw1
  refine WL.nilS ?_
  refine CW.seq ?_
  refine CW.reg ?_
  refine WL.mv rfl rfl ?_
  refine WL.mv rfl rfl ?_
  refine WL.pure rfl rfl rfl (PV.build (ks := [0, 1]) (os := [.tmp 11, .tmp 12]) (css := [[_], [_]]) (ds := [_, _, _, _, _]) T.bu72 rfl rfl ⟨rfl, rfl, trivial⟩ rfl) ?_
  refine WL.op rfl (OpK.alloc rfl T.zv72 rfl (fun b3 w2 hXw2 hb3 hge3 => ?_))
  have hl3 := Lo.new hB hge3
  have hd1_3 := Dj.new hb1.ltO hge3
  have hd2_3 := Dj.new hb2.ltO hge3
  have hkB_3 := OkN.new hUB hge3
  have hgB_3 := OgR.new hUB.size hge3
  have hB := hB.trans hXw2
  have hb1 := hb1.up hXw2
  have hb2 := hb2.up hXw2
  have hUB := hUB.ext hXw2
  refine WL.op rfl (OpK.storeA T.sz72 rfl rfl rfl rfl (by simp [Value.oneCell'] <;> first | done | (repeat' apply And.intro) <;> first | rfl | exact Inn.one1 (by assumption) (by omega) | exact Osl.oneCell (by assumption) | exact Osn.oneCell (by assumption) | exact Rd.oneCell (by assumption) | exact Rd.oneCell (NL.rd (by assumption)) | assumption) hb3 (fun w3 hXw3 hb3 => ?_))
  have hB := hB.updL hXw3 hl3
  have hb1 := hb1.updD hXw3 hd1_3
  have hb2 := hb2.updD hXw3 hd2_3
  have hUB := hUB.step hXw3 hkB_3
  refine WL.nilS ?_
  refine CW.seq ?_
  refine CW.seq ?_
  refine CW.reg ?_
  refine WL.asg rfl rfl ?_
  refine WL.nilS ?_
  refine CW.block ?_
  have ho4 : Osl VI w3 none (.slice none 0 0) [] := (Osl.nil _ _)
  have hl4 : Lo b none := Lo.nl _
  have hd1_4 : Dj (some ps.block) none := Dj.nlR _
  have hd2_4 : Dj (some b2.block) none := Dj.nlR _
  have hd3_4 : Dj (some b3.block) none := Dj.nlR _
  have hkB_4 := OkN.nl hUB
  have hgB_4 := OgR.lo hUB.size (Lo.nl _)
  have ho5 : Osl VI w3 none (.slice none 0 0) [] := (Osl.nil _ _)
  have hl5 : Lo b none := Lo.nl _
  have hd1_5 : Dj (some ps.block) none := Dj.nlR _
  have hd2_5 : Dj (some b2.block) none := Dj.nlR _
  have hd3_5 : Dj (some b3.block) none := Dj.nlR _
  have hd4_5 : Dj none none := Dj.nlR _
  have hkB_5 := OkN.nl hUB
  have hgB_5 := OgR.lo hUB.size (Lo.nl _)
  have ho6 : Osl VB w3 none (.slice none 0 0) [] := (Osl.nil _ _)
  have hl6 : Lo b none := Lo.nl _
  have hd1_6 : Dj (some ps.block) none := Dj.nlR _
  have hd2_6 : Dj (some b2.block) none := Dj.nlR _
  have hd3_6 : Dj (some b3.block) none := Dj.nlR _
  have hd4_6 : Dj none none := Dj.nlR _
  have hd5_6 : Dj none none := Dj.nlR _
  have hkB_6 := OkN.nl hUB
  have hgB_6 := OgR.lo hUB.size (Lo.nl _)
  have hlt1 := hb1.ltO
  have hlt2 := hb2.ltO
  have hlt3 := hb3.ltO
  have hlt4 := ho4.ltO
  have hlt5 := ho5.ltO
  have hlt6 := ho6.ltO
  refine CW.loop (σk := [(0, _), (1, _), (2, _), (6, _), (7, _)]) (fun ρ wz m => ∃ (v7 : Value) (og7 : Option Nat) (v8 : Value) (og8 : Option Nat) (v9 : Value) (og9 : Option Nat) (k : Nat) (x2 : List Int) (aq : Nat) (sq : Int), ρ = [(8, .int .i64 (k : Nat))] ∧ m = L.toNat - k ∧ UpdL [none, none, none, (some b3.block), (some ps.block)] w3 wz ∧ Osl VI wz og7 v7 (x2) ∧ OgR w3 none og7 ∧ Osl VI wz og8 v8 (([] : List Int)) ∧ OgR w3 none og8 ∧ Osl VB wz og9 v9 (([] : List Bool)) ∧ OgR w3 none og9 ∧ Bx wz b3 [.int .i64 S, .int .i64 L, v7, v8, v9] ∧ Bx wz ps [vc, .int .i64 ((aq : Nat) : Int), .int .u64 sq] ∧ Dj og7 og8 ∧ Dj og7 og9 ∧ Dj og8 og9 ∧ ((k : Int) ≤ L) ∧ (x2.length = k) ∧ (∀ y ∈ x2, 0 ≤ y ∧ y ≤ S - 1) ∧ (aq ≤ at_ + k ∧ 0 ≤ sq ∧ sq < 18446744073709551616)) (ρ₀ := [(8, _)]) (m₀ := _) ⟨rfl, rfl, rfl, rfl, rfl, rfl, trivial⟩ ⟨(.slice none 0 0), none, (.slice none 0 0), none, (.slice none 0 0), none, 0, [], _, _, rfl, rfl, (UpdL.refl _ _), osE ho4 (by rfl), OgR.refl _ _, osE ho5 (by rfl), OgR.refl _ _, osE ho6 (by rfl), OgR.refl _ _, bxE hb3 (by first | rfl | (simp_all; done) | (simp_all; omega)), bxE hb1 (by rfl), hd4_5, hd4_6, hd5_6, (by first | omega | rfl | (simp; done) | assumption | (simp_all; done)), (by rfl), (by intro y h; cases h), (by omega)⟩ ?_
  rintro _ wl1 _ ⟨v7, og7, v8, og8, v9, og9, k, x2, aq, sq, rfl, rfl, hU0, ho7, ha7, ho8, ha8, ho9, ha9, hb3, hb1, hd7_8, hd7_9, hd8_9, hk, hxl2, hx2, hs⟩
  have hUB := hUB.trans hU0 ⟨hkB_4, hkB_5, hkB_6, hkB_3, hkB_1, trivial⟩
  have hb2 := hb2.loop hU0 ⟨hd2_4, hd2_5, hd2_6, hd2_3, (Dj.symm hd1_2), trivial⟩
  have hl7 := Lo.ogr hl4 hB ha7
  have hg0_7 := ha7
  have hk0_7 : OkB [none, none, none, (some b3.block), (some ps.block)] w3 og7 := OkB.ogr (OkB.mem (by simp)) (Nat.le_refl _) ha7
  have hkB_7 := OkB.ogr hkB_4 (by first | assumption | exact UpdL.size (by assumption)) ha7
  have hgB_7 := OgR.trans hgB_4 (by first | assumption | exact UpdL.size (by assumption)) ha7
  have hd1_7 := Dj.ogr hd1_4 hlt1 ha7
  have hd2_7 := Dj.ogr hd2_4 hlt2 ha7
  have hd3_7 := Dj.ogr hd3_4 hlt3 ha7
  have hl8 := Lo.ogr hl5 hB ha8
  have hg0_8 := ha8
  have hk0_8 : OkB [none, none, none, (some b3.block), (some ps.block)] w3 og8 := OkB.ogr (OkB.mem (by simp)) (Nat.le_refl _) ha8
  have hkB_8 := OkB.ogr hkB_5 (by first | assumption | exact UpdL.size (by assumption)) ha8
  have hgB_8 := OgR.trans hgB_5 (by first | assumption | exact UpdL.size (by assumption)) ha8
  have hd1_8 := Dj.ogr hd1_5 hlt1 ha8
  have hd2_8 := Dj.ogr hd2_5 hlt2 ha8
  have hd3_8 := Dj.ogr hd3_5 hlt3 ha8
  have hl9 := Lo.ogr hl6 hB ha9
  have hg0_9 := ha9
  have hk0_9 : OkB [none, none, none, (some b3.block), (some ps.block)] w3 og9 := OkB.ogr (OkB.mem (by simp)) (Nat.le_refl _) ha9
  have hkB_9 := OkB.ogr hkB_6 (by first | assumption | exact UpdL.size (by assumption)) ha9
  have hgB_9 := OgR.trans hgB_6 (by first | assumption | exact UpdL.size (by assumption)) ha9
  have hd1_9 := Dj.ogr hd1_6 hlt1 ha9
  have hd2_9 := Dj.ogr hd2_6 hlt2 ha9
  have hd3_9 := Dj.ogr hd3_6 hlt3 ha9
  have hk0_3 : OkB [none, none, none, (some b3.block), (some ps.block)] w3 (some b3.block) := OkB.mem (by simp)
  have hk0_1 : OkB [none, none, none, (some b3.block), (some ps.block)] w3 (some ps.block) := OkB.mem (by simp)
  have hB := hB.loop hU0 ⟨hl4, hl5, hl6, hl3, hl1, trivial⟩
  refine CW.seq ?_
  refine CW.seq ?_
  refine CW.reg ?_
  refine WL.mv rfl rfl ?_
  refine WL.mv rfl rfl ?_
  refine WL.pure rfl rfl rfl (PV.lss rfl rfl) ?_
  refine WL.nilS ?_
  refine CW.cond rfl (fun hc1 => ?_) (fun hc1 => ?_)
  · skip
    try simp only [nq] at hc1
    refine CW.skipS ?_
    refine CW.seq ?_
    refine CW.block ?_
    refine CW.draw T.mixed (by kernel_rfl) (fun _ _ _ _ _ h => h) (fun w8 w9 => UpdL [og7, (some ps.block)] w8 w9) 8 (.take 0 (.take 1 (.take 2 (.take 3 (.must 4 (.must 5 (.must 6 (.take 7 (.must 8 .done))))))))) (by kernel_rfl) (fun w4 hXd => ?_)
    have hB := hB.trans hXd
    have hb1 := hb1.up hXd
    have hb2 := hb2.up hXd
    have hb3 := hb3.up hXd
    have ho7 := ho7.up hXd
    have ho8 := ho8.up hXd
    have ho9 := ho9.up hXd
    have hUB := hUB.ext hXd
    have hU0 := hU0.ext hXd
    have hBr := hB
    have hUR : UpdL [og7, (some ps.block)] w4 w4 := UpdL.refl _ _
    have hS := hUR
    have hkR_7 : OkB [og7, (some ps.block)] w4 og7 := OkB.mem (by simp)
    have hgR_7 := OgR.refl w4 og7
    have hkR_1 : OkB [og7, (some ps.block)] w4 (some ps.block) := OkB.mem (by simp)
    have hgR_1 := OgR.refl w4 (some ps.block)
    refine HP.take rfl rfl rfl rfl hS (fun wS hS1 => PV.fieldAddr T.fl72_2 rfl hb3.cells) ?_
    refine HP.take rfl rfl rfl rfl hS (fun wS hS1 => PV.load1 T.na28 rfl (by first | exact Bx.cells (Bx.loop (by assumption) hS1 ⟨(by first | assumption | exact Dj.symm (by assumption)), (by first | assumption | exact Dj.symm (by assumption)), trivial⟩) | exact Cells.up (by assumption) (hBr.trans hS1)) (Ext.refl _) rfl) ?_
    refine HP.take rfl rfl rfl rfl hS (fun wS hS1 => PV.move rfl) ?_
    refine HP.take rfl rfl rfl rfl hS (fun wS hS1 => PV.move rfl) ?_
    refine HP.must rfl rfl (OpK.call rfl T.cf109 rfl (c_spec_l00Src_pick hB (by first | assumption | exact Lo.nl _) (by first | assumption | exact Lo.nl _) (by first | assumption | exact Rd.up (by assumption) hB | exact Osl.rd (by assumption) | exact Osn.rdR (by assumption) | exact NL.rd (by assumption) | exact rdII (by assumption) (by assumption) | exact Inn.rd (by assumption) (by omega)) (by first | assumption | omega | (simp only [marks_len, marksB_len, marksR_len]; omega)) (by first | assumption | omega | (simp only [marks_len, marksB_len, marksR_len]; omega)) (by first | assumption | omega | (simp only [marks_len, marksB_len, marksR_len]; omega)) (by first | assumption | omega | (simp only [marks_len, marksB_len, marksR_len]; omega))) (fun rv1 w5 hR => ?_))
    obtain ⟨hUC12, r13, at214, sd215, rfl, hm16, hm17, hbn1⟩ := hR
    have hUB := hUB.trans hUC12 ⟨hkB_1, trivial⟩
    have hU0 := hU0.trans hUC12 ⟨hk0_1, trivial⟩
    have hUR := hUR.trans hUC12 ⟨hkR_1, trivial⟩
    have hb2 := hb2.loop hUC12 ⟨(Dj.symm hd1_2), trivial⟩
    have hb3 := hb3.loop hUC12 ⟨(Dj.symm hd1_3), trivial⟩
    have ho7 := ho7.loop hUC12 ⟨(Dj.symm hd1_7), trivial⟩
    have ho8 := ho8.loop hUC12 ⟨(Dj.symm hd1_8), trivial⟩
    have ho9 := ho9.loop hUC12 ⟨(Dj.symm hd1_9), trivial⟩
    have hB := hB.loop hUC12 ⟨hl1, trivial⟩
    refine ⟨hUR, ?_⟩
    have hS := hUR
    have hb1 := hbn1
    refine HP.must rfl rfl (OpK.buildS VI (os := [.tmp 23]) [_] rfl T.sl28 rfl rfl T.zv2 rfl (by intro z hz; first | rfl | (simp only [List.mem_cons, List.not_mem_nil, or_false] at hz; subst hz; exact (by first | exact Rd.cells1 (by assumption) | exact Osl.cells1 (by assumption) | exact Osn.cells1 (by assumption) | exact Rd.cells1 (NL.rd (by assumption)) | exact Inn.cell1 (by assumption) (by omega) | assumption | rfl))) rfl (fun v18 g18 w6 hXw6 ho18 hge18 => ?_))
    have hl18 := Lo.new hB hge18
    have hd1_18 := Dj.new hb1.ltO hge18
    have hd2_18 := Dj.new hb2.ltO hge18
    have hd3_18 := Dj.new hb3.ltO hge18
    have hd7_18 := Dj.new ho7.ltO hge18
    have hd8_18 := Dj.new ho8.ltO hge18
    have hd9_18 := Dj.new ho9.ltO hge18
    have hkB_18 := OkN.new hUB hge18
    have hgB_18 := OgR.new hUB.size hge18
    have hk0_18 := OkN.new hU0 hge18
    have hg0_18 := OgR.new hU0.size hge18
    have hkR_18 := OkN.new hUR hge18
    have hgR_18 := OgR.new hUR.size hge18
    have hUR := hUR.ext hXw6
    refine ⟨hUR, ?_⟩
    have hS := hUR
    have hB := hB.trans hXw6
    have hb1 := hb1.up hXw6
    have hb2 := hb2.up hXw6
    have hb3 := hb3.up hXw6
    have ho7 := ho7.up hXw6
    have ho8 := ho8.up hXw6
    have ho9 := ho9.up hXw6
    have hUB := hUB.ext hXw6
    have hU0 := hU0.ext hXw6
    refine HP.must rfl rfl (OpK.appendS (f := VI) rfl T.sl28 T.zv2 rfl rfl ho7 rfl (Osl.src ho18 (fun _ => rfl)) (by first | (simp only [List.length_cons, List.length_nil]; omega) | (simp_all; omega)) (fun v19 og19 w7 hXw7 ho19 hap19 => ?_))
    have hl19 := Lo.app hl7 hB hap19
    have hd1_19 := Dj.app hd1_7 hb1.ltO hap19
    have hd2_19 := Dj.app hd2_7 hb2.ltO hap19
    have hd3_19 := Dj.app hd3_7 hb3.ltO hap19
    have hd8_19 := Dj.app (Dj.symm hd7_8) ho8.ltO hap19
    have hd9_19 := Dj.app (Dj.symm hd7_9) ho9.ltO hap19
    have hd18_19 := Dj.app (Dj.symm hd7_18) ho18.ltO hap19
    have hkB_19 := OkN.app hUB hkB_7 hap19
    have hgB_19 := OgR.app hgB_7 hUB.size hap19
    have hk0_19 := OkN.app hU0 hk0_7 hap19
    have hg0_19 := OgR.app hg0_7 hU0.size hap19
    have hkR_19 := OkN.app hUR hkR_7 hap19
    have hgR_19 := OgR.app hgR_7 hUR.size hap19
    have hUR := hUR.step hXw7 hkR_7
    refine ⟨hUR, ?_⟩
    have hS := hUR
    have hB := hB.updL hXw7 hl7
    have hb1 := hb1.updD hXw7 hd1_7
    have hb2 := hb2.updD hXw7 hd2_7
    have hb3 := hb3.updD hXw7 hd3_7
    have ho8 := ho8.updD hXw7 (Dj.symm hd7_8)
    have ho9 := ho9.updD hXw7 (Dj.symm hd7_9)
    have ho18 := ho18.updD hXw7 (Dj.symm hd7_18)
    have hUB := hUB.step hXw7 hkB_7
    have hU0 := hU0.step hXw7 hk0_7
    refine HP.take rfl rfl rfl rfl hS (fun wS hS1 => PV.fieldAddr T.fl72_2 rfl hb3.cells) ?_
    refine HP.last rfl rfl (OpK.storeB T.sz28 rfl rfl (by first | rfl | exact Inn.one1 (by assumption) (by omega) | exact Osl.oneCell (by assumption) | exact Osn.oneCell (by assumption) | exact Rd.oneCell (by assumption) | exact Rd.oneCell (NL.rd (by assumption)) | assumption) hb3 rfl (fun w8 hXw8 hb3 => ?_))
    have hB := hB.updL hXw8 hl3
    have hb1 := hb1.updD hXw8 hd1_3
    have hb2 := hb2.updD hXw8 hd2_3
    have ho8 := ho8.updD hXw8 (Dj.symm hd3_8)
    have ho9 := ho9.updD hXw8 (Dj.symm hd3_9)
    have ho18 := ho18.updD hXw8 (Dj.symm hd3_18)
    have ho19 := ho19.updD hXw8 (Dj.symm hd3_19)
    have hUB := hUB.step hXw8 hkB_3
    have hU0 := hU0.step hXw8 hk0_3
    refine HP.done ?_
    refine NQ.block ?_
    refine NQ.then ?_
    refine CW.reg ?_
    refine WL.mv rfl rfl ?_
    refine WL.pure rfl rfl rfl (PV.add rfl rfl (by constructor <;> omega)) ?_
    refine WL.asg rfl rfl ?_
    refine WL.nil ?_
    refine NQ.next (ρ := [(8, _)]) ⟨rfl, rfl, rfl, rfl, rfl, rfl, trivial⟩ ?_
    exact ⟨_, ⟨v19, og19, v8, og8, v9, og9, k + 1, x2 ++ [r13], at214, sd215, rfl, rfl, hU0, osE ho19 (by rfl), (by first | exact hg0_19 | exact OgR.weak hg0_19), osE ho8 (by rfl), (by first | exact hg0_8 | exact OgR.weak hg0_8), osE ho9 (by rfl), (by first | exact hg0_9 | exact OgR.weak hg0_9), bxE hb3 (by rfl), bxE hb1 (by rfl), (Dj.symm hd8_19), (Dj.symm hd9_19), hd8_9, (by first | omega | assumption | (simp_all; done) | (simp_all; omega)), (by simp [hxl2]), (by exact dr_in hx2 (by omega)), (by omega)⟩, by omega⟩
  try simp only [nq] at hc1
  refine CW.exit ?_
  refine XQ.then ?_
  refine XQ.then ?_
  refine XQ.here ?_
  refine NQ.then ?_
  refine CW.seq ?_
  refine CW.seq ?_
  refine CW.reg ?_
  refine WL.mv rfl rfl ?_
  refine WL.mv rfl rfl ?_
  refine WL.pure rfl rfl rfl (PV.mul rfl rfl (by constructor <;> omega)) ?_
  refine WL.asg rfl rfl ?_
  refine WL.nilS ?_
  refine CW.block ?_
  have hlt1 := hb1.ltO
  have hlt2 := hb2.ltO
  have hlt3 := hb3.ltO
  have hlt7 := ho7.ltO
  have hlt8 := ho8.ltO
  have hlt9 := ho9.ltO
  refine CW.loop (σk := [(0, _), (1, _), (6, _), (7, _)]) (fun ρ wz m => ∃ (v20 : Value) (og20 : Option Nat) (v21 : Value) (og21 : Option Nat) (v22 : Value) (og22 : Option Nat) (k3 : Nat) (x3 : List Int) (aq : Nat) (sq : Int), ρ = [(9, .int .i64 (S * S - (k3 : Nat)))] ∧ m = (S * S).toNat - k3 ∧ UpdL [og7, og8, og9, (some b3.block), (some ps.block)] wl1 wz ∧ Osl VI wz og20 v20 (x2) ∧ OgR wl1 og7 og20 ∧ Osl VI wz og21 v21 (x3) ∧ OgR wl1 og8 og21 ∧ Osl VB wz og22 v22 (([] : List Bool)) ∧ OgR wl1 og9 og22 ∧ Bx wz b3 [.int .i64 S, .int .i64 L, v20, v21, v22] ∧ Bx wz ps [vc, .int .i64 ((aq : Nat) : Int), .int .u64 sq] ∧ Dj og20 og21 ∧ Dj og20 og22 ∧ Dj og21 og22 ∧ ((k3 : Int) ≤ S * S) ∧ (x3.length = k3) ∧ (∀ y ∈ x3, 0 ≤ y ∧ y ≤ S - 1) ∧ (aq ≤ at_ + k + k3 ∧ 0 ≤ sq ∧ sq < 18446744073709551616)) (ρ₀ := [(9, _)]) (m₀ := _) ⟨rfl, rfl, rfl, rfl, rfl, trivial⟩ ⟨v7, og7, v8, og8, v9, og9, 0, [], aq, sq, (by simp), rfl, (UpdL.refl _ _), osE ho7 (by rfl), OgR.refl _ _, osE ho8 (by rfl), OgR.refl _ _, osE ho9 (by rfl), OgR.refl _ _, bxE hb3 (by first | rfl | (simp_all; done) | (simp_all; omega)), bxE hb1 (by rfl), hd7_8, hd7_9, hd8_9, (by first | omega | rfl | (simp; done) | assumption | (simp_all; done)), (by rfl), (by intro y h; cases h), (by omega)⟩ ?_
  rintro _ wl2 _ ⟨v20, og20, v21, og21, v22, og22, k3, x3, aq, sq, rfl, rfl, hU1, ho20, ha20, ho21, ha21, ho22, ha22, hb3, hb1, hd20_21, hd20_22, hd21_22, hk3, hxl3, hx3, hs⟩
  have hUB := hUB.trans hU1 ⟨hkB_7, hkB_8, hkB_9, hkB_3, hkB_1, trivial⟩
  have hb2 := hb2.loop hU1 ⟨hd2_7, hd2_8, hd2_9, hd2_3, (Dj.symm hd1_2), trivial⟩
  have hl20 := Lo.ogr hl7 hB ha20
  have hg1_20 := ha20
  have hk1_20 : OkB [og7, og8, og9, (some b3.block), (some ps.block)] wl1 og20 := OkB.ogr (OkB.mem (by simp)) (Nat.le_refl _) ha20
  have hkB_20 := OkB.ogr hkB_7 (by first | assumption | exact UpdL.size (by assumption)) ha20
  have hgB_20 := OgR.trans hgB_7 (by first | assumption | exact UpdL.size (by assumption)) ha20
  have hd1_20 := Dj.ogr hd1_7 hlt1 ha20
  have hd2_20 := Dj.ogr hd2_7 hlt2 ha20
  have hd3_20 := Dj.ogr hd3_7 hlt3 ha20
  have hl21 := Lo.ogr hl8 hB ha21
  have hg1_21 := ha21
  have hk1_21 : OkB [og7, og8, og9, (some b3.block), (some ps.block)] wl1 og21 := OkB.ogr (OkB.mem (by simp)) (Nat.le_refl _) ha21
  have hkB_21 := OkB.ogr hkB_8 (by first | assumption | exact UpdL.size (by assumption)) ha21
  have hgB_21 := OgR.trans hgB_8 (by first | assumption | exact UpdL.size (by assumption)) ha21
  have hd1_21 := Dj.ogr hd1_8 hlt1 ha21
  have hd2_21 := Dj.ogr hd2_8 hlt2 ha21
  have hd3_21 := Dj.ogr hd3_8 hlt3 ha21
  have hl22 := Lo.ogr hl9 hB ha22
  have hg1_22 := ha22
  have hk1_22 : OkB [og7, og8, og9, (some b3.block), (some ps.block)] wl1 og22 := OkB.ogr (OkB.mem (by simp)) (Nat.le_refl _) ha22
  have hkB_22 := OkB.ogr hkB_9 (by first | assumption | exact UpdL.size (by assumption)) ha22
  have hgB_22 := OgR.trans hgB_9 (by first | assumption | exact UpdL.size (by assumption)) ha22
  have hd1_22 := Dj.ogr hd1_9 hlt1 ha22
  have hd2_22 := Dj.ogr hd2_9 hlt2 ha22
  have hd3_22 := Dj.ogr hd3_9 hlt3 ha22
  have hk1_3 : OkB [og7, og8, og9, (some b3.block), (some ps.block)] wl1 (some b3.block) := OkB.mem (by simp)
  have hk1_1 : OkB [og7, og8, og9, (some b3.block), (some ps.block)] wl1 (some ps.block) := OkB.mem (by simp)
  have hB := hB.loop hU1 ⟨hl7, hl8, hl9, hl3, hl1, trivial⟩
  refine CW.seq ?_
  refine CW.seq ?_
  refine CW.reg ?_
  refine WL.mv rfl rfl ?_
  refine WL.pure rfl rfl rfl (PV.gtr rfl rfl) ?_
  refine WL.nilS ?_
  refine CW.cond rfl (fun hc2 => ?_) (fun hc2 => ?_)
  · skip
    try simp only [nq] at hc2
    refine CW.skipS ?_
    refine CW.seq ?_
    refine CW.block ?_
    refine CW.draw T.mixed (by kernel_rfl) (fun _ _ _ _ _ h => h) (fun w8 w9 => UpdL [og21, (some ps.block)] w8 w9) 8 (.take 0 (.take 1 (.take 2 (.take 3 (.must 4 (.must 5 (.must 6 (.take 7 (.must 8 .done))))))))) (by kernel_rfl) (fun w9 hXd => ?_)
    have hB := hB.trans hXd
    have hb1 := hb1.up hXd
    have hb2 := hb2.up hXd
    have hb3 := hb3.up hXd
    have ho20 := ho20.up hXd
    have ho21 := ho21.up hXd
    have ho22 := ho22.up hXd
    have hUB := hUB.ext hXd
    have hU1 := hU1.ext hXd
    have hBr := hB
    have hUR : UpdL [og21, (some ps.block)] w9 w9 := UpdL.refl _ _
    have hS := hUR
    have hkR_21 : OkB [og21, (some ps.block)] w9 og21 := OkB.mem (by simp)
    have hgR_21 := OgR.refl w9 og21
    have hkR_1 : OkB [og21, (some ps.block)] w9 (some ps.block) := OkB.mem (by simp)
    have hgR_1 := OgR.refl w9 (some ps.block)
    refine HP.take rfl rfl rfl rfl hS (fun wS hS1 => PV.fieldAddr T.fl72_3 rfl hb3.cells) ?_
    refine HP.take rfl rfl rfl rfl hS (fun wS hS1 => PV.load1 T.na28 rfl (by first | exact Bx.cells (Bx.loop (by assumption) hS1 ⟨(by first | assumption | exact Dj.symm (by assumption)), (by first | assumption | exact Dj.symm (by assumption)), trivial⟩) | exact Cells.up (by assumption) (hBr.trans hS1)) (Ext.refl _) rfl) ?_
    refine HP.take rfl rfl rfl rfl hS (fun wS hS1 => PV.move rfl) ?_
    refine HP.take rfl rfl rfl rfl hS (fun wS hS1 => PV.move rfl) ?_
    refine HP.must rfl rfl (OpK.call rfl T.cf109 rfl (c_spec_l00Src_pick hB (by first | assumption | exact Lo.nl _) (by first | assumption | exact Lo.nl _) (by first | assumption | exact Rd.up (by assumption) hB | exact Osl.rd (by assumption) | exact Osn.rdR (by assumption) | exact NL.rd (by assumption) | exact rdII (by assumption) (by assumption) | exact Inn.rd (by assumption) (by omega)) (by first | assumption | omega | (simp only [marks_len, marksB_len, marksR_len]; omega)) (by first | assumption | omega | (simp only [marks_len, marksB_len, marksR_len]; omega)) (by first | assumption | omega | (simp only [marks_len, marksB_len, marksR_len]; omega)) (by first | assumption | omega | (simp only [marks_len, marksB_len, marksR_len]; omega))) (fun rv2 w10 hR => ?_))
    obtain ⟨hUC25, r26, at227, sd228, rfl, hm29, hm30, hbn1⟩ := hR
    have hUB := hUB.trans hUC25 ⟨hkB_1, trivial⟩
    have hU1 := hU1.trans hUC25 ⟨hk1_1, trivial⟩
    have hUR := hUR.trans hUC25 ⟨hkR_1, trivial⟩
    have hb2 := hb2.loop hUC25 ⟨(Dj.symm hd1_2), trivial⟩
    have hb3 := hb3.loop hUC25 ⟨(Dj.symm hd1_3), trivial⟩
    have ho20 := ho20.loop hUC25 ⟨(Dj.symm hd1_20), trivial⟩
    have ho21 := ho21.loop hUC25 ⟨(Dj.symm hd1_21), trivial⟩
    have ho22 := ho22.loop hUC25 ⟨(Dj.symm hd1_22), trivial⟩
    have hB := hB.loop hUC25 ⟨hl1, trivial⟩
    refine ⟨hUR, ?_⟩
    have hS := hUR
    have hb1 := hbn1
    refine HP.must rfl rfl (OpK.buildS VI (os := [.tmp 38]) [_] rfl T.sl28 rfl rfl T.zv2 rfl (by intro z hz; first | rfl | (simp only [List.mem_cons, List.not_mem_nil, or_false] at hz; subst hz; exact (by first | exact Rd.cells1 (by assumption) | exact Osl.cells1 (by assumption) | exact Osn.cells1 (by assumption) | exact Rd.cells1 (NL.rd (by assumption)) | exact Inn.cell1 (by assumption) (by omega) | assumption | rfl))) rfl (fun v31 g31 w11 hXw11 ho31 hge31 => ?_))
    have hl31 := Lo.new hB hge31
    have hd1_31 := Dj.new hb1.ltO hge31
    have hd2_31 := Dj.new hb2.ltO hge31
    have hd3_31 := Dj.new hb3.ltO hge31
    have hd20_31 := Dj.new ho20.ltO hge31
    have hd21_31 := Dj.new ho21.ltO hge31
    have hd22_31 := Dj.new ho22.ltO hge31
    have hkB_31 := OkN.new hUB hge31
    have hgB_31 := OgR.new hUB.size hge31
    have hk1_31 := OkN.new hU1 hge31
    have hg1_31 := OgR.new hU1.size hge31
    have hkR_31 := OkN.new hUR hge31
    have hgR_31 := OgR.new hUR.size hge31
    have hUR := hUR.ext hXw11
    refine ⟨hUR, ?_⟩
    have hS := hUR
    have hB := hB.trans hXw11
    have hb1 := hb1.up hXw11
    have hb2 := hb2.up hXw11
    have hb3 := hb3.up hXw11
    have ho20 := ho20.up hXw11
    have ho21 := ho21.up hXw11
    have ho22 := ho22.up hXw11
    have hUB := hUB.ext hXw11
    have hU1 := hU1.ext hXw11
    refine HP.must rfl rfl (OpK.appendS (f := VI) rfl T.sl28 T.zv2 rfl rfl ho21 rfl (Osl.src ho31 (fun _ => rfl)) (by first | (simp only [List.length_cons, List.length_nil]; omega) | (simp_all; omega)) (fun v32 og32 w12 hXw12 ho32 hap32 => ?_))
    have hl32 := Lo.app hl21 hB hap32
    have hd1_32 := Dj.app hd1_21 hb1.ltO hap32
    have hd2_32 := Dj.app hd2_21 hb2.ltO hap32
    have hd3_32 := Dj.app hd3_21 hb3.ltO hap32
    have hd20_32 := Dj.app hd20_21 ho20.ltO hap32
    have hd22_32 := Dj.app (Dj.symm hd21_22) ho22.ltO hap32
    have hd31_32 := Dj.app (Dj.symm hd21_31) ho31.ltO hap32
    have hkB_32 := OkN.app hUB hkB_21 hap32
    have hgB_32 := OgR.app hgB_21 hUB.size hap32
    have hk1_32 := OkN.app hU1 hk1_21 hap32
    have hg1_32 := OgR.app hg1_21 hU1.size hap32
    have hkR_32 := OkN.app hUR hkR_21 hap32
    have hgR_32 := OgR.app hgR_21 hUR.size hap32
    have hUR := hUR.step hXw12 hkR_21
    refine ⟨hUR, ?_⟩
    have hS := hUR
    have hB := hB.updL hXw12 hl21
    have hb1 := hb1.updD hXw12 hd1_21
    have hb2 := hb2.updD hXw12 hd2_21
    have hb3 := hb3.updD hXw12 hd3_21
    have ho20 := ho20.updD hXw12 hd20_21
    have ho22 := ho22.updD hXw12 (Dj.symm hd21_22)
    have ho31 := ho31.updD hXw12 (Dj.symm hd21_31)
    have hUB := hUB.step hXw12 hkB_21
    have hU1 := hU1.step hXw12 hk1_21
    refine HP.take rfl rfl rfl rfl hS (fun wS hS1 => PV.fieldAddr T.fl72_3 rfl hb3.cells) ?_
    refine HP.last rfl rfl (OpK.storeB T.sz28 rfl rfl (by first | rfl | exact Inn.one1 (by assumption) (by omega) | exact Osl.oneCell (by assumption) | exact Osn.oneCell (by assumption) | exact Rd.oneCell (by assumption) | exact Rd.oneCell (NL.rd (by assumption)) | assumption) hb3 rfl (fun w13 hXw13 hb3 => ?_))
    have hB := hB.updL hXw13 hl3
    have hb1 := hb1.updD hXw13 hd1_3
    have hb2 := hb2.updD hXw13 hd2_3
    have ho20 := ho20.updD hXw13 (Dj.symm hd3_20)
    have ho22 := ho22.updD hXw13 (Dj.symm hd3_22)
    have ho31 := ho31.updD hXw13 (Dj.symm hd3_31)
    have ho32 := ho32.updD hXw13 (Dj.symm hd3_32)
    have hUB := hUB.step hXw13 hkB_3
    have hU1 := hU1.step hXw13 hk1_3
    refine HP.done ?_
    refine NQ.block ?_
    refine NQ.then ?_
    refine CW.reg ?_
    refine WL.mv rfl rfl ?_
    refine WL.pure rfl rfl rfl (PV.sub rfl rfl (by constructor <;> omega)) ?_
    refine WL.asg rfl rfl ?_
    refine WL.nil ?_
    refine NQ.next (ρ := [(9, _)]) ⟨rfl, rfl, rfl, rfl, rfl, trivial⟩ ?_
    exact ⟨_, ⟨v20, og20, v32, og32, v22, og22, k3 + 1, x3 ++ [r26], at227, sd228, (by simp; omega), rfl, hU1, osE ho20 (by rfl), (by first | exact hg1_20 | exact OgR.weak hg1_20), osE ho32 (by rfl), (by first | exact hg1_32 | exact OgR.weak hg1_32), osE ho22 (by rfl), (by first | exact hg1_22 | exact OgR.weak hg1_22), bxE hb3 (by rfl), bxE hb1 (by rfl), hd20_32, hd20_22, (Dj.symm hd22_32), (by first | omega | assumption | (simp_all; done) | (simp_all; omega)), (by simp [hxl3]), (by exact dr_in hx3 (by omega)), (by omega)⟩, by omega⟩
  try simp only [nq] at hc2
  refine CW.exit ?_
  refine XQ.then ?_
  refine XQ.then ?_
  refine XQ.here ?_
  refine NQ.then ?_
  refine CW.seq ?_
  refine CW.seq ?_
  refine CW.reg ?_
  refine WL.asg rfl rfl ?_
  refine WL.nilS ?_
  refine CW.block ?_
  have hlt1 := hb1.ltO
  have hlt2 := hb2.ltO
  have hlt3 := hb3.ltO
  have hlt20 := ho20.ltO
  have hlt21 := ho21.ltO
  have hlt22 := ho22.ltO
  refine CW.loop (σk := [(0, _), (1, _), (6, _), (7, _)]) (fun ρ wz m => ∃ (v33 : Value) (og33 : Option Nat) (v34 : Value) (og34 : Option Nat) (v35 : Value) (og35 : Option Nat) (k4 : Nat) (x4 : List Bool) (aq : Nat) (sq : Int), ρ = [(10, .int .i64 (k4 : Nat))] ∧ m = S.toNat - k4 ∧ UpdL [og20, og21, og22, (some b3.block), (some ps.block)] wl2 wz ∧ Osl VI wz og33 v33 (x2) ∧ OgR wl2 og20 og33 ∧ Osl VI wz og34 v34 (x3) ∧ OgR wl2 og21 og34 ∧ Osl VB wz og35 v35 (x4) ∧ OgR wl2 og22 og35 ∧ Bx wz b3 [.int .i64 S, .int .i64 L, v33, v34, v35] ∧ Bx wz ps [vc, .int .i64 ((aq : Nat) : Int), .int .u64 sq] ∧ Dj og33 og34 ∧ Dj og33 og35 ∧ Dj og34 og35 ∧ ((k4 : Int) ≤ S) ∧ (x4.length = k4) ∧ (aq ≤ at_ + k + k3 + k4 ∧ 0 ≤ sq ∧ sq < 18446744073709551616)) (ρ₀ := [(10, _)]) (m₀ := _) ⟨rfl, rfl, rfl, rfl, rfl, trivial⟩ ⟨v20, og20, v21, og21, v22, og22, 0, [], aq, sq, rfl, rfl, (UpdL.refl _ _), osE ho20 (by rfl), OgR.refl _ _, osE ho21 (by rfl), OgR.refl _ _, osE ho22 (by rfl), OgR.refl _ _, bxE hb3 (by first | rfl | (simp_all; done) | (simp_all; omega)), bxE hb1 (by rfl), hd20_21, hd20_22, hd21_22, (by first | omega | rfl | (simp; done) | assumption | (simp_all; done)), (by rfl), (by omega)⟩ ?_
  rintro _ wl3 _ ⟨v33, og33, v34, og34, v35, og35, k4, x4, aq, sq, rfl, rfl, hU2, ho33, ha33, ho34, ha34, ho35, ha35, hb3, hb1, hd33_34, hd33_35, hd34_35, hk4, hxl4, hs⟩
  have hUB := hUB.trans hU2 ⟨hkB_20, hkB_21, hkB_22, hkB_3, hkB_1, trivial⟩
  have hb2 := hb2.loop hU2 ⟨hd2_20, hd2_21, hd2_22, hd2_3, (Dj.symm hd1_2), trivial⟩
  have hl33 := Lo.ogr hl20 hB ha33
  have hg2_33 := ha33
  have hk2_33 : OkB [og20, og21, og22, (some b3.block), (some ps.block)] wl2 og33 := OkB.ogr (OkB.mem (by simp)) (Nat.le_refl _) ha33
  have hkB_33 := OkB.ogr hkB_20 (by first | assumption | exact UpdL.size (by assumption)) ha33
  have hgB_33 := OgR.trans hgB_20 (by first | assumption | exact UpdL.size (by assumption)) ha33
  have hd1_33 := Dj.ogr hd1_20 hlt1 ha33
  have hd2_33 := Dj.ogr hd2_20 hlt2 ha33
  have hd3_33 := Dj.ogr hd3_20 hlt3 ha33
  have hl34 := Lo.ogr hl21 hB ha34
  have hg2_34 := ha34
  have hk2_34 : OkB [og20, og21, og22, (some b3.block), (some ps.block)] wl2 og34 := OkB.ogr (OkB.mem (by simp)) (Nat.le_refl _) ha34
  have hkB_34 := OkB.ogr hkB_21 (by first | assumption | exact UpdL.size (by assumption)) ha34
  have hgB_34 := OgR.trans hgB_21 (by first | assumption | exact UpdL.size (by assumption)) ha34
  have hd1_34 := Dj.ogr hd1_21 hlt1 ha34
  have hd2_34 := Dj.ogr hd2_21 hlt2 ha34
  have hd3_34 := Dj.ogr hd3_21 hlt3 ha34
  have hl35 := Lo.ogr hl22 hB ha35
  have hg2_35 := ha35
  have hk2_35 : OkB [og20, og21, og22, (some b3.block), (some ps.block)] wl2 og35 := OkB.ogr (OkB.mem (by simp)) (Nat.le_refl _) ha35
  have hkB_35 := OkB.ogr hkB_22 (by first | assumption | exact UpdL.size (by assumption)) ha35
  have hgB_35 := OgR.trans hgB_22 (by first | assumption | exact UpdL.size (by assumption)) ha35
  have hd1_35 := Dj.ogr hd1_22 hlt1 ha35
  have hd2_35 := Dj.ogr hd2_22 hlt2 ha35
  have hd3_35 := Dj.ogr hd3_22 hlt3 ha35
  have hk2_3 : OkB [og20, og21, og22, (some b3.block), (some ps.block)] wl2 (some b3.block) := OkB.mem (by simp)
  have hk2_1 : OkB [og20, og21, og22, (some b3.block), (some ps.block)] wl2 (some ps.block) := OkB.mem (by simp)
  have hB := hB.loop hU2 ⟨hl20, hl21, hl22, hl3, hl1, trivial⟩
  refine CW.seq ?_
  refine CW.seq ?_
  refine CW.reg ?_
  refine WL.mv rfl rfl ?_
  refine WL.mv rfl rfl ?_
  refine WL.pure rfl rfl rfl (PV.lss rfl rfl) ?_
  refine WL.nilS ?_
  refine CW.cond rfl (fun hc3 => ?_) (fun hc3 => ?_)
  · skip
    try simp only [nq] at hc3
    refine CW.skipS ?_
    refine CW.seq ?_
    refine CW.block ?_
    refine CW.draw T.mixed (by kernel_rfl) (fun _ _ _ _ _ h => h) (fun w8 w9 => UpdL [og35, (some ps.block)] w8 w9) 7 (.take 0 (.take 1 (.take 2 (.must 3 (.must 4 (.must 5 (.take 6 (.must 7 .done)))))))) (by kernel_rfl) (fun w14 hXd => ?_)
    have hB := hB.trans hXd
    have hb1 := hb1.up hXd
    have hb2 := hb2.up hXd
    have hb3 := hb3.up hXd
    have ho33 := ho33.up hXd
    have ho34 := ho34.up hXd
    have ho35 := ho35.up hXd
    have hUB := hUB.ext hXd
    have hU2 := hU2.ext hXd
    have hBr := hB
    have hUR : UpdL [og35, (some ps.block)] w14 w14 := UpdL.refl _ _
    have hS := hUR
    have hkR_35 : OkB [og35, (some ps.block)] w14 og35 := OkB.mem (by simp)
    have hgR_35 := OgR.refl w14 og35
    have hkR_1 : OkB [og35, (some ps.block)] w14 (some ps.block) := OkB.mem (by simp)
    have hgR_1 := OgR.refl w14 (some ps.block)
    refine HP.take rfl rfl rfl rfl hS (fun wS hS1 => PV.fieldAddr T.fl72_4 rfl hb3.cells) ?_
    refine HP.take rfl rfl rfl rfl hS (fun wS hS1 => PV.load1 T.na62 rfl (by first | exact Bx.cells (Bx.loop (by assumption) hS1 ⟨(by first | assumption | exact Dj.symm (by assumption)), (by first | assumption | exact Dj.symm (by assumption)), trivial⟩) | exact Cells.up (by assumption) (hBr.trans hS1)) (Ext.refl _) rfl) ?_
    refine HP.take rfl rfl rfl rfl hS (fun wS hS1 => PV.move rfl) ?_
    refine HP.must rfl rfl (OpK.call rfl T.cf194 rfl (c_spec_l00Src_one hB (by first | assumption | exact Lo.nl _) (by first | assumption | exact Lo.nl _) (by first | assumption | exact Rd.up (by assumption) hB | exact Osl.rd (by assumption) | exact Osn.rdR (by assumption) | exact NL.rd (by assumption) | exact rdII (by assumption) (by assumption) | exact Inn.rd (by assumption) (by omega)) (by first | assumption | omega | (simp only [marks_len, marksB_len, marksR_len]; omega)) (by first | assumption | omega | (simp only [marks_len, marksB_len, marksR_len]; omega)) (by first | assumption | omega | (simp only [marks_len, marksB_len, marksR_len]; omega)) (by first | assumption | omega | (simp only [marks_len, marksB_len, marksR_len]; omega))) (fun rv3 w15 hR => ?_))
    obtain ⟨hUC38, r39, at240, sd241, rfl, hm42, hbn1⟩ := hR
    have hUB := hUB.trans hUC38 ⟨hkB_1, trivial⟩
    have hU2 := hU2.trans hUC38 ⟨hk2_1, trivial⟩
    have hUR := hUR.trans hUC38 ⟨hkR_1, trivial⟩
    have hb2 := hb2.loop hUC38 ⟨(Dj.symm hd1_2), trivial⟩
    have hb3 := hb3.loop hUC38 ⟨(Dj.symm hd1_3), trivial⟩
    have ho33 := ho33.loop hUC38 ⟨(Dj.symm hd1_33), trivial⟩
    have ho34 := ho34.loop hUC38 ⟨(Dj.symm hd1_34), trivial⟩
    have ho35 := ho35.loop hUC38 ⟨(Dj.symm hd1_35), trivial⟩
    have hB := hB.loop hUC38 ⟨hl1, trivial⟩
    refine ⟨hUR, ?_⟩
    have hS := hUR
    have hb1 := hbn1
    refine HP.must rfl rfl (OpK.buildS VB (os := [.tmp 50]) [_] rfl T.sl62 rfl rfl T.zv4 rfl (by intro z hz; first | rfl | (simp only [List.mem_cons, List.not_mem_nil, or_false] at hz; subst hz; exact (by first | exact Rd.cells1 (by assumption) | exact Osl.cells1 (by assumption) | exact Osn.cells1 (by assumption) | exact Rd.cells1 (NL.rd (by assumption)) | exact Inn.cell1 (by assumption) (by omega) | assumption | rfl))) rfl (fun v43 g43 w16 hXw16 ho43 hge43 => ?_))
    have hl43 := Lo.new hB hge43
    have hd1_43 := Dj.new hb1.ltO hge43
    have hd2_43 := Dj.new hb2.ltO hge43
    have hd3_43 := Dj.new hb3.ltO hge43
    have hd33_43 := Dj.new ho33.ltO hge43
    have hd34_43 := Dj.new ho34.ltO hge43
    have hd35_43 := Dj.new ho35.ltO hge43
    have hkB_43 := OkN.new hUB hge43
    have hgB_43 := OgR.new hUB.size hge43
    have hk2_43 := OkN.new hU2 hge43
    have hg2_43 := OgR.new hU2.size hge43
    have hkR_43 := OkN.new hUR hge43
    have hgR_43 := OgR.new hUR.size hge43
    have hUR := hUR.ext hXw16
    refine ⟨hUR, ?_⟩
    have hS := hUR
    have hB := hB.trans hXw16
    have hb1 := hb1.up hXw16
    have hb2 := hb2.up hXw16
    have hb3 := hb3.up hXw16
    have ho33 := ho33.up hXw16
    have ho34 := ho34.up hXw16
    have ho35 := ho35.up hXw16
    have hUB := hUB.ext hXw16
    have hU2 := hU2.ext hXw16
    refine HP.must rfl rfl (OpK.appendS (f := VB) rfl T.sl62 T.zv4 rfl rfl ho35 rfl (Osl.src ho43 (fun _ => rfl)) (by first | (simp only [List.length_cons, List.length_nil]; omega) | (simp_all; omega)) (fun v44 og44 w17 hXw17 ho44 hap44 => ?_))
    have hl44 := Lo.app hl35 hB hap44
    have hd1_44 := Dj.app hd1_35 hb1.ltO hap44
    have hd2_44 := Dj.app hd2_35 hb2.ltO hap44
    have hd3_44 := Dj.app hd3_35 hb3.ltO hap44
    have hd33_44 := Dj.app hd33_35 ho33.ltO hap44
    have hd34_44 := Dj.app hd34_35 ho34.ltO hap44
    have hd43_44 := Dj.app (Dj.symm hd35_43) ho43.ltO hap44
    have hkB_44 := OkN.app hUB hkB_35 hap44
    have hgB_44 := OgR.app hgB_35 hUB.size hap44
    have hk2_44 := OkN.app hU2 hk2_35 hap44
    have hg2_44 := OgR.app hg2_35 hU2.size hap44
    have hkR_44 := OkN.app hUR hkR_35 hap44
    have hgR_44 := OgR.app hgR_35 hUR.size hap44
    have hUR := hUR.step hXw17 hkR_35
    refine ⟨hUR, ?_⟩
    have hS := hUR
    have hB := hB.updL hXw17 hl35
    have hb1 := hb1.updD hXw17 hd1_35
    have hb2 := hb2.updD hXw17 hd2_35
    have hb3 := hb3.updD hXw17 hd3_35
    have ho33 := ho33.updD hXw17 hd33_35
    have ho34 := ho34.updD hXw17 hd34_35
    have ho43 := ho43.updD hXw17 (Dj.symm hd35_43)
    have hUB := hUB.step hXw17 hkB_35
    have hU2 := hU2.step hXw17 hk2_35
    refine HP.take rfl rfl rfl rfl hS (fun wS hS1 => PV.fieldAddr T.fl72_4 rfl hb3.cells) ?_
    refine HP.last rfl rfl (OpK.storeB T.sz62 rfl rfl (by first | rfl | exact Inn.one1 (by assumption) (by omega) | exact Osl.oneCell (by assumption) | exact Osn.oneCell (by assumption) | exact Rd.oneCell (by assumption) | exact Rd.oneCell (NL.rd (by assumption)) | assumption) hb3 rfl (fun w18 hXw18 hb3 => ?_))
    have hB := hB.updL hXw18 hl3
    have hb1 := hb1.updD hXw18 hd1_3
    have hb2 := hb2.updD hXw18 hd2_3
    have ho33 := ho33.updD hXw18 (Dj.symm hd3_33)
    have ho34 := ho34.updD hXw18 (Dj.symm hd3_34)
    have ho43 := ho43.updD hXw18 (Dj.symm hd3_43)
    have ho44 := ho44.updD hXw18 (Dj.symm hd3_44)
    have hUB := hUB.step hXw18 hkB_3
    have hU2 := hU2.step hXw18 hk2_3
    refine HP.done ?_
    refine NQ.block ?_
    refine NQ.then ?_
    refine CW.reg ?_
    refine WL.mv rfl rfl ?_
    refine WL.pure rfl rfl rfl (PV.add rfl rfl (by constructor <;> omega)) ?_
    refine WL.asg rfl rfl ?_
    refine WL.nil ?_
    refine NQ.next (ρ := [(10, _)]) ⟨rfl, rfl, rfl, rfl, rfl, trivial⟩ ?_
    exact ⟨_, ⟨v33, og33, v34, og34, v44, og44, k4 + 1, x4 ++ [r39], at240, sd241, rfl, rfl, hU2, osE ho33 (by rfl), (by first | exact hg2_33 | exact OgR.weak hg2_33), osE ho34 (by rfl), (by first | exact hg2_34 | exact OgR.weak hg2_34), osE ho44 (by rfl), (by first | exact hg2_44 | exact OgR.weak hg2_44), bxE hb3 (by rfl), bxE hb1 (by rfl), hd33_34, hd33_44, hd34_44, (by first | omega | assumption | (simp_all; done) | (simp_all; omega)), (by simp [hxl4]), (by omega)⟩, by omega⟩
  try simp only [nq] at hc3
  refine CW.exit ?_
  refine XQ.then ?_
  refine XQ.then ?_
  refine XQ.here ?_
  refine NQ.then ?_
  refine CW.seq ?_
  refine CW.reg ?_
  refine WL.pure rfl rfl rfl (PV.loadA T.ag72 rfl hb3.cells (Ext.refl _) rfl) ?_
  refine WL.op rfl (OpK.storeA T.sz72 rfl rfl rfl rfl (by simp [Value.oneCell'] <;> first | done | (repeat' apply And.intro) <;> first | rfl | exact Inn.one1 (by assumption) (by omega) | exact Osl.oneCell (by assumption) | exact Osn.oneCell (by assumption) | exact Rd.oneCell (by assumption) | exact Rd.oneCell (NL.rd (by assumption)) | assumption) hb2 (fun w19 hXw19 hb2 => ?_))
  have hB := hB.updL hXw19 hl2
  have hb1 := hb1.updD hXw19 hd1_2
  have hb3 := hb3.updD hXw19 (Dj.symm hd2_3)
  have ho33 := ho33.updD hXw19 (Dj.symm hd2_33)
  have ho34 := ho34.updD hXw19 (Dj.symm hd2_34)
  have ho35 := ho35.updD hXw19 (Dj.symm hd2_35)
  have hUB := hUB.step hXw19 hkB_2
  refine WL.nilS ?_
  refine CW.ret ?_
  refine RQ.rc0 T.ag72 rfl (by first | exact Cells.up (by assumption) hB | exact Bx.cells (by assumption) | assumption) rfl ?_
  refine ⟨hUB, x2, x3, x4, aq, sq, v33, og33, v34, og34, v35, og35, rfl, ?_, ?_, ?_, hb1, osE ho33 ?_, (by first | exact hl33 | exact Lo.ogn hgB_33), osE ho34 ?_, (by first | exact hl34 | exact Lo.ogn hgB_34), osE ho35 ?_, (by first | exact hl35 | exact Lo.ogn hgB_35), hd33_34, hd33_35, hd34_35⟩
  · skip
    exact ⟨by omega, by omega, by omega⟩
  · skip
    exact ⟨hx2, hx3⟩
  · skip
    omega
  · skip
    rfl
  · skip
    rfl
  · skip
    rfl
theorem c_spec_R8Trees {w : World} {b : World} {vc : Value} {bs : List Int} {S L : Int} (hB0 : Ext b w) (ha : Rd EU8 b vc bs) (hg : ∀ x ∈ bs, 0 ≤ x ∧ x ≤ 255) (hS2 : 1 ≤ S ∧ S ≤ 4) (hL2 : 1 ≤ L ∧ L ≤ 3) : Calls Try.prog 43 #[vc, .int .i64 S, .int .i64 L] w (Ret1 (fun v w' => UpdL [] w w' ∧ ∃ (x2 x3 : List Int) (x4 : List Bool) (u2 : Value) (og_u2 : Option Nat) (u3 : Value) (og_u3 : Option Nat) (u4 : Value) (og_u4 : Option Nat), v = .agg #[.int .i64 S, .int .i64 L, u2, u3, u4] ∧ ((1 ≤ S ∧ S ≤ 16) ∧ (1 ≤ L ∧ L ≤ 4) ∧ (x2.length : Int) = L ∧ (x3.length : Int) = S * S ∧ (x4.length : Int) = S ∧ allIn x2 0 (S - 1) = true ∧ allIn x3 0 (S - 1) = true) ∧ Osl VI w' og_u2 u2 (x2) ∧ Lo w og_u2 ∧ Osl VI w' og_u3 u3 (x3) ∧ Lo w og_u3 ∧ Osl VB w' og_u4 u4 (x4) ∧ Lo w og_u4 ∧ Dj og_u2 og_u3 ∧ Dj og_u2 og_u4 ∧ Dj og_u3 og_u4)) := by
  have hB := hB0
  refine callsOf (vs := [_, _, _]) Try.func43 rfl Try.ntmps43 rfl rfl ?_
  have hUB : UpdL [] w w := UpdL.refl _ _
  refine CW.seq ?_
  refine CW.reg ?_
  refine WL.op rfl (OpK.alloc rfl T.zv72 rfl (fun b1 w1 hXw1 hb1 hge1 => ?_))
  have hl1 := Lo.new hB hge1
  have hkB_1 := OkN.new hUB hge1
  have hgB_1 := OgR.new hUB.size hge1
  have hB := hB.trans hXw1
  have hUB := hUB.ext hXw1
  refine WL.nilS ?_
  refine CW.seq ?_
  refine CW.reg ?_
  refine WL.mv rfl rfl ?_
  refine WL.op rfl (OpK.call rfl T.cf107 rfl (c_spec_l00From (by first | assumption | exact Rd.up (by assumption) hB | exact Osl.rd (by assumption) | exact Osn.rdR (by assumption) | exact NL.rd (by assumption) | exact rdII (by assumption) (by assumption) | exact Inn.rd (by assumption) (by omega))) (fun rv1 w2 hR => ?_))
  obtain ⟨hXw2, b2, rfl, hb2, hge2⟩ := hR
  have hl2 := Lo.new hB hge2
  have hd1_2 := Dj.new hb1.ltO hge2
  have hkB_2 := OkN.new hUB hge2
  have hgB_2 := OgR.new hUB.size hge2
  have hB := hB.trans hXw2
  have hb1 := hb1.up hXw2
  have hUB := hUB.ext hXw2
  refine WL.asg rfl rfl ?_
  refine WL.nilS ?_
  refine CW.seq ?_
  refine CW.reg ?_
  refine WL.mv rfl rfl ?_
  refine WL.mv rfl rfl ?_
  refine WL.mv rfl rfl ?_
  refine WL.op rfl (OpK.call rfl T.cf127 rfl (c_spec_l06DrawTreesSides hB (by first | assumption | exact Lo.nl _) (by first | assumption | exact Lo.nl _) (by first | assumption | exact Rd.up (by assumption) hB | exact Osl.rd (by assumption) | exact Osn.rdR (by assumption) | exact NL.rd (by assumption) | exact rdII (by assumption) (by assumption) | exact Inn.rd (by assumption) (by omega)) (by first | assumption | omega | (simp only [marks_len, marksB_len, marksR_len]; omega)) (by first | assumption | omega | (simp only [marks_len, marksB_len, marksR_len]; omega)) (by first | assumption | omega | (simp only [marks_len, marksB_len, marksR_len]; omega)) (by first | assumption | omega | (simp only [marks_len, marksB_len, marksR_len]; omega)) (by first | assumption | omega | (simp only [marks_len, marksB_len, marksR_len]; omega))) (fun rv2 w3 hR => ?_))
  obtain ⟨hUC3, x24, x35, x46, at27, sd28, v9, og9, v10, og10, v11, og11, rfl, hm12, hm13, hm14, hbn2, ho9, hq9, ho10, hq10, ho11, hq11, hd9_10, hd9_11, hd10_11⟩ := hR
  have hl9 := Lo.up hq9 hB
  have hd1_9 := Dj.lo hb1.ltO hq9
  have hd2_9 := Dj.lo hb2.ltO hq9
  have hkB_9 := OkN.lo hUB hq9
  have hgB_9 := OgR.lo hUB.size hq9
  have hl10 := Lo.up hq10 hB
  have hd1_10 := Dj.lo hb1.ltO hq10
  have hd2_10 := Dj.lo hb2.ltO hq10
  have hkB_10 := OkN.lo hUB hq10
  have hgB_10 := OgR.lo hUB.size hq10
  have hl11 := Lo.up hq11 hB
  have hd1_11 := Dj.lo hb1.ltO hq11
  have hd2_11 := Dj.lo hb2.ltO hq11
  have hkB_11 := OkN.lo hUB hq11
  have hgB_11 := OgR.lo hUB.size hq11
  have hUB := hUB.trans hUC3 ⟨hkB_2, trivial⟩
  have hb1 := hb1.loop hUC3 ⟨hd1_2, trivial⟩
  have hB := hB.loop hUC3 ⟨hl2, trivial⟩
  have hb2 := hbn2
  refine WL.op rfl (OpK.storeA T.sz72 rfl rfl rfl rfl (by simp [Value.oneCell'] <;> first | done | (repeat' apply And.intro) <;> first | rfl | exact Inn.one1 (by assumption) (by omega) | exact Osl.oneCell (by assumption) | exact Osn.oneCell (by assumption) | exact Rd.oneCell (by assumption) | exact Rd.oneCell (NL.rd (by assumption)) | assumption) hb1 (fun w4 hXw4 hb1 => ?_))
  have hB := hB.updL hXw4 hl1
  have hb2 := hb2.updD hXw4 (Dj.symm hd1_2)
  have ho9 := ho9.updD hXw4 (Dj.symm hd1_9)
  have ho10 := ho10.updD hXw4 (Dj.symm hd1_10)
  have ho11 := ho11.updD hXw4 (Dj.symm hd1_11)
  have hUB := hUB.step hXw4 hkB_1
  refine WL.nilS ?_
  refine CW.ret ?_
  refine RQ.rc0 T.ag72 rfl (by first | exact Cells.up (by assumption) hB | exact Bx.cells (by assumption) | assumption) rfl ?_
  refine ⟨hUB, x24, x35, x46, v9, og9, v10, og10, v11, og11, rfl, ?_, osE ho9 ?_, (by first | exact hl9 | exact Lo.ogn hgB_9), osE ho10 ?_, (by first | exact hl10 | exact Lo.ogn hgB_10), osE ho11 ?_, (by first | exact hl11 | exact Lo.ogn hgB_11), hd9_10, hd9_11, hd10_11⟩
  · skip
    exact ⟨by omega, by omega, hm12.1, hm12.2.1, hm12.2.2, allIn_of hm13.1, allIn_of hm13.2⟩
  · skip
    rfl
  · skip
    rfl
  · skip
    rfl
theorem c_spec_l06DrawTreeOk_n : ∀ (m : Nat) {w : World} {b : World} {ps : Addr} {vc : Value} {bs : List Int} {at_ : Nat} {sd : Int} {L mo : Int} (hB0 : Ext b w) (htb_ps : Bx w ps [vc, .int .i64 ((at_ : Nat) : Int), .int .u64 sd]) (htl_ps : Lo b (some ps.block)) (ha : Rd EU8 b vc bs) (hg : ∀ x ∈ bs, 0 ≤ x ∧ x ≤ 255) (hat : (at_ : Int) + 4 * max 1 mo ≤ 1000) (hsd : 0 ≤ sd ∧ sd < 18446744073709551616) (hL2 : 1 ≤ L ∧ L ≤ 3) (hmo : 0 ≤ mo ∧ mo ≤ 9), (mo.toNat) < m → Calls Try.prog 128 #[.pointer (some ps), .int .i64 L, .int .i64 mo] w (Ret1 (fun v w' => UpdL [some ps.block] w w' ∧ ∃ (T : Tre) (at2 : Nat) (sd2 : Int) (u : Value) (og_u : Option Nat), v = u ∧ (okTr L T ∧ ((lvT T).length : Int) ≤ max 1 mo) ∧ ((at2 : Int) + 1 ≤ (at_ : Int) + 4 * max 1 mo ∧ 0 ≤ sd2 ∧ sd2 < 18446744073709551616) ∧ Bx w' ps [vc, .int .i64 ((at2 : Nat) : Int), .int .u64 sd2] ∧ Osl VI w' og_u u (flatT T) ∧ Lo w og_u)) := by
  intro m
  induction m with
  | zero => intro _ _ _ _ _ _ _ _ _ _ _ _ _ _ _ _ _ _ hm; exact absurd hm (Nat.not_lt_zero _)
  | succ m ih =>
  intro w b ps vc bs at_ sd L mo hB0 htb_ps htl_ps ha hg hat hsd hL2 hmo hm
  have hB := hB0
  have hla := ha.leI; have hhf := half hmo.1
  refine callsOf (vs := [_, _, _]) Try.func128 rfl Try.ntmps128 rfl rfl ?_
  have hUB : UpdL [(some ps.block)] w w := UpdL.refl _ _
  have hb1 := htb_ps
  have hl1 := htl_ps
  have hkB_1 : OkB [(some ps.block)] w (some ps.block) := OkB.mem (by simp)
  have hgB_1 := OgR.refl w (some ps.block)
  refine CW.seq ?_
  refine CW.reg ?_
  refine WL.asg rfl rfl ?_
  refine WL.nilS ?_
  refine CW.seq ?_
  refine CW.seq ?_
  refine CW.reg ?_
  refine WL.mv rfl rfl ?_
  refine WL.pure rfl rfl rfl (PV.leq rfl rfl) ?_
  refine WL.mv rfl rfl ?_
  refine WL.split (t := 10) rfl (fun hc1 => ?_) (fun hc1 => ?_)
  · skip
    try simp only [nq] at hc1
    refine WL.skip rfl rfl rfl rfl rfl ?_
    refine WL.skip rfl rfl rfl rfl rfl ?_
    refine WL.pure rfl rfl rfl (PV.pickT rfl rfl) ?_
    refine WL.nilS ?_
    refine CW.condT rfl ?_
    refine CW.seq ?_
    refine CW.reg ?_
    refine WL.mv rfl rfl ?_
    refine WL.mv rfl rfl ?_
    refine WL.op rfl (OpK.call rfl T.cf109 rfl (c_spec_l00Src_pick hB (by first | assumption | exact Lo.nl _) (by first | assumption | exact Lo.nl _) (by first | assumption | exact Rd.up (by assumption) hB | exact Osl.rd (by assumption) | exact Osn.rdR (by assumption) | exact NL.rd (by assumption) | exact rdII (by assumption) (by assumption) | exact Inn.rd (by assumption) (by omega)) (by first | assumption | omega | (simp only [marks_len, marksB_len, marksR_len]; omega)) (by first | assumption | omega | (simp only [marks_len, marksB_len, marksR_len]; omega)) (by first | assumption | omega | (simp only [marks_len, marksB_len, marksR_len]; omega)) (by first | assumption | omega | (simp only [marks_len, marksB_len, marksR_len]; omega))) (fun rv1 w1 hR => ?_))
    obtain ⟨hUC2, r3, at24, sd25, rfl, hm6, hm7, hbn1⟩ := hR
    have hUB := hUB.trans hUC2 ⟨hkB_1, trivial⟩
    have hB := hB.loop hUC2 ⟨hl1, trivial⟩
    have hb1 := hbn1
    refine WL.op rfl (OpK.buildS VI (os := [.tmp 16]) [_] rfl T.sl28 rfl rfl T.zv2 rfl (by intro z hz; first | rfl | (simp only [List.mem_cons, List.not_mem_nil, or_false] at hz; subst hz; exact (by first | exact Rd.cells1 (by assumption) | exact Osl.cells1 (by assumption) | exact Osn.cells1 (by assumption) | exact Rd.cells1 (NL.rd (by assumption)) | exact Inn.cell1 (by assumption) (by omega) | assumption | rfl))) rfl (fun v8 g8 w2 hXw2 ho8 hge8 => ?_))
    have hl8 := Lo.new hB hge8
    have hd1_8 := Dj.new hb1.ltO hge8
    have hkB_8 := OkN.new hUB hge8
    have hgB_8 := OgR.new hUB.size hge8
    have hB := hB.trans hXw2
    have hb1 := hb1.up hXw2
    have hUB := hUB.ext hXw2
    refine WL.asg rfl rfl ?_
    refine WL.nilS ?_
    refine CW.ret ?_
    refine RQ.then ?_
    refine RQ.r1 rfl ?_
    refine ⟨hUB, Tre.leaf r3, at24, sd25, v8, (some g8), rfl, ?_, ?_, hb1, osE ho8 ?_, (by first | exact hl8 | exact Lo.ogn hgB_8)⟩
    · skip
      first | exact ⟨by assumption, by simp only [lvT, List.length_singleton]; omega⟩ | exact ⟨⟨hm27.1, hm35.1⟩, by simp only [lvT, List.length_append]; have := hm27.2; have := hm35.2; omega⟩
    · skip
      omega
    · skip
      rfl
  try simp only [nq] at hc1
  refine WL.pureG rfl rfl rfl rfl rfl (PV.move rfl) ?_
  refine WL.opG rfl rfl rfl (OpK.call rfl T.cf194 rfl (c_spec_l00Src_one hB (by first | assumption | exact Lo.nl _) (by first | assumption | exact Lo.nl _) (by first | assumption | exact Rd.up (by assumption) hB | exact Osl.rd (by assumption) | exact Osn.rdR (by assumption) | exact NL.rd (by assumption) | exact rdII (by assumption) (by assumption) | exact Inn.rd (by assumption) (by omega)) (by first | assumption | omega | (simp only [marks_len, marksB_len, marksR_len]; omega)) (by first | assumption | omega | (simp only [marks_len, marksB_len, marksR_len]; omega)) (by first | assumption | omega | (simp only [marks_len, marksB_len, marksR_len]; omega)) (by first | assumption | omega | (simp only [marks_len, marksB_len, marksR_len]; omega))) (fun rv2 w3 hR => ?_))
  obtain ⟨hUC9, r10, at211, sd212, rfl, hm13, hbn1⟩ := hR
  have hUB := hUB.trans hUC9 ⟨hkB_1, trivial⟩
  have hB := hB.loop hUC9 ⟨hl1, trivial⟩
  have hb1 := hbn1
  refine WL.pure rfl rfl rfl (PV.pickF rfl rfl) ?_
  refine WL.nilS ?_
  refine CW.cond rfl (fun hc2 => ?_) (fun hc2 => ?_)
  · skip
    try simp only [nq] at hc2
    refine CW.seq ?_
    refine CW.reg ?_
    refine WL.mv rfl rfl ?_
    refine WL.mv rfl rfl ?_
    refine WL.op rfl (OpK.call rfl T.cf109 rfl (c_spec_l00Src_pick hB (by first | assumption | exact Lo.nl _) (by first | assumption | exact Lo.nl _) (by first | assumption | exact Rd.up (by assumption) hB | exact Osl.rd (by assumption) | exact Osn.rdR (by assumption) | exact NL.rd (by assumption) | exact rdII (by assumption) (by assumption) | exact Inn.rd (by assumption) (by omega)) (by first | assumption | omega | (simp only [marks_len, marksB_len, marksR_len]; omega)) (by first | assumption | omega | (simp only [marks_len, marksB_len, marksR_len]; omega)) (by first | assumption | omega | (simp only [marks_len, marksB_len, marksR_len]; omega)) (by first | assumption | omega | (simp only [marks_len, marksB_len, marksR_len]; omega))) (fun rv3 w4 hR => ?_))
    obtain ⟨hUC14, r15, at216, sd217, rfl, hm18, hm19, hbn1⟩ := hR
    have hUB := hUB.trans hUC14 ⟨hkB_1, trivial⟩
    have hB := hB.loop hUC14 ⟨hl1, trivial⟩
    have hb1 := hbn1
    refine WL.op rfl (OpK.buildS VI (os := [.tmp 16]) [_] rfl T.sl28 rfl rfl T.zv2 rfl (by intro z hz; first | rfl | (simp only [List.mem_cons, List.not_mem_nil, or_false] at hz; subst hz; exact (by first | exact Rd.cells1 (by assumption) | exact Osl.cells1 (by assumption) | exact Osn.cells1 (by assumption) | exact Rd.cells1 (NL.rd (by assumption)) | exact Inn.cell1 (by assumption) (by omega) | assumption | rfl))) rfl (fun v20 g20 w5 hXw5 ho20 hge20 => ?_))
    have hl20 := Lo.new hB hge20
    have hd1_20 := Dj.new hb1.ltO hge20
    have hkB_20 := OkN.new hUB hge20
    have hgB_20 := OgR.new hUB.size hge20
    have hB := hB.trans hXw5
    have hb1 := hb1.up hXw5
    have hUB := hUB.ext hXw5
    refine WL.asg rfl rfl ?_
    refine WL.nilS ?_
    refine CW.ret ?_
    refine RQ.then ?_
    refine RQ.r1 rfl ?_
    refine ⟨hUB, Tre.leaf r15, at216, sd217, v20, (some g20), rfl, ?_, ?_, hb1, osE ho20 ?_, (by first | exact hl20 | exact Lo.ogn hgB_20)⟩
    · skip
      first | exact ⟨by assumption, by simp only [lvT, List.length_singleton]; omega⟩ | exact ⟨⟨hm27.1, hm35.1⟩, by simp only [lvT, List.length_append]; have := hm27.2; have := hm35.2; omega⟩
    · skip
      omega
    · skip
      rfl
  try simp only [nq] at hc2
  refine CW.skipS ?_
  refine CW.seq ?_
  refine CW.reg ?_
  refine WL.op rfl (OpK.buildS VI (os := [.const (.int .i64 (-1))]) [_] rfl T.sl28 rfl rfl T.zv2 rfl (by intro z hz; first | rfl | (simp only [List.mem_cons, List.not_mem_nil, or_false] at hz; subst hz; exact (by first | exact Rd.cells1 (by assumption) | exact Osl.cells1 (by assumption) | exact Osn.cells1 (by assumption) | exact Rd.cells1 (NL.rd (by assumption)) | exact Inn.cell1 (by assumption) (by omega) | assumption | rfl))) rfl (fun v21 g21 w6 hXw6 ho21 hge21 => ?_))
  have hl21 := Lo.new hB hge21
  have hd1_21 := Dj.new hb1.ltO hge21
  have hkB_21 := OkN.new hUB hge21
  have hgB_21 := OgR.new hUB.size hge21
  have hB := hB.trans hXw6
  have hb1 := hb1.up hXw6
  have hUB := hUB.ext hXw6
  refine WL.mv rfl rfl ?_
  refine WL.mv rfl rfl ?_
  refine WL.mv rfl rfl ?_
  refine WL.pure rfl rfl rfl (PV.quoN rfl rfl (by omega)) ?_
  refine WL.op rfl (OpK.call rfl T.cf128 rfl (ih hB (by first | assumption | exact Lo.nl _) (by first | assumption | exact Lo.nl _) (by first | assumption | exact Rd.up (by assumption) hB | exact Osl.rd (by assumption) | exact Osn.rdR (by assumption) | exact NL.rd (by assumption) | exact rdII (by assumption) (by assumption) | exact Inn.rd (by assumption) (by omega)) (by first | assumption | omega | (simp only [marks_len, marksB_len, marksR_len]; omega)) (by first | assumption | omega | (simp only [marks_len, marksB_len, marksR_len]; omega)) (by first | assumption | omega | (simp only [marks_len, marksB_len, marksR_len]; omega)) (by first | assumption | omega | (simp only [marks_len, marksB_len, marksR_len]; omega)) (by first | assumption | omega | (simp only [marks_len, marksB_len, marksR_len]; omega)) (by omega)) (fun rv4 w7 hR => ?_))
  obtain ⟨hUC22, T23, at224, sd225, v26, og26, rfl, hm27, hm28, hbn1, ho26, hq26⟩ := hR
  have hl26 := Lo.up hq26 hB
  have hd1_26 := Dj.lo hb1.ltO hq26
  have hd21_26 := Dj.lo ho21.ltO hq26
  have hkB_26 := OkN.lo hUB hq26
  have hgB_26 := OgR.lo hUB.size hq26
  have hUB := hUB.trans hUC22 ⟨hkB_1, trivial⟩
  have ho21 := ho21.loop hUC22 ⟨(Dj.symm hd1_21), trivial⟩
  have hB := hB.loop hUC22 ⟨hl1, trivial⟩
  have hb1 := hbn1
  have h1l := flt_le hm27.2
  refine WL.op rfl (OpK.appendS (f := VI) rfl T.sl28 T.zv2 rfl rfl ho21 rfl (Osl.src ho26 (fun _ => rfl)) (by first | (simp only [List.length_cons, List.length_nil]; omega) | (simp only [List.length_append, List.length_cons, List.length_nil]; omega)) (fun v29 og29 w8 hXw8 ho29 hap29 => ?_))
  have hl29 := Lo.app hl21 hB hap29
  have hd1_29 := Dj.app hd1_21 hb1.ltO hap29
  have hd26_29 := Dj.app (Dj.symm hd21_26) ho26.ltO hap29
  have hkB_29 := OkN.app hUB hkB_21 hap29
  have hgB_29 := OgR.app hgB_21 hUB.size hap29
  have hB := hB.updL hXw8 hl21
  have hb1 := hb1.updD hXw8 hd1_21
  have ho26 := ho26.updD hXw8 (Dj.symm hd21_26)
  have hUB := hUB.step hXw8 hkB_21
  refine WL.asg rfl rfl ?_
  refine WL.nilS ?_
  refine CW.seq ?_
  refine CW.reg ?_
  refine WL.mv rfl rfl ?_
  refine WL.mv rfl rfl ?_
  refine WL.mv rfl rfl ?_
  refine WL.mv rfl rfl ?_
  refine WL.pure rfl rfl rfl (PV.quoN rfl rfl (by omega)) ?_
  refine WL.op rfl (OpK.call rfl T.cf128 rfl (ih hB (by first | assumption | exact Lo.nl _) (by first | assumption | exact Lo.nl _) (by first | assumption | exact Rd.up (by assumption) hB | exact Osl.rd (by assumption) | exact Osn.rdR (by assumption) | exact NL.rd (by assumption) | exact rdII (by assumption) (by assumption) | exact Inn.rd (by assumption) (by omega)) (by first | assumption | omega | (simp only [marks_len, marksB_len, marksR_len]; omega)) (by first | assumption | omega | (simp only [marks_len, marksB_len, marksR_len]; omega)) (by first | assumption | omega | (simp only [marks_len, marksB_len, marksR_len]; omega)) (by first | assumption | omega | (simp only [marks_len, marksB_len, marksR_len]; omega)) (by first | assumption | omega | (simp only [marks_len, marksB_len, marksR_len]; omega)) (by omega)) (fun rv5 w9 hR => ?_))
  obtain ⟨hUC30, T31, at232, sd233, v34, og34, rfl, hm35, hm36, hbn1, ho34, hq34⟩ := hR
  have hl34 := Lo.up hq34 hB
  have hd1_34 := Dj.lo hb1.ltO hq34
  have hd26_34 := Dj.lo ho26.ltO hq34
  have hd29_34 := Dj.lo ho29.ltO hq34
  have hkB_34 := OkN.lo hUB hq34
  have hgB_34 := OgR.lo hUB.size hq34
  have hUB := hUB.trans hUC30 ⟨hkB_1, trivial⟩
  have ho26 := ho26.loop hUC30 ⟨(Dj.symm hd1_26), trivial⟩
  have ho29 := ho29.loop hUC30 ⟨(Dj.symm hd1_29), trivial⟩
  have hB := hB.loop hUC30 ⟨hl1, trivial⟩
  have hb1 := hbn1
  have h2l := flt_le hm35.2
  refine WL.op rfl (OpK.appendS (f := VI) rfl T.sl28 T.zv2 rfl rfl ho29 rfl (Osl.src ho34 (fun _ => rfl)) (by first | (simp only [List.length_cons, List.length_nil]; omega) | (simp only [List.length_append, List.length_cons, List.length_nil]; omega)) (fun v37 og37 w10 hXw10 ho37 hap37 => ?_))
  have hl37 := Lo.app hl29 hB hap37
  have hd1_37 := Dj.app hd1_29 hb1.ltO hap37
  have hd26_37 := Dj.app hd26_29 ho26.ltO hap37
  have hd34_37 := Dj.app (Dj.symm hd29_34) ho34.ltO hap37
  have hkB_37 := OkN.app hUB hkB_29 hap37
  have hgB_37 := OgR.app hgB_29 hUB.size hap37
  have hB := hB.updL hXw10 hl29
  have hb1 := hb1.updD hXw10 hd1_29
  have ho26 := ho26.updD hXw10 hd26_29
  have ho34 := ho34.updD hXw10 (Dj.symm hd29_34)
  have hUB := hUB.step hXw10 hkB_29
  refine WL.asg rfl rfl ?_
  refine WL.nilS ?_
  refine CW.ret ?_
  refine RQ.r1 rfl ?_
  refine ⟨hUB, Tre.node T23 T31, at232, sd233, v37, og37, rfl, ?_, ?_, hb1, osE ho37 ?_, (by first | exact hl37 | exact Lo.ogn hgB_37)⟩
  · skip
    first | exact ⟨by assumption, by simp only [lvT, List.length_singleton]; omega⟩ | exact ⟨⟨hm27.1, hm35.1⟩, by simp only [lvT, List.length_append]; have := hm27.2; have := hm35.2; omega⟩
  · skip
    omega
  · skip
    rfl
theorem c_spec_l06DrawTreeOk {w : World} {b : World} {ps : Addr} {vc : Value} {bs : List Int} {at_ : Nat} {sd : Int} {L mo : Int} (hB0 : Ext b w) (htb_ps : Bx w ps [vc, .int .i64 ((at_ : Nat) : Int), .int .u64 sd]) (htl_ps : Lo b (some ps.block)) (ha : Rd EU8 b vc bs) (hg : ∀ x ∈ bs, 0 ≤ x ∧ x ≤ 255) (hat : (at_ : Int) + 4 * max 1 mo ≤ 1000) (hsd : 0 ≤ sd ∧ sd < 18446744073709551616) (hL2 : 1 ≤ L ∧ L ≤ 3) (hmo : 0 ≤ mo ∧ mo ≤ 9) : Calls Try.prog 128 #[.pointer (some ps), .int .i64 L, .int .i64 mo] w (Ret1 (fun v w' => UpdL [some ps.block] w w' ∧ ∃ (T : Tre) (at2 : Nat) (sd2 : Int) (u : Value) (og_u : Option Nat), v = u ∧ (okTr L T ∧ ((lvT T).length : Int) ≤ max 1 mo) ∧ ((at2 : Int) + 1 ≤ (at_ : Int) + 4 * max 1 mo ∧ 0 ≤ sd2 ∧ sd2 < 18446744073709551616) ∧ Bx w' ps [vc, .int .i64 ((at2 : Nat) : Int), .int .u64 sd2] ∧ Osl VI w' og_u u (flatT T) ∧ Lo w og_u)) := c_spec_l06DrawTreeOk_n _ hB0 htb_ps htl_ps ha hg hat hsd hL2 hmo (Nat.lt_succ_self _)
theorem c_spec_R8Tree {w : World} {b : World} {vc : Value} {bs : List Int} {L : Int} (hB0 : Ext b w) (ha : Rd EU8 b vc bs) (hg : ∀ x ∈ bs, 0 ≤ x ∧ x ≤ 255) (hL2 : 1 ≤ L ∧ L ≤ 3) : Calls Try.prog 44 #[vc, .int .i64 L] w (Ret1 (fun v w' => UpdL [] w w' ∧ ∃ (T : Tre) (u : Value) (og_u : Option Nat), v = u ∧ (okTr L T ∧ ((lvT T).length : Int) ≤ 9) ∧ Osl VI w' og_u u (flatT T) ∧ Lo w og_u)) := by
  have hB := hB0
  refine callsOf (vs := [_, _]) Try.func44 rfl Try.ntmps44 rfl rfl ?_
  have hUB : UpdL [] w w := UpdL.refl _ _
  refine CW.seq ?_
  refine CW.reg ?_
  refine WL.asg rfl rfl ?_
  refine WL.nilS ?_
  refine CW.seq ?_
  refine CW.reg ?_
  refine WL.mv rfl rfl ?_
  refine WL.op rfl (OpK.call rfl T.cf107 rfl (c_spec_l00From (by first | assumption | exact Rd.up (by assumption) hB | exact Osl.rd (by assumption) | exact Osn.rdR (by assumption) | exact NL.rd (by assumption) | exact rdII (by assumption) (by assumption) | exact Inn.rd (by assumption) (by omega))) (fun rv1 w1 hR => ?_))
  obtain ⟨hXw1, b1, rfl, hb1, hge1⟩ := hR
  have hl1 := Lo.new hB hge1
  have hkB_1 := OkN.new hUB hge1
  have hgB_1 := OgR.new hUB.size hge1
  have hB := hB.trans hXw1
  have hUB := hUB.ext hXw1
  refine WL.asg rfl rfl ?_
  refine WL.nilS ?_
  refine CW.seq ?_
  refine CW.reg ?_
  refine WL.mv rfl rfl ?_
  refine WL.mv rfl rfl ?_
  refine WL.op rfl (OpK.call rfl T.cf128 rfl (c_spec_l06DrawTreeOk hB (by first | assumption | exact Lo.nl _) (by first | assumption | exact Lo.nl _) (by first | assumption | exact Rd.up (by assumption) hB | exact Osl.rd (by assumption) | exact Osn.rdR (by assumption) | exact NL.rd (by assumption) | exact rdII (by assumption) (by assumption) | exact Inn.rd (by assumption) (by omega)) (by first | assumption | omega | (simp only [marks_len, marksB_len, marksR_len]; omega)) (by first | assumption | omega | (simp only [marks_len, marksB_len, marksR_len]; omega)) (by first | assumption | omega | (simp only [marks_len, marksB_len, marksR_len]; omega)) (by first | assumption | omega | (simp only [marks_len, marksB_len, marksR_len]; omega)) (by first | assumption | omega | (simp only [marks_len, marksB_len, marksR_len]; omega))) (fun rv2 w2 hR => ?_))
  obtain ⟨hUC2, T3, at24, sd25, v6, og6, rfl, hm7, hm8, hbn1, ho6, hq6⟩ := hR
  have hl6 := Lo.up hq6 hB
  have hd1_6 := Dj.lo hb1.ltO hq6
  have hkB_6 := OkN.lo hUB hq6
  have hgB_6 := OgR.lo hUB.size hq6
  have hUB := hUB.trans hUC2 ⟨hkB_1, trivial⟩
  have hB := hB.loop hUC2 ⟨hl1, trivial⟩
  have hb1 := hbn1
  refine WL.asg rfl rfl ?_
  refine WL.nilS ?_
  refine CW.ret ?_
  refine RQ.r1 rfl ?_
  refine ⟨hUB, T3, rv2, og6, rfl, ?_, osE ho6 ?_, (by first | exact hl6 | exact Lo.ogn hgB_6)⟩
  · skip
    first | assumption | exact ⟨by assumption, by omega⟩
  · skip
    rfl
theorem c_impl_within {w : World} {n lo hi : Int} : Calls Try.prog 104 #[.int .i64 n, .int .i64 lo, .int .i64 hi] w (Ret1 (RQt (.bool (decide (lo ≤ n ∧ n ≤ hi))) w)) := by
  have hB : Ext w w := Ext.refl w
  refine callsOf (vs := [_, _, _]) Try.func104 rfl Try.ntmps104 rfl rfl ?_
  refine CW.seq ?_
  refine CW.reg ?_
  refine WL.asg rfl rfl ?_
  refine WL.nilS ?_
  refine CW.seq ?_
  refine CW.reg ?_
  refine WL.mv rfl rfl ?_
  refine WL.mv rfl rfl ?_
  refine WL.pure rfl rfl rfl (PV.geq rfl rfl) ?_
  refine WL.mv rfl rfl ?_
  refine WL.split (t := 10) rfl (fun hc1 => ?_) (fun hc1 => ?_)
  rotate_left
  · skip
    try simp only [nq] at hc1
    refine WL.skip rfl rfl rfl rfl rfl ?_
    refine WL.skip rfl rfl rfl rfl rfl ?_
    refine WL.skip rfl rfl rfl rfl rfl ?_
    refine WL.pure rfl rfl rfl (PV.pickF rfl rfl) ?_
    refine WL.asg rfl rfl ?_
    refine WL.nilS ?_
    refine CW.ret ?_
    refine RQ.r1 rfl ?_
    refine ⟨?_, hB⟩
    first | rfl | exact bT (by omega) | exact bF (by omega) | exact bD (by omega) | exact iE (by omega) | (simp_all; done) | (simp_all; omega) | (simp_all; intros; omega)
  try simp only [nq] at hc1
  refine WL.pureG rfl rfl rfl rfl rfl (PV.move rfl) ?_
  refine WL.pureG rfl rfl rfl rfl rfl (PV.move rfl) ?_
  refine WL.pureG rfl rfl rfl rfl rfl (PV.leq rfl rfl) ?_
  refine WL.pure rfl rfl rfl (PV.pickT rfl rfl) ?_
  refine WL.asg rfl rfl ?_
  refine WL.nilS ?_
  refine CW.ret ?_
  refine RQ.r1 rfl ?_
  refine ⟨?_, hB⟩
  first | rfl | exact bT (by omega) | exact bF (by omega) | exact bD (by omega) | exact iE (by omega) | (simp_all; done) | (simp_all; omega) | (simp_all; intros; omega)
theorem c_impl_endOfTree {w : World} {vt : Value} {xs : List Int} {L : Int} (ht : Rd EI w vt xs) (hN : xs.length ≤ 1048576) (hL : 1 ≤ L ∧ L ≤ 4) : Calls Try.prog 136 #[vt, .int .i64 0, .int .i64 L] w (Ret1 (RQt (.tuple #[.int .i64 (eotI L xs), .bool (decide (endI L xs 0 ≠ -1))]) w)) := by
  have hB : Ext w w := Ext.refl w
  have hla := ht.leI
  refine callsOf (vs := [_, _, _]) Try.func136 rfl Try.ntmps136 rfl rfl ?_
  refine CW.seq ?_
  refine CW.reg ?_
  refine WL.asg rfl rfl ?_
  refine WL.asg rfl rfl ?_
  refine WL.nilS ?_
  refine CW.seq ?_
  refine CW.seq ?_
  refine CW.reg ?_
  refine WL.asg rfl rfl ?_
  refine WL.nilS ?_
  refine CW.block ?_
  refine CW.loop (σk := [(0, _), (2, _)]) (fun ρ wz m => ∃ (k : Nat) (c : Int), ρ = [(1, .int .i64 (k : Nat)), (8, .int .i64 c)] ∧ m = xs.length - k ∧ UpdL [] w wz ∧ (k ≤ xs.length) ∧ (Sk L xs k c)) (ρ₀ := [(1, _), (8, _)]) (m₀ := _) ⟨rfl, rfl, rfl, rfl, trivial⟩ ⟨0, 1, rfl, rfl, (UpdL.refl _ _), (by first | omega | rfl | (simp; done) | assumption | (simp_all; done)), (by exact Sk.zero _ _)⟩ ?_
  rintro _ wl1 _ ⟨k, c, rfl, rfl, hU0, hk, hs⟩
  have hB := hB.loop hU0 trivial
  have hs1 := hs.1; have hs2 := hs.2.1
  refine CW.seq ?_
  refine CW.seq ?_
  refine CW.reg ?_
  refine WL.mv rfl rfl ?_
  refine WL.pure rfl rfl rfl (PV.gtr rfl rfl) ?_
  refine WL.nilS ?_
  refine CW.cond rfl (fun hc1 => ?_) (fun hc1 => ?_)
  · skip
    try simp only [nq] at hc1
    refine CW.skipS ?_
    refine CW.seq ?_
    refine CW.block ?_
    refine CW.seq ?_
    refine CW.seq ?_
    refine CW.reg ?_
    refine WL.mv rfl rfl ?_
    refine WL.mv rfl rfl ?_
    refine WL.pure rfl rfl rfl ((by first | exact PV.len rfl (by assumption) T.sl28 | exact PV.lenOs rfl (by assumption) T.sl28 | exact PV.len rfl (NL.rd (by assumption)) T.sl28 | exact PV.len rfl (Inn.rd (by assumption) (by omega)) T.sl28)) ?_
    refine WL.pure rfl rfl rfl (PV.eql rfl rfl) ?_
    refine WL.mv rfl rfl ?_
    refine WL.split (t := 17) rfl (fun hc2 => ?_) (fun hc2 => ?_)
    · skip
      try simp only [nq] at hc2
      refine WL.skip rfl rfl rfl rfl rfl ?_
      refine WL.skip rfl rfl rfl rfl rfl ?_
      refine WL.skip rfl rfl rfl rfl rfl ?_
      refine WL.skip rfl rfl rfl rfl rfl ?_
      refine WL.skip rfl rfl rfl rfl rfl ?_
      refine WL.skip rfl rfl rfl rfl rfl ?_
      refine WL.skip rfl rfl rfl rfl rfl ?_
      refine WL.skip rfl rfl rfl rfl rfl ?_
      refine WL.pure rfl rfl rfl (PV.pickT rfl rfl) ?_
      refine WL.nilS ?_
      refine CW.condT rfl ?_
      refine CW.seq ?_
      refine CW.reg ?_
      refine WL.asg rfl rfl ?_
      refine WL.asg rfl rfl ?_
      refine WL.nilS ?_
      refine CW.ret ?_
      refine RQ.then ?_
      refine RQ.block ?_
      refine RQ.then ?_
      refine RQ.then ?_
      refine RQ.block ?_
      refine RQ.then ?_
      refine RQ.r2 rfl rfl ?_
      refine ⟨?_, hB⟩
      first | exact eot_no (hs.out (by omega) (by omega)) | exact eot_no (hs.bad (by omega) (by omega) (by omega) (by omega))
    try simp only [nq] at hc2
    refine WL.pureG rfl rfl rfl rfl rfl (PV.move rfl) ?_
    refine WL.pureG rfl rfl rfl rfl rfl (PV.move rfl) ?_
    first
      | refine WL.at (x := .tmp 18) (y := .tmp 19) (E := EI) (0) rfl rfl (by first | assumption | exact Inn.rd (by assumption) (by omega)) (by first | omega | (simp only [List.length_set]; omega) | (simp only [List.length_append, List.length_take, List.length_replicate, List.length_drop]; omega)) (fun p1 csp1 hpp1 hcp1 hq => ?_)
      | refine WL.atZ (x := .tmp 18) (y := .tmp 19) (E := EI) (0) rfl rfl (by first | assumption | exact Inn.rd (by assumption) (by omega)) (by first | omega | (simp only [List.length_set]; omega) | (simp only [List.length_append, List.length_take, List.length_replicate, List.length_drop]; omega)) (fun p1 csp1 hpp1 hzp1 hcp1 hq => ?_)
    cases hq
    refine WL.pureG rfl rfl rfl rfl rfl ((by first | exact PV.indexAddr hpp1 rfl rfl T.sl28 | exact PV.indexAddr hpp1 rfl (by rw [← hzp1]; rfl) T.sl28)) ?_
    refine WL.pureG rfl rfl rfl rfl rfl ((by first | exact PV.load0 T.na2 rfl (by first | exact Cells.up (by assumption) hB | exact Bx.cells (by assumption) | assumption) (Ext.refl _) rfl | exact PV.load1 T.na2 rfl (by first | exact Cells.up (by assumption) hB | exact Bx.cells (by assumption) | assumption) (Ext.refl _) rfl)) ?_
    refine WL.pureG rfl rfl rfl rfl rfl (PV.move rfl) ?_
    refine WL.pureG rfl rfl rfl rfl rfl (PV.sub rfl rfl (by constructor <;> omega)) ?_
    refine WL.opG rfl rfl rfl (OpK.callR rfl T.cf104 rfl (c_impl_within) (fun w1 hXw1 => ?_))
    have hB := hB.trans hXw1
    have hU0 := hU0.ext hXw1
    refine WL.pureG rfl rfl rfl rfl rfl (PV.not rfl) ?_
    refine WL.pure rfl rfl rfl (PV.pickF rfl rfl) ?_
    refine WL.nilS ?_
    refine CW.cond rfl (fun hc3 => ?_) (fun hc3 => ?_)
    · skip
      try simp only [nq] at hc3
      refine CW.seq ?_
      refine CW.reg ?_
      refine WL.asg rfl rfl ?_
      refine WL.asg rfl rfl ?_
      refine WL.nilS ?_
      refine CW.ret ?_
      refine RQ.then ?_
      refine RQ.block ?_
      refine RQ.then ?_
      refine RQ.then ?_
      refine RQ.block ?_
      refine RQ.then ?_
      refine RQ.r2 rfl rfl ?_
      refine ⟨?_, hB⟩
      first | exact eot_no (hs.out (by omega) (by omega)) | exact eot_no (hs.bad (by omega) (by omega) (by omega) (by omega))
    try simp only [nq] at hc3
    refine CW.skipS ?_
    refine CW.seq ?_
    refine CW.reg ?_
    refine WL.mv rfl rfl ?_
    refine WL.mv rfl rfl ?_
    first
      | refine WL.at (x := .tmp 27) (y := .tmp 28) (E := EI) (0) rfl rfl (by first | assumption | exact Inn.rd (by assumption) (by omega)) (by first | omega | (simp only [List.length_set]; omega) | (simp only [List.length_append, List.length_take, List.length_replicate, List.length_drop]; omega)) (fun p2 csp2 hpp2 hcp2 hq => ?_)
      | refine WL.atZ (x := .tmp 27) (y := .tmp 28) (E := EI) (0) rfl rfl (by first | assumption | exact Inn.rd (by assumption) (by omega)) (by first | omega | (simp only [List.length_set]; omega) | (simp only [List.length_append, List.length_take, List.length_replicate, List.length_drop]; omega)) (fun p2 csp2 hpp2 hzp2 hcp2 hq => ?_)
    cases hq
    refine WL.pure rfl rfl rfl ((by first | exact PV.indexAddr hpp2 rfl rfl T.sl28 | exact PV.indexAddr hpp2 rfl (by rw [← hzp2]; rfl) T.sl28)) ?_
    refine WL.pure rfl rfl rfl ((by first | exact PV.load0 T.na2 rfl (by first | exact Cells.up (by assumption) hB | exact Bx.cells (by assumption) | assumption) (Ext.refl _) rfl | exact PV.load1 T.na2 rfl (by first | exact Cells.up (by assumption) hB | exact Bx.cells (by assumption) | assumption) (Ext.refl _) rfl)) ?_
    refine WL.pure rfl rfl rfl (PV.lss rfl rfl) ?_
    refine WL.nilS ?_
    refine CW.cond rfl (fun hc4 => ?_) (fun hc4 => ?_)
    · skip
      try simp only [nq] at hc4
      refine CW.reg ?_
      refine WL.mv rfl rfl ?_
      refine WL.pure rfl rfl rfl (PV.add rfl rfl (by constructor <;> omega)) ?_
      refine WL.asg rfl rfl ?_
      refine WL.nil ?_
      refine NQ.block ?_
      refine NQ.then ?_
      refine CW.reg ?_
      refine WL.mv rfl rfl ?_
      refine WL.pure rfl rfl rfl (PV.add rfl rfl (by constructor <;> omega)) ?_
      refine WL.asg rfl rfl ?_
      refine WL.nil ?_
      refine NQ.next (ρ := [(1, _), (8, _)]) ⟨rfl, rfl, rfl, rfl, trivial⟩ ?_
      exact ⟨_, ⟨k + 1, c + 1, rfl, rfl, hU0, (by first | omega | assumption | (simp_all; done) | (simp_all; omega)), (by first | exact hs.node (by omega) (by omega) (by omega) (by omega) | exact hs.leaf (by omega) (by omega) (by omega) (by omega))⟩, by omega⟩
    try simp only [nq] at hc4
    refine CW.reg ?_
    refine WL.mv rfl rfl ?_
    refine WL.pure rfl rfl rfl (PV.sub rfl rfl (by constructor <;> omega)) ?_
    refine WL.asg rfl rfl ?_
    refine WL.nil ?_
    refine NQ.block ?_
    refine NQ.then ?_
    refine CW.reg ?_
    refine WL.mv rfl rfl ?_
    refine WL.pure rfl rfl rfl (PV.add rfl rfl (by constructor <;> omega)) ?_
    refine WL.asg rfl rfl ?_
    refine WL.nil ?_
    refine NQ.next (ρ := [(1, _), (8, _)]) ⟨rfl, rfl, rfl, rfl, trivial⟩ ?_
    exact ⟨_, ⟨k + 1, c - 1, rfl, rfl, hU0, (by first | omega | assumption | (simp_all; done) | (simp_all; omega)), (by first | exact hs.node (by omega) (by omega) (by omega) (by omega) | exact hs.leaf (by omega) (by omega) (by omega) (by omega))⟩, by omega⟩
  try simp only [nq] at hc1
  refine CW.exit ?_
  refine XQ.then ?_
  refine XQ.then ?_
  refine XQ.here ?_
  refine NQ.then ?_
  refine CW.seq ?_
  refine CW.reg ?_
  refine WL.mv rfl rfl ?_
  refine WL.asg rfl rfl ?_
  refine WL.asg rfl rfl ?_
  refine WL.nilS ?_
  refine CW.ret ?_
  refine RQ.r2 rfl rfl ?_
  refine ⟨?_, hB⟩
  exact eot_yes (hs.done (by omega))
theorem c_impl_IsTree {w : World} {vt : Value} {xs : List Int} {L : Int} (ht : Rd EI w vt xs) (hN : xs.length ≤ 1048576) : Calls Try.prog 48 #[vt, .int .i64 L] w (Ret1 (RQt (.bool (isTreeB L xs)) w)) := by
  have hB : Ext w w := Ext.refl w
  have hla := ht.leI
  refine callsOf (vs := [_, _]) Try.func48 rfl Try.ntmps48 rfl rfl ?_
  refine CW.seq ?_
  refine CW.reg ?_
  refine WL.asg rfl rfl ?_
  refine WL.nilS ?_
  refine CW.seq ?_
  refine CW.seq ?_
  refine CW.reg ?_
  refine WL.mv rfl rfl ?_
  refine WL.op rfl (OpK.callR rfl T.cf104 rfl (c_impl_within) (fun w1 hXw1 => ?_))
  have hB := hB.trans hXw1
  refine WL.pure rfl rfl rfl (PV.not rfl) ?_
  refine WL.mv rfl rfl ?_
  refine WL.split (t := 10) rfl (fun hc1 => ?_) (fun hc1 => ?_)
  · skip
    try simp only [nq] at hc1
    refine WL.skip rfl rfl rfl rfl rfl ?_
    refine WL.skip rfl rfl rfl rfl rfl ?_
    refine WL.skip rfl rfl rfl rfl rfl ?_
    refine WL.pure rfl rfl rfl (PV.pickT rfl rfl) ?_
    refine WL.nilS ?_
    refine CW.condT rfl ?_
    refine CW.seq ?_
    refine CW.reg ?_
    refine WL.asg rfl rfl ?_
    refine WL.nilS ?_
    refine CW.ret ?_
    refine RQ.then ?_
    refine RQ.r1 rfl ?_
    refine ⟨?_, hB⟩
    simp only [isTreeB, treeB, eotI] at *; first | (simp_all; done) | (simp_all; intros; omega)
  try simp only [nq] at hc1
  refine WL.pureG rfl rfl rfl rfl rfl (PV.move rfl) ?_
  refine WL.pureG rfl rfl rfl rfl rfl ((by first | exact PV.len rfl (by assumption) T.sl28 | exact PV.lenOs rfl (by assumption) T.sl28 | exact PV.len rfl (NL.rd (by assumption)) T.sl28 | exact PV.len rfl (Inn.rd (by assumption) (by omega)) T.sl28)) ?_
  refine WL.pureG rfl rfl rfl rfl rfl (PV.gtr rfl rfl) ?_
  refine WL.pure rfl rfl rfl (PV.pickF rfl rfl) ?_
  refine WL.nilS ?_
  refine CW.cond rfl (fun hc2 => ?_) (fun hc2 => ?_)
  · skip
    try simp only [nq] at hc2
    refine CW.seq ?_
    refine CW.reg ?_
    refine WL.asg rfl rfl ?_
    refine WL.nilS ?_
    refine CW.ret ?_
    refine RQ.then ?_
    refine RQ.r1 rfl ?_
    refine ⟨?_, hB⟩
    simp only [isTreeB, treeB, eotI] at *; first | (simp_all; done) | (simp_all; intros; omega)
  try simp only [nq] at hc2
  refine CW.skipS ?_
  refine CW.seq ?_
  refine CW.reg ?_
  refine WL.mv rfl rfl ?_
  refine WL.mv rfl rfl ?_
  refine WL.op rfl (OpK.callR rfl T.cf136 rfl (c_impl_endOfTree (by first | assumption | exact Rd.up (by assumption) hB | exact Osl.rd (by assumption) | exact Osn.rdR (by assumption) | exact NL.rd (by assumption) | exact rdII (by assumption) (by assumption) | exact Inn.rd (by assumption) (by omega)) (by first | assumption | omega | (simp only [marks_len, marksB_len, marksR_len]; omega)) (by first | assumption | omega | (simp only [marks_len, marksB_len, marksR_len]; omega))) (fun w2 hXw2 => ?_))
  have hB := hB.trans hXw2
  refine WL.mv rfl rfl ?_
  refine WL.pure rfl rfl rfl (PV.extract rfl rfl) ?_
  refine WL.pure rfl rfl rfl (PV.extract rfl rfl) ?_
  refine WL.asg rfl rfl ?_
  refine WL.asg rfl rfl ?_
  refine WL.nilS ?_
  refine CW.seq ?_
  refine CW.reg ?_
  refine WL.mv rfl rfl ?_
  refine WL.mv rfl rfl ?_
  refine WL.split (t := 22) rfl (fun hc3 => ?_) (fun hc3 => ?_)
  rotate_left
  · skip
    try simp only [nq] at hc3
    refine WL.skip rfl rfl rfl rfl rfl ?_
    refine WL.skip rfl rfl rfl rfl rfl ?_
    refine WL.skip rfl rfl rfl rfl rfl ?_
    refine WL.skip rfl rfl rfl rfl rfl ?_
    refine WL.pure rfl rfl rfl (PV.pickF rfl rfl) ?_
    refine WL.asg rfl rfl ?_
    refine WL.nilS ?_
    refine CW.ret ?_
    refine RQ.r1 rfl ?_
    refine ⟨?_, hB⟩
    simp only [isTreeB, treeB, eotI] at *; first | (simp_all; done) | (simp_all; intros; omega)
  try simp only [nq] at hc3
  refine WL.pureG rfl rfl rfl rfl rfl (PV.move rfl) ?_
  refine WL.pureG rfl rfl rfl rfl rfl (PV.move rfl) ?_
  refine WL.pureG rfl rfl rfl rfl rfl ((by first | exact PV.len rfl (by assumption) T.sl28 | exact PV.lenOs rfl (by assumption) T.sl28 | exact PV.len rfl (NL.rd (by assumption)) T.sl28 | exact PV.len rfl (Inn.rd (by assumption) (by omega)) T.sl28)) ?_
  refine WL.pureG rfl rfl rfl rfl rfl (PV.eql rfl rfl) ?_
  refine WL.pure rfl rfl rfl (PV.pickT rfl rfl) ?_
  refine WL.asg rfl rfl ?_
  refine WL.nilS ?_
  refine CW.ret ?_
  refine RQ.r1 rfl ?_
  refine ⟨?_, hB⟩
  simp only [isTreeB, treeB, eotI] at *; first | (simp_all; done) | (simp_all; intros; omega)
theorem c_impl_LeavesOfTree {w : World} {vt : Value} {xs : List Int} (ht : Rd EI w vt xs) (hN : xs.length ≤ 1048576) : Calls Try.prog 45 #[vt] w (Ret1 (fun v w' => Ext w w' ∧ ∃ v1 og_v1, v = .tuple #[v1, .bool (treeB 4 xs)] ∧ Osl VI w' og_v1 v1 (leavesT xs) ∧ Lo w og_v1)) := by
  have hB : Ext w w := Ext.refl w
  have hla := ht.leI
  refine callsOf (vs := [_]) Try.func45 rfl Try.ntmps45 rfl rfl ?_
  refine CW.seq ?_
  refine CW.reg ?_
  refine WL.asg rfl rfl ?_
  refine WL.asg rfl rfl ?_
  refine WL.nilS ?_
  refine CW.seq ?_
  refine CW.seq ?_
  refine CW.reg ?_
  refine WL.mv rfl rfl ?_
  refine WL.op rfl (OpK.callR rfl T.cf48 rfl (c_impl_IsTree (by first | assumption | exact Rd.up (by assumption) hB | exact Osl.rd (by assumption) | exact Osn.rdR (by assumption) | exact NL.rd (by assumption) | exact rdII (by assumption) (by assumption) | exact Inn.rd (by assumption) (by omega)) (by first | assumption | omega | (simp only [marks_len, marksB_len, marksR_len]; omega))) (fun w1 hXw1 => ?_))
  have hB := hB.trans hXw1
  refine WL.pure rfl rfl rfl (PV.not rfl) ?_
  refine WL.nilS ?_
  refine CW.cond rfl (fun hc1 => ?_) (fun hc1 => ?_)
  · skip
    try simp only [nq] at hc1
    rw [isTreeB4] at hc1
    refine CW.seq ?_
    refine CW.reg ?_
    refine WL.asg rfl rfl ?_
    refine WL.asg rfl rfl ?_
    refine WL.nilS ?_
    refine CW.ret ?_
    refine RQ.then ?_
    refine RQ.r2 rfl rfl ?_
    refine ⟨hB, (.slice none 0 0), none, ?_, osE (Osl.nil _ _) ?_, Lo.nl _⟩
    · skip
      first | exact tE2 rfl (bE (by simp_all)) | simp_all
    · skip
      first | (rw [leavesL_all (by omega)]; simp only [leavesT]; rw [if_pos (by assumption)]) | (simp only [leavesT]; rw [if_neg (by simp_all)])
  try simp only [nq] at hc1
  rw [isTreeB4] at hc1
  refine CW.skipS ?_
  refine CW.seq ?_
  refine CW.reg ?_
  refine WL.op rfl (OpK.buildS VI (os := []) [] rfl T.sl28 rfl rfl T.zv2 rfl (by intro z hz; cases hz) rfl (fun v1 g1 w2 hXw2 ho1 hge1 => ?_))
  have hl1 := Lo.new hB hge1
  have hB := hB.trans hXw2
  refine WL.asg rfl rfl ?_
  refine WL.nilS ?_
  refine CW.seq ?_
  refine CW.seq ?_
  refine CW.reg ?_
  refine WL.mv rfl rfl ?_
  refine WL.pure rfl rfl rfl ((by first | exact PV.len rfl (by assumption) T.sl28 | exact PV.lenOs rfl (by assumption) T.sl28 | exact PV.len rfl (NL.rd (by assumption)) T.sl28 | exact PV.len rfl (Inn.rd (by assumption) (by omega)) T.sl28)) ?_
  refine WL.mv rfl rfl ?_
  refine WL.nilS ?_
  refine CW.block ?_
  have hlt1 := ho1.ltO
  refine CW.loop (σk := [(11, _), (12, _)]) (fun ρ wz m => ∃ (v2 : Value) (og2 : Option Nat) (k : Nat), ρ = [(4, v2), (13, .int .i64 (k : Nat))] ∧ m = xs.length - k ∧ UpdL [(some g1)] w2 wz ∧ Osl VI wz og2 v2 (leavesL (xs.take k)) ∧ OgR w2 (some g1) og2 ∧ (k ≤ xs.length)) (ρ₀ := [(4, _), (13, _)]) (m₀ := _) ⟨rfl, rfl, rfl, rfl, trivial⟩ ⟨v1, (some g1), 0, rfl, rfl, (UpdL.refl _ _), osE ho1 (by exact (leavesL_zero _).symm), OgR.refl _ _, (by first | omega | rfl | (simp; done) | assumption | (simp_all; done))⟩ ?_
  rintro _ wl1 _ ⟨v2, og2, k, rfl, rfl, hU0, ho2, ha2, hk⟩
  have hl2 := Lo.ogr hl1 hB ha2
  have hg0_2 := ha2
  have hk0_2 : OkB [(some g1)] w2 og2 := OkB.ogr (OkB.mem (by simp)) (Nat.le_refl _) ha2
  have hB := hB.loop hU0 ⟨hl1, trivial⟩
  have hpl := leavesL_len xs k
  refine CW.seq ?_
  refine CW.reg ?_
  refine WL.pure rfl rfl rfl (PV.lss rfl rfl) ?_
  refine WL.nilS ?_
  refine CW.seq ?_
  refine CW.cond rfl (fun hc2 => ?_) (fun hc2 => ?_)
  · skip
    try simp only [nq] at hc2
    refine CW.skipS ?_
    refine CW.seq ?_
    refine CW.block ?_
    refine CW.seq ?_
    refine CW.reg ?_
    first
      | refine WL.at (x := .tmp 11) (y := .tmp 13) (E := EI) (0) rfl rfl (by first | assumption | exact Inn.rd (by assumption) (by omega)) (by first | omega | (simp only [List.length_set]; omega) | (simp only [List.length_append, List.length_take, List.length_replicate, List.length_drop]; omega)) (fun p1 csp1 hpp1 hcp1 hq => ?_)
      | refine WL.atZ (x := .tmp 11) (y := .tmp 13) (E := EI) (0) rfl rfl (by first | assumption | exact Inn.rd (by assumption) (by omega)) (by first | omega | (simp only [List.length_set]; omega) | (simp only [List.length_append, List.length_take, List.length_replicate, List.length_drop]; omega)) (fun p1 csp1 hpp1 hzp1 hcp1 hq => ?_)
    cases hq
    refine WL.pure rfl rfl rfl ((by first | exact PV.indexAddr hpp1 rfl rfl T.sl28 | exact PV.indexAddr hpp1 rfl (by rw [← hzp1]; rfl) T.sl28)) ?_
    refine WL.pure rfl rfl rfl ((by first | exact PV.load0 T.na2 rfl (by first | exact Cells.up (by assumption) hB | exact Bx.cells (by assumption) | assumption) (Ext.refl _) rfl | exact PV.load1 T.na2 rfl (by first | exact Cells.up (by assumption) hB | exact Bx.cells (by assumption) | assumption) (Ext.refl _) rfl)) ?_
    refine WL.asg rfl rfl ?_
    refine WL.nilS ?_
    refine CW.seq ?_
    refine CW.reg ?_
    refine WL.mv rfl rfl ?_
    refine WL.pure rfl rfl rfl (PV.geq rfl rfl) ?_
    refine WL.nilS ?_
    refine CW.cond rfl (fun hc3 => ?_) (fun hc3 => ?_)
    · skip
      try simp only [nq] at hc3
      refine CW.reg ?_
      refine WL.mv rfl rfl ?_
      refine WL.mv rfl rfl ?_
      refine WL.op rfl (OpK.buildS VI (os := [.tmp 20]) [_] rfl T.sl28 rfl rfl T.zv2 rfl (by intro z hz; first | rfl | (simp only [List.mem_cons, List.not_mem_nil, or_false] at hz; subst hz; exact (by first | exact Rd.cells1 (by assumption) | exact Osl.cells1 (by assumption) | exact Osn.cells1 (by assumption) | exact Rd.cells1 (NL.rd (by assumption)) | exact Inn.cell1 (by assumption) (by omega) | assumption | rfl))) rfl (fun v3 g3 w3 hXw3 ho3 hge3 => ?_))
      have hl3 := Lo.new hB hge3
      have hd2_3 := Dj.new ho2.ltO hge3
      have hk0_3 := OkN.new hU0 hge3
      have hg0_3 := OgR.new hU0.size hge3
      have hB := hB.trans hXw3
      have ho2 := ho2.up hXw3
      have hU0 := hU0.ext hXw3
      refine WL.op rfl (OpK.appendS (f := VI) rfl T.sl28 T.zv2 rfl rfl ho2 rfl (Osl.src ho3 (fun _ => rfl)) (by first | (simp only [List.length_cons, List.length_nil]; omega) | (simp_all; omega)) (fun v4 og4 w4 hXw4 ho4 hap4 => ?_))
      have hl4 := Lo.app hl2 hB hap4
      have hd3_4 := Dj.app (Dj.symm hd2_3) ho3.ltO hap4
      have hk0_4 := OkN.app hU0 hk0_2 hap4
      have hg0_4 := OgR.app hg0_2 hU0.size hap4
      have hB := hB.updL hXw4 hl2
      have ho3 := ho3.updD hXw4 (Dj.symm hd2_3)
      have hU0 := hU0.step hXw4 hk0_2
      refine WL.asg rfl rfl ?_
      refine WL.nil ?_
      refine NQ.block ?_
      refine NQ.then ?_
      refine CW.reg ?_
      refine WL.pure rfl rfl rfl (PV.add rfl rfl (by constructor <;> omega)) ?_
      refine WL.mv rfl rfl ?_
      refine WL.nil ?_
      refine NQ.next (ρ := [(4, _), (13, _)]) ⟨rfl, rfl, rfl, rfl, trivial⟩ ?_
      exact ⟨_, ⟨v4, og4, k + 1, rfl, rfl, hU0, osE ho4 (by first | exact leavesL_put (by omega) (by omega) | exact leavesL_not (by omega) (by omega)), (by first | exact hg0_4 | exact OgR.weak hg0_4), (by first | omega | assumption | (simp_all; done) | (simp_all; omega))⟩, by omega⟩
    try simp only [nq] at hc3
    refine CW.skip ?_
    refine NQ.block ?_
    refine NQ.then ?_
    refine CW.reg ?_
    refine WL.pure rfl rfl rfl (PV.add rfl rfl (by constructor <;> omega)) ?_
    refine WL.mv rfl rfl ?_
    refine WL.nil ?_
    refine NQ.next (ρ := [(4, _), (13, _)]) ⟨rfl, rfl, rfl, rfl, trivial⟩ ?_
    exact ⟨_, ⟨v2, og2, k + 1, rfl, rfl, hU0, osE ho2 (by first | exact leavesL_put (by omega) (by omega) | exact leavesL_not (by omega) (by omega)), (by first | exact hg0_2 | exact OgR.weak hg0_2), (by first | omega | assumption | (simp_all; done) | (simp_all; omega))⟩, by omega⟩
  try simp only [nq] at hc2
  refine CW.exit ?_
  refine XQ.then ?_
  refine XQ.then ?_
  refine XQ.here ?_
  refine NQ.then ?_
  refine CW.seq ?_
  refine CW.reg ?_
  refine WL.mv rfl rfl ?_
  refine WL.asg rfl rfl ?_
  refine WL.asg rfl rfl ?_
  refine WL.nilS ?_
  refine CW.ret ?_
  refine RQ.r2 rfl rfl ?_
  refine ⟨hB, v2, og2, ?_, osE ho2 ?_, hl2⟩
  · skip
    first | exact tE2 rfl (bE (by simp_all)) | simp_all
  · skip
    first | (rw [leavesL_all (by omega)]; simp only [leavesT]; rw [if_pos (by assumption)]) | (simp only [leavesT]; rw [if_neg (by simp_all)])
theorem c_slices_Backward_int64_int64 {w : World} {va : Value} {xs : List Int} (ha : Rd EI w va xs) : Calls Try.prog 200 #[va] w (Ret1 (fun v w' => Ext w w' ∧ ∃ p, v = .func (.func 226) #[] #[.pointer (some p)] ∧ Bx w' p [va] ∧ w.heap.size ≤ p.block)) := by
  have hB : Ext w w := Ext.refl w
  refine callsOf (vs := [_]) Try.func200 rfl Try.ntmps200 rfl rfl ?_
  refine CW.seq ?_
  refine CW.reg ?_
  refine WL.op rfl (OpK.box rfl rfl (by first | exact Rd.cells1 (by assumption) | exact Osl.cells1 (by assumption) | exact Osn.cells1 (by assumption) | exact Rd.cells1 (NL.rd (by assumption)) | exact Inn.cell1 (by assumption) (by omega) | assumption | rfl) (fun b1 w1 hXw1 hb1 hge1 => ?_))
  have hl1 := Lo.new hB hge1
  have hB := hB.trans hXw1
  refine WL.asg rfl rfl ?_
  refine WL.nilS ?_
  refine CW.seq ?_
  refine CW.reg ?_
  refine WL.pure rfl rfl rfl (PV.makeFunc (fs := []) (cs := [.tmp 1]) rfl rfl) ?_
  refine WL.asg rfl rfl ?_
  refine WL.nilS ?_
  refine CW.ret ?_
  refine RQ.r1 rfl ?_
  refine ⟨hB, b1, ?_, hb1, (hl1 _ rfl)⟩
  · skip
    first | rfl | exact bT (by omega) | exact bF (by omega) | exact bD (by omega) | exact iE (by omega) | (simp_all; done) | (simp_all; omega) | (simp_all; intros; omega)
theorem c_bw {pb : Addr} {v : Value} {xs : List Int} {l : Nat} {W : World} (J : Nat → World → Prop) (hJ : ∀ k W, J k W → Bx W pb [v] ∧ Rd EI W v xs)
  (hY : ∀ k W1, k < xs.length → J k W1 → YieldAt Fence.wide 0 Try.prog l #[.int .i64 ((xs.length : Int) - 1 - (k : Nat)), .int .i64 (xs.getD (xs.length - 1 - k) 0)] W1 (fun e W' => e = .returned (.bool true) ∧ J (k + 1) W')) (h0 : J 0 W) :
  Calls Try.prog 226 (#[.func (.yield l) #[] #[]] ++ [Value.pointer (some pb)].toArray) W (Ret1 (fun _ W' => J xs.length W')) := by
  have e9 : (#[Value.func (.yield l) #[] #[]] ++ [Value.pointer (some pb)].toArray) = [Value.func (.yield l) #[] #[], .pointer (some pb)].toArray := by simp
  rw [e9]
  refine callsOf (vs := [_, _]) Try.func226 rfl Try.ntmps226 rfl rfl ?_
  obtain ⟨hb, hr⟩ := hJ 0 W h0
  have hla := hr.leI
  repeat refine CW.seq ?_
  refine CW.reg ?_
  refine WL.pure rfl rfl rfl (PV.load0 T.na28 rfl hb.cells (Ext.refl _) rfl) ?_
  refine WL.pure rfl rfl rfl (PV.len rfl hr T.sl28) ?_
  refine WL.pure rfl rfl rfl (PV.sub rfl rfl (by constructor <;> omega)) ?_
  refine WL.pure rfl rfl rfl (PV.assign rfl) ?_
  refine WL.nilS ?_
  refine CW.block ?_
  refine CW.loop (σk := [(0, _), (1, _)]) (fun ρ wz m => ∃ k : Nat, ρ = [(3, .int .i64 ((xs.length : Int) - 1 - (k : Nat)))] ∧ m = xs.length - k ∧ k ≤ xs.length ∧ J k wz) (ρ₀ := [(3, _)]) ⟨rfl, rfl, rfl, trivial⟩ ⟨0, congrArg (fun z => [(3, Value.int .i64 z)]) (by omega), rfl, by omega, h0⟩ ?_
  rintro _ wz _ ⟨k, rfl, rfl, hk, hj⟩
  obtain ⟨hb, hr⟩ := hJ k wz hj
  repeat refine CW.seq ?_
  refine CW.reg ?_
  refine WL.pure rfl rfl rfl (PV.move rfl) ?_
  refine WL.pure rfl rfl rfl (PV.geq rfl rfl) ?_
  refine WL.nilS ?_
  refine CW.cond rfl (fun hc => ?_) (fun hc => ?_)
  · simp only [decide_eq_true_eq] at hc
    refine CW.skipS ?_
    repeat refine CW.seq ?_
    refine CW.block ?_
    repeat refine CW.seq ?_
    refine CW.regI ?_
    obtain ⟨p9, cs9, hp9, hc9, hq9⟩ := hr.at (i := xs.length - 1 - k) (by omega) 0
    cases hq9
    have hz : ((xs.length - 1 - k : Nat) : Int) = (xs.length : Int) - 1 - (k : Nat) := by omega
    refine WLi.pure rfl rfl rfl (PV.move rfl) ?_
    refine WLi.pure rfl rfl rfl (PV.move rfl) ?_
    refine WLi.pure rfl rfl rfl (PV.load0 T.na28 rfl hb.cells (Ext.refl _) rfl) ?_
    refine WLi.pure rfl rfl rfl (PV.move rfl) ?_
    refine WLi.pure rfl rfl rfl (PV.indexAddr hp9 rfl (by rw [hz]; rfl) T.sl28) ?_
    refine WLi.pure rfl rfl rfl (PV.load0 T.na2 rfl hc9 (Ext.refl _) rfl) ?_
    refine WLi.yield rfl rfl rfl (hY k wz (by omega) hj) (fun w1 hj1 => ?_)
    refine WLi.pure rfl rfl rfl (PV.not rfl) ?_
    refine WLi.nilS ?_
    refine CW.condF rfl ?_
    refine CW.skip ?_
    refine NQ.block ?_
    refine NQ.then ?_
    refine CW.reg ?_
    refine WL.pure rfl rfl rfl (PV.move rfl) ?_
    refine WL.pure rfl rfl rfl (PV.sub rfl rfl (by constructor <;> omega)) ?_
    refine WL.pure rfl rfl rfl (PV.assign rfl) ?_
    refine WL.nil ?_
    refine NQ.next (ρ := [(3, _)]) ⟨rfl, rfl, rfl, trivial⟩ ⟨_, ⟨k + 1, congrArg (fun z => [(3, Value.int .i64 z)]) (by omega), rfl, by omega, hj1⟩, by omega⟩
  · simp only [decide_eq_false_iff_not] at hc
    refine CW.exit ?_
    first
      | refine XQ.then (XQ.then (XQ.here (NQ.r0 ?_)))
      | refine XQ.then (XQ.here (NQ.r0 ?_))
      | refine XQ.then (XQ.then (XQ.here (NQ.then ?_)))
    obtain rfl : k = xs.length := by omega
    exact hj
theorem c_impl_foldTree_int64 {w : World} {L : Int} {tr : Tre} {fl : Int → Int} {fb : Int → Int → Int} {PS : Int → Prop} {vt vl vb : Value} (ht : Rd EI w vt (flatT tr)) (hT : okTr L tr) (h23 : (flatT tr).length ≤ 23) (kl : vl.cells = #[vl]) (kb : vb.cells = #[vb]) (hleaf : ∀ x W, Ext w W → 0 ≤ x ∧ x ≤ L - 1 → FvC Try.prog vl [.int .i64 x] W (RQt (.int .i64 (fl x)) W)) (hbr : ∀ a b W, Ext w W → PS a → PS b → FvC Try.prog vb [.int .i64 a, .int .i64 b] W (RQt (.int .i64 (fb a b)) W)) (hPl : ∀ x, 0 ≤ x ∧ x ≤ L - 1 → PS (fl x)) (hPb : ∀ a b, PS a → PS b → PS (fb a b)) : Calls Try.prog 129 #[vt, vl, vb] w (Ret1 (RQt (.int .i64 (evT fl fb tr)) w)) := by
  have hB : Ext w w := Ext.refl w
  refine callsOfM (vs := [_, _, _]) Try.func129 rfl Try.ntmps129 rfl ?_
  refine CW.seq ?_
  refine CW.reg ?_
  refine WL.op rfl (OpK.box rfl rfl (by first | exact Rd.cells1 (by assumption) | exact Osl.cells1 (by assumption) | exact Osn.cells1 (by assumption) | exact Rd.cells1 (NL.rd (by assumption)) | exact Inn.cell1 (by assumption) (by omega) | assumption | rfl) (fun b1 w1 hXw1 hb1 hge1 => ?_))
  have hl1 := Lo.new hB hge1
  have hB := hB.trans hXw1
  refine WL.op rfl (OpK.box rfl rfl (by first | exact Rd.cells1 (by assumption) | exact Osl.cells1 (by assumption) | exact Osn.cells1 (by assumption) | exact Rd.cells1 (NL.rd (by assumption)) | exact Inn.cell1 (by assumption) (by omega) | assumption | rfl) (fun b2 w2 hXw2 hb2 hge2 => ?_))
  have hl2 := Lo.new hB hge2
  have hd1_2 := Dj.new hb1.ltO hge2
  have hB := hB.trans hXw2
  have hb1 := hb1.up hXw2
  refine WL.asg rfl rfl ?_
  refine WL.nilS ?_
  refine CW.seq ?_
  refine CW.reg ?_
  refine WL.op rfl (OpK.buildS VI (os := []) [] rfl T.sl28 rfl rfl T.zv2 rfl (by intro z hz; cases hz) rfl (fun v3 g3 w3 hXw3 ho3 hge3 => ?_))
  have hl3 := Lo.new hB hge3
  have hd1_3 := Dj.new hb1.ltO hge3
  have hd2_3 := Dj.new hb2.ltO hge3
  have hB := hB.trans hXw3
  have hb1 := hb1.up hXw3
  have hb2 := hb2.up hXw3
  refine WL.op rfl (OpK.alloc rfl T.zv28 rfl (fun b4 w4 hXw4 hb4 hge4 => ?_))
  have hl4 := Lo.new hB hge4
  have hd1_4 := Dj.new hb1.ltO hge4
  have hd2_4 := Dj.new hb2.ltO hge4
  have hd3_4 := Dj.new ho3.ltO hge4
  have hB := hB.trans hXw4
  have hb1 := hb1.up hXw4
  have hb2 := hb2.up hXw4
  have ho3 := ho3.up hXw4
  refine WL.op rfl (OpK.storeB0 T.sz28 rfl rfl (by first | rfl | exact Inn.one1 (by assumption) (by omega) | exact Osl.oneCell (by assumption) | exact Osn.oneCell (by assumption) | exact Rd.oneCell (by assumption) | exact Rd.oneCell (NL.rd (by assumption)) | assumption) hb4 (fun w5 hXw5 hb4 => ?_))
  have hB := hB.updL hXw5 hl4
  have hb1 := hb1.updD hXw5 hd1_4
  have hb2 := hb2.updD hXw5 hd2_4
  have ho3 := ho3.updD hXw5 hd3_4
  refine WL.nilS ?_
  refine CW.seq ?_
  refine CW.seq ?_
  refine CW.reg ?_
  refine WL.mv rfl rfl ?_
  refine WL.op rfl (OpK.call rfl T.cf200 rfl (c_slices_Backward_int64_int64 (by first | assumption | exact Rd.up (by assumption) hB | exact Osl.rd (by assumption) | exact Osn.rdR (by assumption) | exact NL.rd (by assumption) | exact rdII (by assumption) (by assumption) | exact Inn.rd (by assumption) (by omega))) (fun rv1 w6 hR => ?_))
  obtain ⟨hXw6, b5, rfl, hb5, hge5⟩ := hR
  have hl5 := Lo.new hB hge5
  have hd1_5 := Dj.new hb1.ltO hge5
  have hd2_5 := Dj.new hb2.ltO hge5
  have hd3_5 := Dj.new ho3.ltO hge5
  have hd4_5 := Dj.new hb4.ltO hge5
  have hB := hB.trans hXw6
  have hb1 := hb1.up hXw6
  have hb2 := hb2.up hXw6
  have ho3 := ho3.up hXw6
  have hb4 := hb4.up hXw6
  refine WL.nilS ?_
  refine CW.block ?_
  have hsz := hB.size
  refine CW.rangeFunc (lb := [_]) rfl T.cf226 rfl rfl ((flatT tr).length) (fun k => .int .i64 (((flatT tr).length : Int) - 1 - (k : Nat))) (fun k => .int .i64 ((flatT tr).getD ((flatT tr).length - 1 - k) 0)) (fun k W => ∃ (v : Value) (og : Option Nat) (sk : List (Int)), Ext w W ∧ Bx W b4 [v] ∧ Osl VI W og v sk ∧ Lo w og ∧ Dj (some b4.block) og ∧ Bx W b1 [vl] ∧ Dj (some b1.block) og ∧ Bx W b2 [vb] ∧ Dj (some b2.block) og ∧ Bx W b5 [vt] ∧ Dj (some b5.block) og ∧ (FI L tr fl fb k sk)) ?_ ⟨_, _, _, hB, hb4, ho3, hl3, (Dj.symm hd3_4), hb1, hd1_3, hb2, hd2_3, hb5, (Dj.symm hd3_5), (by exact FI.zero _ _ _ _)⟩ ?_ (fun k => [(9, .int .i64 ((flatT tr).getD ((flatT tr).length - 1 - k) 0)), (15, .int .i64 ((flatT tr).getD ((flatT tr).length - 1 - k) 0)), (14, .int .i64 (((flatT tr).length : Int) - 1 - (k : Nat)))]) ?_ ?_ ?_
  · intro k W8 W9 row hj hg9 hr9
    obtain ⟨v9, og9, sk9, h1, h2, h3, h4, h5, hc1_, hc1_d, hc2_, hc2_d, hc5_, hc5_d, h9⟩ := hj
    exact ⟨v9, og9, sk9, h1.abd hg9 hr9 hsz, h2.abd hg9 hr9, h3.abd hg9 hr9, h4, h5, hc1_.abd hg9 hr9, hc1_d, hc2_.abd hg9 hr9, hc2_d, hc5_.abd hg9 hr9, hc5_d, h9⟩
  · intro l9 J9 W9 hJ9 hR9 h09
    exact c_bw J9 (fun k W8 hj => by obtain ⟨v9, og9, sk9, h1, h2, h3, h4, h5, hc1_, hc1_d, hc2_, hc2_d, hc5_, hc5_d, h9⟩ := hJ9 k W8 hj; exact ⟨hc5_, Rd.up ht h1⟩) hR9 h09
  · intro l9 k W9 K9 hK9
    refine CWr.reg (by repeat first | exact NoOut.rf | exact NoOut.fl | refine NoOut.then ?_ | refine NoOut.block ?_) rfl ?_
    refine WL.pure rfl rfl rfl (PV.assign rfl) ?_
    exact WL.nil (fun a9 ha9 => hK9 a9 ha9)
  · rintro l9 k wr1 hk9 ⟨v6, og6, sk, hB, hb4, ho6, hl6, hd4_6, hb1, hd1_6, hb2, hd2_6, hb5, hd5_6, hinv⟩
    have hUY : UpdL [(some b4.block), og6] wr1 wr1 := UpdL.refl _ _
    have hkY_4 : OkB [(some b4.block), og6] wr1 (some b4.block) := OkB.mem (by simp)
    have hgY_4 := OgR.refl wr1 (some b4.block)
    have hkY_6 : OkB [(some b4.block), og6] wr1 og6 := OkB.mem (by simp)
    have hgY_6 := OgR.refl wr1 og6
    have hkB0 := hb4.isC; have hkO0 := ho6.isC
    have hln := hinv.len (by omega)
    refine CWr.block ?_
    refine CWr.seq ?_
    refine CWr.seq ?_
    refine CWr.reg (by repeat first | exact NoOut.rf | exact NoOut.fl | refine NoOut.then ?_ | refine NoOut.block ?_) rfl ?_
    refine WL.pure rfl rfl rfl (PV.move rfl) ?_
    refine WL.pure rfl rfl rfl (PV.geq rfl rfl) ?_
    refine WL.nilSr ?_
    refine CWr.cond rfl (fun hc1 => ?_) (fun hc1 => ?_)
    · skip
      try simp only [nq] at hc1
      refine CWr.seq ?_
      refine CWr.draw (by repeat first | exact NoOut.rf | exact NoOut.fl | refine NoOut.then ?_ | refine NoOut.block ?_) (by kernel_rfl) T.mixed (by kernel_rfl) (fun _ _ _ _ _ h => h) (fun w8 w9 => Upd og6 w8 w9) 6 (.take 0 (.take 1 (.take 2 (.must 3 (.must 4 (.must 5 (.must 6 .done))))))) (by kernel_rfl) (fun w7 hXd => ?_)
      have hB := hB.trans hXd
      have hb4 := hb4.up hXd
      have hb1 := hb1.up hXd
      have hb2 := hb2.up hXd
      have hb5 := hb5.up hXd
      have ho6 := ho6.up hXd
      have hUY := hUY.ext hXd
      have hBr := hB
      have hS : Upd og6 w7 w7 := Ext.toUpd (Ext.refl _)
      refine HP.take rfl rfl rfl rfl hS (fun wS hS1 => PV.load0 T.na28 rfl (Bx.cells (Bx.updD (by assumption) hS1 (by first | assumption | exact Dj.symm (by assumption)))) (Ext.refl _) rfl) ?_
      refine HP.take rfl rfl rfl rfl hS (fun wS hS1 => PV.load0 T.na125 rfl (Bx.cells (Bx.updD (by assumption) hS1 (by first | assumption | exact Dj.symm (by assumption)))) (Ext.refl _) rfl) ?_
      refine HP.take rfl rfl rfl rfl hS (fun wS hS1 => PV.move rfl) ?_
      refine HP.must rfl rfl (OpK.callFvR rfl rfl rfl (hleaf _ _ hB (FI.mem hT hk9 (by omega))) (fun w8 hXw8 => ?_))
      refine ⟨Upd.trans hS (Ext.toUpd hXw8), ?_⟩
      have hS := Upd.trans hS (Ext.toUpd hXw8)
      have hB := hB.trans hXw8
      have hb4 := hb4.up hXw8
      have hb1 := hb1.up hXw8
      have hb2 := hb2.up hXw8
      have hb5 := hb5.up hXw8
      have ho6 := ho6.up hXw8
      have hUY := hUY.ext hXw8
      refine HP.must rfl rfl (OpK.buildS VI (os := [.tmp 21]) [_] rfl T.sl28 rfl rfl T.zv2 rfl (by intro z hz; first | rfl | (simp only [List.mem_cons, List.not_mem_nil, or_false] at hz; subst hz; exact (by first | exact Rd.cells1 (by assumption) | exact Osl.cells1 (by assumption) | exact Osn.cells1 (by assumption) | exact Rd.cells1 (NL.rd (by assumption)) | exact Inn.cell1 (by assumption) (by omega) | assumption | rfl))) rfl (fun v7 g7 w9 hXw9 ho7 hge7 => ?_))
      have hl7 := Lo.new hB hge7
      have hd4_7 := Dj.new hb4.ltO hge7
      have hd1_7 := Dj.new hb1.ltO hge7
      have hd2_7 := Dj.new hb2.ltO hge7
      have hd5_7 := Dj.new hb5.ltO hge7
      have hd6_7 := Dj.new ho6.ltO hge7
      have hkY_7 := OkN.new hUY hge7
      have hgY_7 := OgR.new hUY.size hge7
      refine ⟨Upd.trans hS (Ext.toUpd hXw9), ?_⟩
      have hS := Upd.trans hS (Ext.toUpd hXw9)
      have hB := hB.trans hXw9
      have hb4 := hb4.up hXw9
      have hb1 := hb1.up hXw9
      have hb2 := hb2.up hXw9
      have hb5 := hb5.up hXw9
      have ho6 := ho6.up hXw9
      have hUY := hUY.ext hXw9
      refine HP.must rfl rfl (OpK.appendS (f := VI) rfl T.sl28 T.zv2 rfl rfl ho6 rfl (Osl.src ho7 (fun _ => rfl)) (by first | (simp only [List.length_cons, List.length_nil]; omega) | (simp_all; omega)) (fun v8 og8 w10 hXw10 ho8 hap8 => ?_))
      have hl8 := Lo.app hl6 hB hap8
      have hd4_8 := Dj.app hd4_6 hb4.ltO hap8
      have hd1_8 := Dj.app hd1_6 hb1.ltO hap8
      have hd2_8 := Dj.app hd2_6 hb2.ltO hap8
      have hd5_8 := Dj.app hd5_6 hb5.ltO hap8
      have hd7_8 := Dj.app (Dj.symm hd6_7) ho7.ltO hap8
      have hkY_8 := OkN.app hUY hkY_6 hap8
      have hgY_8 := OgR.app hgY_6 hUY.size hap8
      refine ⟨Upd.trans hS hXw10, ?_⟩
      have hS := Upd.trans hS hXw10
      have hB := hB.updL hXw10 hl6
      have hb4 := hb4.updD hXw10 hd4_6
      have hb1 := hb1.updD hXw10 hd1_6
      have hb2 := hb2.updD hXw10 hd2_6
      have hb5 := hb5.updD hXw10 hd5_6
      have ho7 := ho7.updD hXw10 (Dj.symm hd6_7)
      have hUY := hUY.step hXw10 hkY_6
      refine HP.last rfl rfl (OpK.storeB0 T.sz28 rfl rfl (by first | rfl | exact Inn.one1 (by assumption) (by omega) | exact Osl.oneCell (by assumption) | exact Osn.oneCell (by assumption) | exact Rd.oneCell (by assumption) | exact Rd.oneCell (NL.rd (by assumption)) | assumption) hb4 (fun w11 hXw11 hb4 => ?_))
      have hB := hB.updL hXw11 hl4
      have hb1 := hb1.updD hXw11 hd1_4
      have hb2 := hb2.updD hXw11 hd2_4
      have hb5 := hb5.updD hXw11 (Dj.symm hd4_5)
      have ho7 := ho7.updD hXw11 (Dj.symm hd4_7)
      have ho8 := ho8.updD hXw11 (Dj.symm hd4_8)
      have hUY := hUY.step hXw11 hkY_4
      refine HP.doneSr ?_
      refine CWr.exit ?_
      refine XQ.then ?_
      refine XQ.here ?_
      exact fun a9 ha9 => ⟨keeps_upd hUY ⟨hkB0, hkO0, trivial⟩, v8, og8, _, hB, hb4, osE ho8 (by rfl), hl8, hd4_8, hb1, hd1_8, hb2, hd2_8, hb5, hd5_8, (by exact hinv.leaf hT hk9 (by omega))⟩
    try simp only [nq] at hc1
    refine CWr.skipS ?_
    refine CWr.seq ?_
    refine CWr.reg (by repeat first | exact NoOut.rf | exact NoOut.fl | refine NoOut.then ?_ | refine NoOut.block ?_) rfl ?_
    have h2l := hinv.two hT hk9 (by omega)
    refine WL.pure rfl rfl rfl (PV.load0 T.na28 rfl hb4.cells (Ext.refl _) rfl) ?_
    refine WL.pure rfl rfl rfl ((PV.lenOs rfl ho6 T.sl28)) ?_
    refine WL.pure rfl rfl rfl (PV.sub rfl rfl (by constructor <;> omega)) ?_
    refine WL.pure rfl rfl rfl (PV.assign rfl) ?_
    refine WL.nilSr ?_
    refine CWr.seq ?_
    refine CWr.draw (by repeat first | exact NoOut.rf | exact NoOut.fl | refine NoOut.then ?_ | refine NoOut.block ?_) (by kernel_rfl) T.mixed (by kernel_rfl) (fun _ _ _ _ _ h => h) (fun w8 w9 => Upd none w8 w9) 15 (.take 0 (.take 1 (.take 2 (.take 3 (.take 4 (.take 5 (.take 6 (.take 7 (.take 8 (.take 9 (.take 10 (.take 11 (.take 12 (.must 13 (.take 14 (.must 15 .done)))))))))))))))) (by kernel_rfl) (fun w12 hXd => ?_)
    have hB := hB.trans hXd
    have hb4 := hb4.up hXd
    have hb1 := hb1.up hXd
    have hb2 := hb2.up hXd
    have hb5 := hb5.up hXd
    have ho6 := ho6.up hXd
    have hUY := hUY.ext hXd
    have hBr := hB
    have hS : Upd none w12 w12 := Ext.toUpd (Ext.refl _)
    refine HP.take rfl rfl rfl rfl hS (fun wS hS1 => PV.load0 T.na28 rfl (Bx.cells (Bx.updD (by assumption) hS1 (Dj.nlR _))) (Ext.refl _) rfl) ?_
    refine HP.take rfl rfl rfl rfl hS (fun wS hS1 => PV.move rfl) ?_
    refine HP.take rfl rfl rfl rfl hS (fun wS hS1 => PV.sub rfl rfl (by constructor <;> omega)) ?_
    refine HP.take rfl rfl rfl rfl hS (fun wS hS1 => PV.load0 T.na58 rfl (Bx.cells (Bx.updD (by assumption) hS1 (Dj.nlR _))) (Ext.refl _) rfl) ?_
    refine HP.take rfl rfl rfl rfl hS (fun wS hS1 => PV.load0 T.na28 rfl (Bx.cells (Bx.updD (by assumption) hS1 (Dj.nlR _))) (Ext.refl _) rfl) ?_
    refine HP.take rfl rfl rfl rfl hS (fun wS hS1 => PV.move rfl) ?_
    first
      | refine HP.atO (wb := w12) (x := .tmp 31) (y := .tmp 32) (f := VI) (0) rfl rfl (by assumption) (by omega) (fun p1 hpp1 hcp1 => ?_)
      | refine HP.atOZ (wb := w12) (x := .tmp 31) (y := .tmp 32) (f := VI) (0) rfl rfl (by assumption) (by omega) (fun p1 hpp1 hzp1 hcp1 => ?_)
    refine HP.take rfl rfl rfl rfl hS (fun wS hS1 => (by first | exact PV.indexAddr hpp1 rfl rfl T.sl28 | exact PV.indexAddr hpp1 rfl (by rw [← hzp1]; rfl) T.sl28)) ?_
    refine HP.take rfl rfl rfl rfl hS (fun wS hS1 => (by first | exact PV.load0 T.na2 rfl (by first | exact Cells.up (by assumption) (hBr.trans hS1) | exact Bx.cells (Bx.updD (by assumption) hS1 (Dj.nlR _)) | exact Cells.upd (by assumption) hS1 (by simp)) (Ext.refl _) rfl | exact PV.load1 T.na2 rfl (by first | exact Cells.up (by assumption) (hBr.trans hS1) | exact Bx.cells (Bx.updD (by assumption) hS1 (Dj.nlR _)) | exact Cells.upd (by assumption) hS1 (by simp)) (Ext.refl _) rfl)) ?_
    refine HP.take rfl rfl rfl rfl hS (fun wS hS1 => PV.load0 T.na28 rfl (Bx.cells (Bx.updD (by assumption) hS1 (Dj.nlR _))) (Ext.refl _) rfl) ?_
    refine HP.take rfl rfl rfl rfl hS (fun wS hS1 => PV.move rfl) ?_
    refine HP.take rfl rfl rfl rfl hS (fun wS hS1 => PV.sub rfl rfl (by constructor <;> omega)) ?_
    first
      | refine HP.atO (wb := w12) (x := .tmp 35) (y := .tmp 37) (f := VI) (0) rfl rfl (by assumption) (by omega) (fun p2 hpp2 hcp2 => ?_)
      | refine HP.atOZ (wb := w12) (x := .tmp 35) (y := .tmp 37) (f := VI) (0) rfl rfl (by assumption) (by omega) (fun p2 hpp2 hzp2 hcp2 => ?_)
    refine HP.take rfl rfl rfl rfl hS (fun wS hS1 => (by first | exact PV.indexAddr hpp2 rfl rfl T.sl28 | exact PV.indexAddr hpp2 rfl (by rw [← hzp2]; rfl) T.sl28)) ?_
    refine HP.take rfl rfl rfl rfl hS (fun wS hS1 => (by first | exact PV.load0 T.na2 rfl (by first | exact Cells.up (by assumption) (hBr.trans hS1) | exact Bx.cells (Bx.updD (by assumption) hS1 (Dj.nlR _)) | exact Cells.upd (by assumption) hS1 (by simp)) (Ext.refl _) rfl | exact PV.load1 T.na2 rfl (by first | exact Cells.up (by assumption) (hBr.trans hS1) | exact Bx.cells (Bx.updD (by assumption) hS1 (Dj.nlR _)) | exact Cells.upd (by assumption) hS1 (by simp)) (Ext.refl _) rfl)) ?_
    refine HP.must rfl rfl (OpK.callFvR rfl rfl rfl (hbr _ _ _ hB (hinv.P hPl hPb (by omega)) (hinv.P hPl hPb (by omega))) (fun w13 hXw13 => ?_))
    refine ⟨Upd.trans hS hXw13, ?_⟩
    have hS := Upd.trans hS hXw13
    have hB := hB.trans hXw13
    have hb4 := hb4.up hXw13
    have hb1 := hb1.up hXw13
    have hb2 := hb2.up hXw13
    have hb5 := hb5.up hXw13
    have ho6 := ho6.up hXw13
    have hUY := hUY.ext hXw13
    first
      | refine HP.atO (wb := w12) (x := .tmp 27) (y := .tmp 29) (f := VI) (0) rfl rfl (by assumption) (by omega) (fun p3 hpp3 hcp3 => ?_)
      | refine HP.atOZ (wb := w12) (x := .tmp 27) (y := .tmp 29) (f := VI) (0) rfl rfl (by assumption) (by omega) (fun p3 hpp3 hzp3 hcp3 => ?_)
    refine HP.take rfl rfl rfl rfl hS (fun wS hS1 => (by first | exact PV.indexAddr hpp3 rfl rfl T.sl28 | exact PV.indexAddr hpp3 rfl (by rw [← hzp3]; rfl) T.sl28)) ?_
    refine HP.last rfl rfl (OpK.storeS VI T.sz2 rfl rfl rfl hpp3 ho6 (fun w14 hXw14 ho6 => ?_))
    have hB := hB.updL hXw14 hl6
    have hb4 := hb4.updD hXw14 hd4_6
    have hb1 := hb1.updD hXw14 hd1_6
    have hb2 := hb2.updD hXw14 hd2_6
    have hb5 := hb5.updD hXw14 hd5_6
    have hUY := hUY.step hXw14 hkY_6
    refine HP.doneSr ?_
    refine CWr.reg (by repeat first | exact NoOut.rf | exact NoOut.fl | refine NoOut.then ?_ | refine NoOut.block ?_) rfl ?_
    refine WL.pure rfl rfl rfl (PV.load0 T.na28 rfl hb4.cells (Ext.refl _) rfl) ?_
    refine WL.pure rfl rfl rfl (PV.move rfl) ?_
    refine WL.slO (x := .tmp 42) (hi := .tmp 43) T.sl28 rfl rfl rfl ho6 (by first | omega | (simp; omega) | (simp_all; omega)) (fun u1 huu1 hou1 => ?_)
    refine WL.pure rfl rfl rfl ((huu1 _ _ _ _ _ _)) ?_
    have ho9 := hou1
    have hl9 := hl6
    have hd4_9 := hd4_6
    have hd1_9 := hd1_6
    have hd2_9 := hd2_6
    have hd5_9 := hd5_6
    have hkY_9 := hkY_6
    have hgY_9 := hgY_6
    refine WL.op rfl (OpK.storeB0 T.sz28 rfl rfl (by first | rfl | exact Inn.one1 (by assumption) (by omega) | exact Osl.oneCell (by assumption) | exact Osn.oneCell (by assumption) | exact Rd.oneCell (by assumption) | exact Rd.oneCell (NL.rd (by assumption)) | assumption) hb4 (fun w15 hXw15 hb4 => ?_))
    have hB := hB.updL hXw15 hl4
    have hb1 := hb1.updD hXw15 hd1_4
    have hb2 := hb2.updD hXw15 hd2_4
    have hb5 := hb5.updD hXw15 (Dj.symm hd4_5)
    have ho9 := ho9.updD hXw15 (Dj.symm hd4_9)
    have hUY := hUY.step hXw15 hkY_4
    refine WL.nil ?_
    refine NQ.block ?_
    exact fun a9 ha9 => ⟨keeps_upd hUY ⟨hkB0, hkO0, trivial⟩, u1, og6, _, hB, hb4, osE ho9 (by rfl), hl9, hd4_9, hb1, hd1_9, hb2, hd2_9, hb5, hd5_9, (by exact hinv.node hT hk9 (by omega) (by omega) (by omega) 0)⟩
  · rintro wr1 D hDW ⟨v6, og6, sk, hB, hb4, ho6, hl6, hd4_6, hb1, hd1_6, hb2, hd2_6, hb5, hd5_6, hinv⟩ hD
    obtain rfl := hinv.end hT (by omega)
    refine NQd.block ?_
    refine NQd.then ?_
    refine CWd.seq ?_
    refine CWd.reg ?_
    refine WLd.pure rfl rfl rfl (PV.load0 T.na28 rfl hb4.cells (Ext.refl _) rfl) ?_
    first
      | refine WLd.atO (x := .tmp 45) (y := .const (.int .i64 0)) (f := VI) (0) rfl rfl ho6 (by simp) (fun p4 hpp4 hcp4 => ?_)
      | refine WLd.atOZ (x := .tmp 45) (y := .const (.int .i64 0)) (f := VI) (0) rfl rfl ho6 (by simp) (fun p4 hpp4 hzp4 hcp4 => ?_)
    refine WLd.pure rfl rfl rfl ((by first | exact PV.indexAddr hpp4 rfl rfl T.sl28 | exact PV.indexAddr hpp4 rfl (by rw [← hzp4]; rfl) T.sl28)) ?_
    refine WLd.pure rfl rfl rfl ((by first | exact PV.load0 T.na2 rfl (by first | exact Cells.up (by assumption) hB | exact Bx.cells (by assumption) | assumption) (Ext.refl _) rfl | exact PV.load1 T.na2 rfl (by first | exact Cells.up (by assumption) hB | exact Bx.cells (by assumption) | assumption) (Ext.refl _) rfl)) ?_
    refine WLd.pure rfl rfl rfl (PV.assign rfl) ?_
    refine WLd.nilS ?_
    refine CWd.ret (fun a9 ha9 => bodyM1 rfl ha9 rfl hD ?_)
    refine ⟨?_, Ext.putD hB _ (Nat.le_trans hsz hDW)⟩
    first | rfl | exact bT (by omega) | exact bF (by omega) | exact bD (by omega) | exact iE (by omega) | (simp_all; done) | (simp_all; omega) | (simp_all; intros; omega)
theorem c_impl_DeepOfTree_1 {w : World} {x : Int} : Calls Try.prog 130 #[.int .i64 x] w (Ret1 (RQt (.int .i64 0) w)) := by
  have hB : Ext w w := Ext.refl w
  refine callsOf (vs := [_]) Try.func130 rfl Try.ntmps130 rfl rfl ?_
  refine CW.seq ?_
  refine CW.reg ?_
  refine WL.asg rfl rfl ?_
  refine WL.nilS ?_
  refine CW.seq ?_
  refine CW.reg ?_
  refine WL.asg rfl rfl ?_
  refine WL.nilS ?_
  refine CW.ret ?_
  refine RQ.r1 rfl ?_
  refine ⟨?_, hB⟩
  first | rfl | exact bT (by omega) | exact bF (by omega) | exact bD (by omega) | exact iE (by omega) | (simp_all; done) | (simp_all; omega) | (simp_all; intros; omega)
theorem c_impl_DeepOfTree_2 {w : World} {x y : Int} : Calls Try.prog 131 #[.int .i64 x, .int .i64 y] w (Ret1 (RQt (.int .i64 (fbDeep x y)) w)) := by
  have hB : Ext w w := Ext.refl w
  refine callsOf (vs := [_, _]) Try.func131 rfl Try.ntmps131 rfl rfl ?_
  refine CW.seq ?_
  refine CW.reg ?_
  refine WL.asg rfl rfl ?_
  refine WL.nilS ?_
  refine CW.seq ?_
  refine CW.reg ?_
  refine WL.mv rfl rfl ?_
  refine WL.mv rfl rfl ?_
  refine WL.pure rfl rfl rfl (PV.max2 rfl rfl) ?_
  refine WL.pure rfl rfl rfl (PV.addW rfl rfl) ?_
  refine WL.asg rfl rfl ?_
  refine WL.nilS ?_
  refine CW.ret ?_
  refine RQ.r1 rfl ?_
  refine ⟨?_, hB⟩
  rfl
theorem c_impl_DeepOfTree {w : World} {vt : Value} {xs : List Int} (ht : Rd EI w vt xs) (hN : xs.length ≤ 1048576) : Calls Try.prog 46 #[vt] w (Ret1 (RQt (.tuple #[.int .i64 (dpL 4 xs), .bool (treeB 4 xs)]) w)) := by
  have hB : Ext w w := Ext.refl w
  refine callsOf (vs := [_]) Try.func46 rfl Try.ntmps46 rfl rfl ?_
  refine CW.seq ?_
  refine CW.reg ?_
  refine WL.asg rfl rfl ?_
  refine WL.asg rfl rfl ?_
  refine WL.nilS ?_
  refine CW.seq ?_
  refine CW.seq ?_
  refine CW.reg ?_
  refine WL.mv rfl rfl ?_
  refine WL.op rfl (OpK.callR rfl T.cf48 rfl (c_impl_IsTree (by first | assumption | exact Rd.up (by assumption) hB | exact Osl.rd (by assumption) | exact Osn.rdR (by assumption) | exact NL.rd (by assumption) | exact rdII (by assumption) (by assumption) | exact Inn.rd (by assumption) (by omega)) (by first | assumption | omega | (simp only [marks_len, marksB_len, marksR_len]; omega))) (fun w1 hXw1 => ?_))
  have hB := hB.trans hXw1
  refine WL.pure rfl rfl rfl (PV.not rfl) ?_
  refine WL.nilS ?_
  refine CW.cond rfl (fun hc1 => ?_) (fun hc1 => ?_)
  · skip
    try simp only [nq] at hc1
    rw [isTreeB4] at hc1
    refine CW.seq ?_
    refine CW.reg ?_
    refine WL.asg rfl rfl ?_
    refine WL.asg rfl rfl ?_
    refine WL.nilS ?_
    refine CW.ret ?_
    refine RQ.then ?_
    refine RQ.r2 rfl rfl ?_
    refine ⟨?_, hB⟩
    first | (exact tE2 (by rw [dpL_no (by assumption)]) (bE (by simp_all))) | (exact tE2 (by rw [dpL_yes hT h23, ev_deep _ h23]) (bE (by simp_all)))
  try simp only [nq] at hc1
  rw [isTreeB4] at hc1; obtain ⟨tr, rfl, hT⟩ := tree_of (by assumption : treeB 4 _ = true); have h23 : (flatT tr).length ≤ 23 := (by have h9 := (by assumption : treeB 4 (flatT tr) = true); simp only [treeB, decide_eq_true_eq] at h9; exact h9.1); have hT4 := hT
  refine CW.skipS ?_
  refine CW.seq ?_
  refine CW.reg ?_
  refine WL.mv rfl rfl ?_
  refine WL.op rfl (OpK.callR rfl T.cf129 rfl (c_impl_foldTree_int64 (fl := (fun _ => 0)) (fb := fbDeep) (PS := (fun _ => True)) (ht.up hB) hT4 h23 rfl rfl (fun x W hW hx => ⟨130, [], [], rfl, (by kernel_rfl), c_impl_DeepOfTree_1⟩) (fun x y W hW hx hy => ⟨131, [], [], rfl, (by kernel_rfl), c_impl_DeepOfTree_2⟩) (fun _ _ => trivial) (fun _ _ _ _ => trivial)) (fun w2 hXw2 => ?_))
  have hB := hB.trans hXw2
  refine WL.asg rfl rfl ?_
  refine WL.asg rfl rfl ?_
  refine WL.nilS ?_
  refine CW.ret ?_
  refine RQ.r2 rfl rfl ?_
  refine ⟨?_, hB⟩
  first | (exact tE2 (by rw [dpL_no (by assumption)]) (bE (by simp_all))) | (exact tE2 (by rw [dpL_yes hT h23, ev_deep _ h23]) (bE (by simp_all)))
theorem c_impl_MirrorTree_1 {w : World} {x : Int} : Calls Try.prog 132 #[.int .i64 x] w (Ret1 (fun v w' => Ext w w' ∧ ∃ u og_u, v = u ∧ Osl VI w' og_u u ([x]) ∧ Lo w og_u)) := by
  have hB : Ext w w := Ext.refl w
  refine callsOf (vs := [_]) Try.func132 rfl Try.ntmps132 rfl rfl ?_
  refine CW.seq ?_
  refine CW.reg ?_
  refine WL.asg rfl rfl ?_
  refine WL.nilS ?_
  refine CW.seq ?_
  refine CW.reg ?_
  refine WL.mv rfl rfl ?_
  refine WL.op rfl (OpK.buildS VI (os := [.tmp 3]) [_] rfl T.sl28 rfl rfl T.zv2 rfl (by intro z hz; first | rfl | (simp only [List.mem_cons, List.not_mem_nil, or_false] at hz; subst hz; exact (by first | exact Rd.cells1 (by assumption) | exact Osl.cells1 (by assumption) | exact Osn.cells1 (by assumption) | exact Rd.cells1 (NL.rd (by assumption)) | exact Inn.cell1 (by assumption) (by omega) | assumption | rfl))) rfl (fun v1 g1 w1 hXw1 ho1 hge1 => ?_))
  have hl1 := Lo.new hB hge1
  have hB := hB.trans hXw1
  refine WL.asg rfl rfl ?_
  refine WL.nilS ?_
  refine CW.ret ?_
  refine RQ.r1 rfl ?_
  refine ⟨hB, v1, (some g1), ?_, osE ho1 ?_, hl1⟩
  · skip
    rfl
  · skip
    rfl
theorem c_impl_foldTree_int64_m {w : World} {L : Int} {tr : Tre} {vt vl vb : Value} (ht : Rd EI w vt (flatT tr)) (hT : okTr L tr) (h23 : (flatT tr).length ≤ 23) (kl : vl.cells = #[vl]) (kb : vb.cells = #[vb]) (hleaf : ∀ x W, Ext w W → 0 ≤ x ∧ x ≤ L - 1 → FvC Try.prog vl [.int .i64 x] W (fun v W2 => Ext W W2 ∧ ∃ u og, v = u ∧ Osl VI W2 og u ([x]) ∧ Lo W og)) (hbr : ∀ va vc xa xb W, Ext w W → Rd EI W va xa → Rd EI W vc xb → xa.length ≤ 23 → xb.length ≤ 23 → FvC Try.prog vb [va, vc] W (fun v W2 => Ext W W2 ∧ ∃ u og, v = u ∧ Osl VI W2 og u (-1 :: (xb ++ xa)) ∧ Lo W og)) : Calls Try.prog 133 #[vt, vl, vb] w (Ret1 (fun v w' => Ext w w' ∧ ∃ u og_u, v = u ∧ Osl VI w' og_u u (flatT (mirT tr)) ∧ Lo w og_u)) := by
  have hB : Ext w w := Ext.refl w
  refine callsOfM (vs := [_, _, _]) Try.func133 rfl Try.ntmps133 rfl ?_
  refine CW.seq ?_
  refine CW.reg ?_
  refine WL.op rfl (OpK.box rfl rfl (by first | exact Rd.cells1 (by assumption) | exact Osl.cells1 (by assumption) | exact Osn.cells1 (by assumption) | exact Rd.cells1 (NL.rd (by assumption)) | exact Inn.cell1 (by assumption) (by omega) | assumption | rfl) (fun b1 w1 hXw1 hb1 hge1 => ?_))
  have hl1 := Lo.new hB hge1
  have hB := hB.trans hXw1
  refine WL.op rfl (OpK.box rfl rfl (by first | exact Rd.cells1 (by assumption) | exact Osl.cells1 (by assumption) | exact Osn.cells1 (by assumption) | exact Rd.cells1 (NL.rd (by assumption)) | exact Inn.cell1 (by assumption) (by omega) | assumption | rfl) (fun b2 w2 hXw2 hb2 hge2 => ?_))
  have hl2 := Lo.new hB hge2
  have hd1_2 := Dj.new hb1.ltO hge2
  have hB := hB.trans hXw2
  have hb1 := hb1.up hXw2
  refine WL.asg rfl rfl ?_
  refine WL.nilS ?_
  refine CW.seq ?_
  refine CW.reg ?_
  refine WL.op rfl (OpK.buildS VV (os := []) [] rfl T.sl25 rfl rfl T.zv28 rfl (by intro z hz; cases hz) rfl (fun v3 g3 w3 hXw3 ho3 hge3 => ?_))
  have hl3 := Lo.new hB hge3
  have hd1_3 := Dj.new hb1.ltO hge3
  have hd2_3 := Dj.new hb2.ltO hge3
  have hB := hB.trans hXw3
  have hb1 := hb1.up hXw3
  have hb2 := hb2.up hXw3
  refine WL.op rfl (OpK.alloc rfl T.zv25 rfl (fun b4 w4 hXw4 hb4 hge4 => ?_))
  have hl4 := Lo.new hB hge4
  have hd1_4 := Dj.new hb1.ltO hge4
  have hd2_4 := Dj.new hb2.ltO hge4
  have hd3_4 := Dj.new ho3.ltO hge4
  have hB := hB.trans hXw4
  have hb1 := hb1.up hXw4
  have hb2 := hb2.up hXw4
  have ho3 := ho3.up hXw4
  refine WL.op rfl (OpK.storeB0 T.sz25 rfl rfl (by first | rfl | exact Inn.one1 (by assumption) (by omega) | exact Osl.oneCell (by assumption) | exact Osn.oneCell (by assumption) | exact Rd.oneCell (by assumption) | exact Rd.oneCell (NL.rd (by assumption)) | assumption) hb4 (fun w5 hXw5 hb4 => ?_))
  have hB := hB.updL hXw5 hl4
  have hb1 := hb1.updD hXw5 hd1_4
  have hb2 := hb2.updD hXw5 hd2_4
  have ho3 := ho3.updD hXw5 hd3_4
  refine WL.nilS ?_
  refine CW.seq ?_
  refine CW.seq ?_
  refine CW.reg ?_
  refine WL.mv rfl rfl ?_
  refine WL.op rfl (OpK.call rfl T.cf200 rfl (c_slices_Backward_int64_int64 (by first | assumption | exact Rd.up (by assumption) hB | exact Osl.rd (by assumption) | exact Osn.rdR (by assumption) | exact NL.rd (by assumption) | exact rdII (by assumption) (by assumption) | exact Inn.rd (by assumption) (by omega))) (fun rv1 w6 hR => ?_))
  obtain ⟨hXw6, b5, rfl, hb5, hge5⟩ := hR
  have hl5 := Lo.new hB hge5
  have hd1_5 := Dj.new hb1.ltO hge5
  have hd2_5 := Dj.new hb2.ltO hge5
  have hd3_5 := Dj.new ho3.ltO hge5
  have hd4_5 := Dj.new hb4.ltO hge5
  have hB := hB.trans hXw6
  have hb1 := hb1.up hXw6
  have hb2 := hb2.up hXw6
  have ho3 := ho3.up hXw6
  have hb4 := hb4.up hXw6
  refine WL.nilS ?_
  refine CW.block ?_
  have hsz := hB.size
  refine CW.rangeFunc (lb := [_]) rfl T.cf226 rfl rfl ((flatT tr).length) (fun k => .int .i64 (((flatT tr).length : Int) - 1 - (k : Nat))) (fun k => .int .i64 ((flatT tr).getD ((flatT tr).length - 1 - k) 0)) (fun k W => ∃ (v : Value) (og : Option Nat) (sk : List (Value)), Ext w W ∧ Bx W b4 [v] ∧ Osl VV W og v sk ∧ Lo w og ∧ Dj (some b4.block) og ∧ Bx W b1 [vl] ∧ Dj (some b1.block) og ∧ Bx W b2 [vb] ∧ Dj (some b2.block) og ∧ Bx W b5 [vt] ∧ Dj (some b5.block) og ∧ (∃ ls, EL w W (some b4.block) og sk ls ∧ FI L tr (fun x => [x]) (fun a b => -1 :: (b ++ a)) k ls)) ?_ ⟨_, _, _, hB, hb4, ho3, hl3, (Dj.symm hd3_4), hb1, hd1_3, hb2, hd2_3, hb5, (Dj.symm hd3_5), (by exact ⟨[], EL.zero _ _ _ _, FI.zero _ _ _ _⟩)⟩ ?_ (fun k => [(9, .int .i64 ((flatT tr).getD ((flatT tr).length - 1 - k) 0)), (15, .int .i64 ((flatT tr).getD ((flatT tr).length - 1 - k) 0)), (14, .int .i64 (((flatT tr).length : Int) - 1 - (k : Nat)))]) ?_ ?_ ?_
  · intro k W8 W9 row hj hg9 hr9
    obtain ⟨v9, og9, sk9, h1, h2, h3, h4, h5, hc1_, hc1_d, hc2_, hc2_d, hc5_, hc5_d, h9⟩ := hj
    exact ⟨v9, og9, sk9, h1.abd hg9 hr9 hsz, h2.abd hg9 hr9, h3.abd hg9 hr9, h4, h5, hc1_.abd hg9 hr9, hc1_d, hc2_.abd hg9 hr9, hc2_d, hc5_.abd hg9 hr9, hc5_d, (by obtain ⟨ls, he, hf⟩ := h9; exact ⟨ls, he.abd hg9 hr9, hf⟩)⟩
  · intro l9 J9 W9 hJ9 hR9 h09
    exact c_bw J9 (fun k W8 hj => by obtain ⟨v9, og9, sk9, h1, h2, h3, h4, h5, hc1_, hc1_d, hc2_, hc2_d, hc5_, hc5_d, h9⟩ := hJ9 k W8 hj; exact ⟨hc5_, Rd.up ht h1⟩) hR9 h09
  · intro l9 k W9 K9 hK9
    refine CWr.reg (by repeat first | exact NoOut.rf | exact NoOut.fl | refine NoOut.then ?_ | refine NoOut.block ?_) rfl ?_
    refine WL.pure rfl rfl rfl (PV.assign rfl) ?_
    exact WL.nil (fun a9 ha9 => hK9 a9 ha9)
  · rintro l9 k wr1 hk9 ⟨v6, og6, sk, hB, hb4, ho6, hl6, hd4_6, hb1, hd1_6, hb2, hd2_6, hb5, hd5_6, hinv⟩
    have hUY : UpdL [(some b4.block), og6] wr1 wr1 := UpdL.refl _ _
    have hkY_4 : OkB [(some b4.block), og6] wr1 (some b4.block) := OkB.mem (by simp)
    have hgY_4 := OgR.refl wr1 (some b4.block)
    have hkY_6 : OkB [(some b4.block), og6] wr1 og6 := OkB.mem (by simp)
    have hgY_6 := OgR.refl wr1 og6
    have hkB0 := hb4.isC; have hkO0 := ho6.isC
    obtain ⟨ls, hel, hfi⟩ := hinv; have hln := hfi.len (by omega); have hsl := hel.len
    refine CWr.block ?_
    refine CWr.seq ?_
    refine CWr.seq ?_
    refine CWr.reg (by repeat first | exact NoOut.rf | exact NoOut.fl | refine NoOut.then ?_ | refine NoOut.block ?_) rfl ?_
    refine WL.pure rfl rfl rfl (PV.move rfl) ?_
    refine WL.pure rfl rfl rfl (PV.geq rfl rfl) ?_
    refine WL.nilSr ?_
    refine CWr.cond rfl (fun hc1 => ?_) (fun hc1 => ?_)
    · skip
      try simp only [nq] at hc1
      refine CWr.seq ?_
      refine CWr.draw (by repeat first | exact NoOut.rf | exact NoOut.fl | refine NoOut.then ?_ | refine NoOut.block ?_) (by kernel_rfl) T.mixed (by kernel_rfl) (fun _ _ _ _ _ h => h) (fun w8 w9 => Upd og6 w8 w9) 6 (.take 0 (.take 1 (.take 2 (.must 3 (.must 4 (.must 5 (.must 6 .done))))))) (by kernel_rfl) (fun w7 hXd => ?_)
      have hB := hB.trans hXd
      have hb4 := hb4.up hXd
      have hb1 := hb1.up hXd
      have hb2 := hb2.up hXd
      have hb5 := hb5.up hXd
      have ho6 := ho6.up hXd
      have hUY := hUY.ext hXd
      have hBr := hB
      have hS : Upd og6 w7 w7 := Ext.toUpd (Ext.refl _)
      refine HP.take rfl rfl rfl rfl hS (fun wS hS1 => PV.load0 T.na25 rfl (Bx.cells (Bx.updD (by assumption) hS1 (by first | assumption | exact Dj.symm (by assumption)))) (Ext.refl _) rfl) ?_
      refine HP.take rfl rfl rfl rfl hS (fun wS hS1 => PV.load0 T.na157 rfl (Bx.cells (Bx.updD (by assumption) hS1 (by first | assumption | exact Dj.symm (by assumption)))) (Ext.refl _) rfl) ?_
      refine HP.take rfl rfl rfl rfl hS (fun wS hS1 => PV.move rfl) ?_
      refine HP.must rfl rfl (OpK.callFv rfl rfl rfl (hleaf _ _ hB (FI.mem hT hk9 (by omega))) (fun rv2 w8 hR => ?_))
      obtain ⟨hXw8, v7, og7, rfl, ho7, hq7⟩ := hR
      have hl7 := Lo.up hq7 hB
      have hd4_7 := Dj.lo hb4.ltO hq7
      have hd1_7 := Dj.lo hb1.ltO hq7
      have hd2_7 := Dj.lo hb2.ltO hq7
      have hd5_7 := Dj.lo hb5.ltO hq7
      have hd6_7 := Dj.lo ho6.ltO hq7
      have hkY_7 := OkN.lo hUY hq7
      have hgY_7 := OgR.lo hUY.size hq7
      refine ⟨Upd.trans hS (Ext.toUpd hXw8), ?_⟩
      have hS := Upd.trans hS (Ext.toUpd hXw8)
      have hB := hB.trans hXw8
      have hb4 := hb4.up hXw8
      have hb1 := hb1.up hXw8
      have hb2 := hb2.up hXw8
      have hb5 := hb5.up hXw8
      have ho6 := ho6.up hXw8
      have hUY := hUY.ext hXw8
      refine HP.must rfl rfl (OpK.buildS VV (os := [.tmp 21]) [_] rfl T.sl25 rfl rfl T.zv28 rfl (by intro z hz; first | rfl | (simp only [List.mem_cons, List.not_mem_nil, or_false] at hz; subst hz; exact (by first | exact Rd.cells1 (by assumption) | exact Osl.cells1 (by assumption) | exact Osn.cells1 (by assumption) | exact Rd.cells1 (NL.rd (by assumption)) | exact Inn.cell1 (by assumption) (by omega) | assumption | rfl))) rfl (fun v8 g8 w9 hXw9 ho8 hge8 => ?_))
      have hl8 := Lo.new hB hge8
      have hd4_8 := Dj.new hb4.ltO hge8
      have hd1_8 := Dj.new hb1.ltO hge8
      have hd2_8 := Dj.new hb2.ltO hge8
      have hd5_8 := Dj.new hb5.ltO hge8
      have hd6_8 := Dj.new ho6.ltO hge8
      have hd7_8 := Dj.new ho7.ltO hge8
      have hkY_8 := OkN.new hUY hge8
      have hgY_8 := OgR.new hUY.size hge8
      refine ⟨Upd.trans hS (Ext.toUpd hXw9), ?_⟩
      have hS := Upd.trans hS (Ext.toUpd hXw9)
      have hB := hB.trans hXw9
      have hb4 := hb4.up hXw9
      have hb1 := hb1.up hXw9
      have hb2 := hb2.up hXw9
      have hb5 := hb5.up hXw9
      have ho6 := ho6.up hXw9
      have ho7 := ho7.up hXw9
      have hUY := hUY.ext hXw9
      refine HP.must rfl rfl (OpK.appendS (f := VV) rfl T.sl25 T.zv28 rfl rfl ho6 rfl (Osl.srcM ho8 (one_mem (Osl.oneCell (by assumption)))) (by first | (simp only [List.length_cons, List.length_nil]; omega) | (simp_all; omega)) (fun v9 og9 w10 hXw10 ho9 hap9 => ?_))
      have hl9 := Lo.app hl6 hB hap9
      have hd4_9 := Dj.app hd4_6 hb4.ltO hap9
      have hd1_9 := Dj.app hd1_6 hb1.ltO hap9
      have hd2_9 := Dj.app hd2_6 hb2.ltO hap9
      have hd5_9 := Dj.app hd5_6 hb5.ltO hap9
      have hd7_9 := Dj.app (Dj.symm hd6_7) ho7.ltO hap9
      have hd8_9 := Dj.app (Dj.symm hd6_8) ho8.ltO hap9
      have hkY_9 := OkN.app hUY hkY_6 hap9
      have hgY_9 := OgR.app hgY_6 hUY.size hap9
      refine ⟨Upd.trans hS hXw10, ?_⟩
      have hS := Upd.trans hS hXw10
      have hB := hB.updL hXw10 hl6
      have hb4 := hb4.updD hXw10 hd4_6
      have hb1 := hb1.updD hXw10 hd1_6
      have hb2 := hb2.updD hXw10 hd2_6
      have hb5 := hb5.updD hXw10 hd5_6
      have ho7 := ho7.updD hXw10 (Dj.symm hd6_7)
      have ho8 := ho8.updD hXw10 (Dj.symm hd6_8)
      have hUY := hUY.step hXw10 hkY_6
      refine HP.last rfl rfl (OpK.storeB0 T.sz25 rfl rfl (by first | rfl | exact Inn.one1 (by assumption) (by omega) | exact Osl.oneCell (by assumption) | exact Osn.oneCell (by assumption) | exact Rd.oneCell (by assumption) | exact Rd.oneCell (NL.rd (by assumption)) | assumption) hb4 (fun w11 hXw11 hb4 => ?_))
      have hB := hB.updL hXw11 hl4
      have hb1 := hb1.updD hXw11 hd1_4
      have hb2 := hb2.updD hXw11 hd2_4
      have hb5 := hb5.updD hXw11 (Dj.symm hd4_5)
      have ho7 := ho7.updD hXw11 (Dj.symm hd4_7)
      have ho8 := ho8.updD hXw11 (Dj.symm hd4_8)
      have ho9 := ho9.updD hXw11 (Dj.symm hd4_9)
      have hUY := hUY.step hXw11 hkY_4
      refine HP.doneSr ?_
      refine CWr.exit ?_
      refine XQ.then ?_
      refine XQ.here ?_
      exact fun a9 ha9 => ⟨keeps_upd hUY ⟨hkB0, hkO0, trivial⟩, v9, og9, _, hB, hb4, osE ho9 (by rfl), hl9, hd4_9, hb1, hd1_9, hb2, hd2_9, hb5, hd5_9, (by exact ⟨_, EL.put (hel.loop hUY (by assumption)) (by assumption) (by first | assumption | exact Dj.symm (by assumption)) (by first | assumption | exact Dj.symm (by assumption)) (by assumption), hfi.leaf hT hk9 (by omega)⟩)⟩
    try simp only [nq] at hc1
    refine CWr.skipS ?_
    refine CWr.seq ?_
    refine CWr.reg (by repeat first | exact NoOut.rf | exact NoOut.fl | refine NoOut.then ?_ | refine NoOut.block ?_) rfl ?_
    have h2l := hfi.two hT hk9 (by omega)
    refine WL.pure rfl rfl rfl (PV.load0 T.na25 rfl hb4.cells (Ext.refl _) rfl) ?_
    refine WL.pure rfl rfl rfl ((PV.lenOs rfl ho6 T.sl25)) ?_
    refine WL.pure rfl rfl rfl (PV.sub rfl rfl (by constructor <;> omega)) ?_
    refine WL.pure rfl rfl rfl (PV.assign rfl) ?_
    refine WL.nilSr ?_
    refine CWr.seq ?_
    refine CWr.draw (by repeat first | exact NoOut.rf | exact NoOut.fl | refine NoOut.then ?_ | refine NoOut.block ?_) (by kernel_rfl) T.mixed (by kernel_rfl) (fun _ _ _ _ _ h => h) (fun w8 w9 => Upd none w8 w9) 15 (.take 0 (.take 1 (.take 2 (.take 3 (.take 4 (.take 5 (.take 6 (.take 7 (.take 8 (.take 9 (.take 10 (.take 11 (.take 12 (.must 13 (.take 14 (.must 15 .done)))))))))))))))) (by kernel_rfl) (fun w12 hXd => ?_)
    have hB := hB.trans hXd
    have hb4 := hb4.up hXd
    have hb1 := hb1.up hXd
    have hb2 := hb2.up hXd
    have hb5 := hb5.up hXd
    have ho6 := ho6.up hXd
    have hUY := hUY.ext hXd
    have hBr := hB
    have hS : Upd none w12 w12 := Ext.toUpd (Ext.refl _)
    refine HP.take rfl rfl rfl rfl hS (fun wS hS1 => PV.load0 T.na25 rfl (Bx.cells (Bx.updD (by assumption) hS1 (Dj.nlR _))) (Ext.refl _) rfl) ?_
    refine HP.take rfl rfl rfl rfl hS (fun wS hS1 => PV.move rfl) ?_
    refine HP.take rfl rfl rfl rfl hS (fun wS hS1 => PV.sub rfl rfl (by constructor <;> omega)) ?_
    refine HP.take rfl rfl rfl rfl hS (fun wS hS1 => PV.load0 T.na160 rfl (Bx.cells (Bx.updD (by assumption) hS1 (Dj.nlR _))) (Ext.refl _) rfl) ?_
    refine HP.take rfl rfl rfl rfl hS (fun wS hS1 => PV.load0 T.na25 rfl (Bx.cells (Bx.updD (by assumption) hS1 (Dj.nlR _))) (Ext.refl _) rfl) ?_
    refine HP.take rfl rfl rfl rfl hS (fun wS hS1 => PV.move rfl) ?_
    first
      | refine HP.atO (wb := w12) (x := .tmp 31) (y := .tmp 32) (f := VV) ((.slice none 0 0)) rfl rfl (by assumption) (by omega) (fun p1 hpp1 hcp1 => ?_)
      | refine HP.atOZ (wb := w12) (x := .tmp 31) (y := .tmp 32) (f := VV) ((.slice none 0 0)) rfl rfl (by assumption) (by omega) (fun p1 hpp1 hzp1 hcp1 => ?_)
    refine HP.take rfl rfl rfl rfl hS (fun wS hS1 => (by first | exact PV.indexAddr hpp1 rfl rfl T.sl25 | exact PV.indexAddr hpp1 rfl (by rw [← hzp1]; rfl) T.sl25)) ?_
    refine HP.take rfl rfl rfl rfl hS (fun wS hS1 => (by first | exact PV.load0 T.na28 rfl (by first | exact Cells.up (by assumption) (hBr.trans hS1) | exact Bx.cells (Bx.updD (by assumption) hS1 (Dj.nlR _)) | exact Cells.upd (by assumption) hS1 (by simp)) (Ext.refl _) rfl | exact PV.load1 T.na28 rfl (by first | exact Cells.up (by assumption) (hBr.trans hS1) | exact Bx.cells (Bx.updD (by assumption) hS1 (Dj.nlR _)) | exact Cells.upd (by assumption) hS1 (by simp)) (Ext.refl _) rfl)) ?_
    refine HP.take rfl rfl rfl rfl hS (fun wS hS1 => PV.load0 T.na25 rfl (Bx.cells (Bx.updD (by assumption) hS1 (Dj.nlR _))) (Ext.refl _) rfl) ?_
    refine HP.take rfl rfl rfl rfl hS (fun wS hS1 => PV.move rfl) ?_
    refine HP.take rfl rfl rfl rfl hS (fun wS hS1 => PV.sub rfl rfl (by constructor <;> omega)) ?_
    first
      | refine HP.atO (wb := w12) (x := .tmp 35) (y := .tmp 37) (f := VV) ((.slice none 0 0)) rfl rfl (by assumption) (by omega) (fun p2 hpp2 hcp2 => ?_)
      | refine HP.atOZ (wb := w12) (x := .tmp 35) (y := .tmp 37) (f := VV) ((.slice none 0 0)) rfl rfl (by assumption) (by omega) (fun p2 hpp2 hzp2 hcp2 => ?_)
    refine HP.take rfl rfl rfl rfl hS (fun wS hS1 => (by first | exact PV.indexAddr hpp2 rfl rfl T.sl25 | exact PV.indexAddr hpp2 rfl (by rw [← hzp2]; rfl) T.sl25)) ?_
    refine HP.take rfl rfl rfl rfl hS (fun wS hS1 => (by first | exact PV.load0 T.na28 rfl (by first | exact Cells.up (by assumption) (hBr.trans hS1) | exact Bx.cells (Bx.updD (by assumption) hS1 (Dj.nlR _)) | exact Cells.upd (by assumption) hS1 (by simp)) (Ext.refl _) rfl | exact PV.load1 T.na28 rfl (by first | exact Cells.up (by assumption) (hBr.trans hS1) | exact Bx.cells (Bx.updD (by assumption) hS1 (Dj.nlR _)) | exact Cells.upd (by assumption) hS1 (by simp)) (Ext.refl _) rfl)) ?_
    refine HP.must rfl rfl (OpK.callFv rfl rfl rfl (hbr _ _ _ _ _ hB (hel.rd hUY (by omega)) (hel.rd hUY (by omega)) (Nat.le_trans (hfi.mlen (by omega)) h23) (Nat.le_trans (hfi.mlen (by omega)) h23)) (fun rv3 w13 hR => ?_))
    obtain ⟨hXw13, v10, og10, rfl, ho10, hq10⟩ := hR
    have hl10 := Lo.up hq10 hB
    have hd4_10 := Dj.lo hb4.ltO hq10
    have hd1_10 := Dj.lo hb1.ltO hq10
    have hd2_10 := Dj.lo hb2.ltO hq10
    have hd5_10 := Dj.lo hb5.ltO hq10
    have hd6_10 := Dj.lo ho6.ltO hq10
    have hkY_10 := OkN.lo hUY hq10
    have hgY_10 := OgR.lo hUY.size hq10
    refine ⟨Upd.trans hS hXw13, ?_⟩
    have hS := Upd.trans hS hXw13
    have hB := hB.trans hXw13
    have hb4 := hb4.up hXw13
    have hb1 := hb1.up hXw13
    have hb2 := hb2.up hXw13
    have hb5 := hb5.up hXw13
    have ho6 := ho6.up hXw13
    have hUY := hUY.ext hXw13
    first
      | refine HP.atO (wb := w12) (x := .tmp 27) (y := .tmp 29) (f := VV) ((.slice none 0 0)) rfl rfl (by assumption) (by omega) (fun p3 hpp3 hcp3 => ?_)
      | refine HP.atOZ (wb := w12) (x := .tmp 27) (y := .tmp 29) (f := VV) ((.slice none 0 0)) rfl rfl (by assumption) (by omega) (fun p3 hpp3 hzp3 hcp3 => ?_)
    refine HP.take rfl rfl rfl rfl hS (fun wS hS1 => (by first | exact PV.indexAddr hpp3 rfl rfl T.sl25 | exact PV.indexAddr hpp3 rfl (by rw [← hzp3]; rfl) T.sl25)) ?_
    refine HP.last rfl rfl (OpK.storeS VV T.sz28 rfl rfl (by first | rfl | exact Inn.one1 (by assumption) (by omega) | exact Osl.oneCell (by assumption) | exact Osn.oneCell (by assumption) | exact Rd.oneCell (by assumption) | exact Rd.oneCell (NL.rd (by assumption)) | assumption) hpp3 ho6 (fun w14 hXw14 ho6 => ?_))
    have hB := hB.updL hXw14 hl6
    have hb4 := hb4.updD hXw14 hd4_6
    have hb1 := hb1.updD hXw14 hd1_6
    have hb2 := hb2.updD hXw14 hd2_6
    have hb5 := hb5.updD hXw14 hd5_6
    have ho10 := ho10.updD hXw14 (Dj.symm hd6_10)
    have hUY := hUY.step hXw14 hkY_6
    refine HP.doneSr ?_
    refine CWr.reg (by repeat first | exact NoOut.rf | exact NoOut.fl | refine NoOut.then ?_ | refine NoOut.block ?_) rfl ?_
    refine WL.pure rfl rfl rfl (PV.load0 T.na25 rfl hb4.cells (Ext.refl _) rfl) ?_
    refine WL.pure rfl rfl rfl (PV.move rfl) ?_
    refine WL.slO (x := .tmp 42) (hi := .tmp 43) T.sl25 rfl rfl rfl ho6 (by first | omega | (simp; omega) | (simp_all; omega)) (fun u1 huu1 hou1 => ?_)
    refine WL.pure rfl rfl rfl ((huu1 _ _ _ _ _ _)) ?_
    have ho11 := hou1
    have hl11 := hl6
    have hd4_11 := hd4_6
    have hd1_11 := hd1_6
    have hd2_11 := hd2_6
    have hd5_11 := hd5_6
    have hd10_11 := (Dj.symm hd6_10)
    have hkY_11 := hkY_6
    have hgY_11 := hgY_6
    refine WL.op rfl (OpK.storeB0 T.sz25 rfl rfl (by first | rfl | exact Inn.one1 (by assumption) (by omega) | exact Osl.oneCell (by assumption) | exact Osn.oneCell (by assumption) | exact Rd.oneCell (by assumption) | exact Rd.oneCell (NL.rd (by assumption)) | assumption) hb4 (fun w15 hXw15 hb4 => ?_))
    have hB := hB.updL hXw15 hl4
    have hb1 := hb1.updD hXw15 hd1_4
    have hb2 := hb2.updD hXw15 hd2_4
    have hb5 := hb5.updD hXw15 (Dj.symm hd4_5)
    have ho10 := ho10.updD hXw15 (Dj.symm hd4_10)
    have ho11 := ho11.updD hXw15 (Dj.symm hd4_11)
    have hUY := hUY.step hXw15 hkY_4
    refine WL.nil ?_
    refine NQ.block ?_
    exact fun a9 ha9 => ⟨keeps_upd hUY ⟨hkB0, hkO0, trivial⟩, u1, og6, _, hB, hb4, osE ho11 (by rfl), hl11, hd4_11, hb1, hd1_11, hb2, hd2_11, hb5, hd5_11, (by exact ⟨_, EL.node (hel.loop hUY (by assumption)) (by assumption) (by first | assumption | exact Dj.symm (by assumption)) (by first | assumption | exact Dj.symm (by assumption)) (by assumption) (by omega), hfi.node hT hk9 (by omega) (by omega) (by omega) []⟩)⟩
  · rintro wr1 D hDW ⟨v6, og6, sk, hB, hb4, ho6, hl6, hd4_6, hb1, hd1_6, hb2, hd2_6, hb5, hd5_6, hinv⟩ hD
    obtain ⟨ls, hel, hfi⟩ := hinv; obtain rfl := hfi.end hT (by omega); obtain ⟨oi, ho0, hd0, hd02, hlo0⟩ := hel.el 0 (by simp); have hl1 : sk.length = 1 := hel.len
    refine NQd.block ?_
    refine NQd.then ?_
    refine CWd.seq ?_
    refine CWd.reg ?_
    refine WLd.pure rfl rfl rfl (PV.load0 T.na25 rfl hb4.cells (Ext.refl _) rfl) ?_
    first
      | refine WLd.atO (x := .tmp 45) (y := .const (.int .i64 0)) (f := VV) ((.slice none 0 0)) rfl rfl ho6 (by omega) (fun p4 hpp4 hcp4 => ?_)
      | refine WLd.atOZ (x := .tmp 45) (y := .const (.int .i64 0)) (f := VV) ((.slice none 0 0)) rfl rfl ho6 (by omega) (fun p4 hpp4 hzp4 hcp4 => ?_)
    refine WLd.pure rfl rfl rfl ((by first | exact PV.indexAddr hpp4 rfl rfl T.sl25 | exact PV.indexAddr hpp4 rfl (by rw [← hzp4]; rfl) T.sl25)) ?_
    refine WLd.pure rfl rfl rfl ((by first | exact PV.load0 T.na28 rfl (by first | exact Cells.up (by assumption) hB | exact Bx.cells (by assumption) | assumption) (Ext.refl _) rfl | exact PV.load1 T.na28 rfl (by first | exact Cells.up (by assumption) hB | exact Bx.cells (by assumption) | assumption) (Ext.refl _) rfl)) ?_
    refine WLd.pure rfl rfl rfl (PV.assign rfl) ?_
    refine WLd.nilS ?_
    refine CWd.ret (fun a9 ha9 => bodyM1 rfl ha9 rfl hD ?_)
    exact ⟨Ext.putD hB _ (Nat.le_trans hsz hDW), _, _, rfl, osE (ho0.putD hD _) (ev_mir tr), hlo0⟩
theorem c_slices_Grow_int64_int64 {w : World} {N : Int} (hN : 0 ≤ N ∧ N ≤ 1048576) : Calls Try.prog 201 #[.slice none 0 0, .int .i64 N] w (Ret1 (fun v w' => Ext w w' ∧ ∃ u og_u, v = u ∧ Osl VI w' og_u u (([] : List Int)) ∧ Lo w og_u)) := by
  have hB : Ext w w := Ext.refl w
  have hnil : Rd EI w (.slice none 0 0) [] := Rd.nil _ _
  refine callsOf (vs := [_, _]) Try.func201 rfl Try.ntmps201 rfl rfl ?_
  refine CW.seq ?_
  refine CW.reg ?_
  refine WL.asg rfl rfl ?_
  refine WL.nilS ?_
  refine CW.seq ?_
  refine CW.seq ?_
  refine CW.reg ?_
  refine WL.mv rfl rfl ?_
  refine WL.pure rfl rfl rfl (PV.lss rfl rfl) ?_
  refine WL.nilS ?_
  refine CW.cond rfl (fun hc1 => ?_) (fun hc1 => ?_)
  · skip
    try simp only [nq] at hc1
    exfalso; omega
  try simp only [nq] at hc1
  refine CW.skipS ?_
  refine CW.seq ?_
  refine CW.seq ?_
  refine CW.reg ?_
  refine WL.mv rfl rfl ?_
  refine WL.mv rfl rfl ?_
  refine WL.pure rfl rfl rfl (PV.capNil rfl T.sl28) ?_
  refine WL.mv rfl rfl ?_
  refine WL.pure rfl rfl rfl ((by first | exact PV.len rfl (by assumption) T.sl28 | exact PV.lenOs rfl (by assumption) T.sl28 | exact PV.len rfl (NL.rd (by assumption)) T.sl28 | exact PV.len rfl (Inn.rd (by assumption) (by omega)) T.sl28)) ?_
  simp only [List.length_nil]
  refine WL.pure rfl rfl rfl (PV.sub rfl rfl (by constructor <;> omega)) ?_
  refine WL.pure rfl rfl rfl (PV.sub rfl rfl (by constructor <;> omega)) ?_
  refine WL.asg rfl rfl ?_
  refine WL.nilS ?_
  refine CW.seq ?_
  refine CW.reg ?_
  refine WL.mv rfl rfl ?_
  refine WL.pure rfl rfl rfl (PV.gtr rfl rfl) ?_
  refine WL.nilS ?_
  refine CW.cond rfl (fun hc2 => ?_) (fun hc2 => ?_)
  · skip
    try simp only [nq] at hc2
    refine CW.reg ?_
    refine WL.mv rfl rfl ?_
    refine WL.mv rfl rfl ?_
    refine WL.pure rfl rfl rfl (PV.capNil rfl T.sl28) ?_
    refine WL.pure rfl rfl rfl (PV.sliceNil T.sl28 rfl rfl) ?_
    refine WL.mv rfl rfl ?_
    refine WL.op rfl (OpK.growA rfl T.sl28 T.ik3 T.zv2 rfl rfl rfl rfl (by omega) rfl (fun v1 g1 cs1 w1 hXw1 ho1 hge1 => ?_))
    have hl1 := Lo.new hB hge1
    have hB := hB.trans hXw1
    refine WL.mv rfl rfl ?_
    refine WL.pure rfl rfl rfl ((by first | exact PV.len rfl (by assumption) T.sl28 | exact PV.lenOs rfl (by assumption) T.sl28 | exact PV.len rfl (NL.rd (by assumption)) T.sl28 | exact PV.len rfl (Inn.rd (by assumption) (by omega)) T.sl28)) ?_
    refine WL.slG (x := .tmp 22) (hi := .tmp 24) T.sl28 rfl rfl rfl ho1 (fun u2 huu2 hou2 => ?_)
    refine WL.pure rfl rfl rfl ((huu2 _ _ _ _ _ _)) ?_
    refine WL.asg rfl rfl ?_
    have ho2 : Osl VI w1 (some g1) u2 [] := hou2
    have hl2 := hl1
    refine WL.nilS ?_
    refine CW.seq ?_
    refine CW.reg ?_
    refine WL.mv rfl rfl ?_
    refine WL.asg rfl rfl ?_
    refine WL.nilS ?_
    refine CW.ret ?_
    refine RQ.r1 rfl ?_
    refine ⟨hB, u2, (some g1), ?_, osE ho2 ?_, hl2⟩
    · skip
      rfl
    · skip
      rfl
  try simp only [nq] at hc2
  refine CW.skipS ?_
  refine CW.seq ?_
  refine CW.reg ?_
  refine WL.mv rfl rfl ?_
  refine WL.asg rfl rfl ?_
  refine WL.nilS ?_
  refine CW.ret ?_
  refine RQ.r1 rfl ?_
  refine ⟨hB, (.slice none 0 0), none, ?_, osE (Osl.nil _ _) ?_, Lo.nl _⟩
  · skip
    rfl
  · skip
    rfl
theorem c_slices_Concat_int64_int64 {w : World} {va : Value} {xs : List (List Int)} (ha : Rd (ESl EI) w va xs) (hT : xs.flatten.length ≤ 100000) : Calls Try.prog 135 #[va] w (Ret1 (fun v w' => Ext w w' ∧ ∃ u og_u, v = u ∧ Osl VI w' og_u u (xs.flatten) ∧ Lo w og_u)) := by
  have hB : Ext w w := Ext.refl w
  have hla := ha.leI
  refine callsOf (vs := [_]) Try.func135 rfl Try.ntmps135 rfl rfl ?_
  refine CW.seq ?_
  refine CW.reg ?_
  refine WL.asg rfl rfl ?_
  refine WL.nilS ?_
  refine CW.seq ?_
  refine CW.reg ?_
  refine WL.asg rfl rfl ?_
  refine WL.nilS ?_
  refine CW.seq ?_
  refine CW.seq ?_
  refine CW.reg ?_
  refine WL.mv rfl rfl ?_
  refine WL.pure rfl rfl rfl ((by first | exact PV.len rfl (by assumption) T.sl25 | exact PV.lenOs rfl (by assumption) T.sl25 | exact PV.len rfl (NL.rd (by assumption)) T.sl25 | exact PV.len rfl (Inn.rd (by assumption) (by omega)) T.sl25)) ?_
  refine WL.mv rfl rfl ?_
  refine WL.nilS ?_
  refine CW.block ?_
  refine CW.loop (σk := [(0, _), (9, _), (10, _)]) (fun ρ wz m => ∃ (k : Nat), ρ = [(3, .int .i64 (((xs.take k).flatten.length : Nat) : Int)), (11, .int .i64 (k : Nat))] ∧ m = xs.length - k ∧ UpdL [] w wz ∧ (k ≤ xs.length)) (ρ₀ := [(3, _), (11, _)]) (m₀ := _) ⟨rfl, rfl, rfl, rfl, rfl, trivial⟩ ⟨0, (by simp), rfl, (UpdL.refl _ _), (by first | omega | rfl | (simp; done) | assumption | (simp_all; done))⟩ ?_
  rintro _ wl1 _ ⟨k, rfl, rfl, hU0, hk⟩
  have hB := hB.loop hU0 trivial
  have hfl := flat_le (xs := xs) k
  refine CW.seq ?_
  refine CW.reg ?_
  refine WL.pure rfl rfl rfl (PV.lss rfl rfl) ?_
  refine WL.nilS ?_
  refine CW.seq ?_
  refine CW.cond rfl (fun hc1 => ?_) (fun hc1 => ?_)
  · skip
    try simp only [nq] at hc1
    refine CW.skipS ?_
    refine CW.seq ?_
    refine CW.block ?_
    refine CW.seq ?_
    refine CW.reg ?_
    first
      | refine WL.at (x := .tmp 9) (y := .tmp 11) (E := ESl EI) ([]) rfl rfl (by first | assumption | exact Inn.rd (by assumption) (by omega)) (by first | omega | (simp only [List.length_set]; omega) | (simp only [List.length_append, List.length_take, List.length_replicate, List.length_drop]; omega)) (fun p1 csp1 hpp1 hcp1 hq => ?_)
      | refine WL.atZ (x := .tmp 9) (y := .tmp 11) (E := ESl EI) ([]) rfl rfl (by first | assumption | exact Inn.rd (by assumption) (by omega)) (by first | omega | (simp only [List.length_set]; omega) | (simp only [List.length_append, List.length_take, List.length_replicate, List.length_drop]; omega)) (fun p1 csp1 hpp1 hzp1 hcp1 hq => ?_)
    obtain ⟨vq, rfl, hrq⟩ := hq; have hrql := hrq.leI
    refine WL.pure rfl rfl rfl ((by first | exact PV.indexAddr hpp1 rfl rfl T.sl25 | exact PV.indexAddr hpp1 rfl (by rw [← hzp1]; rfl) T.sl25)) ?_
    refine WL.pure rfl rfl rfl ((by first | exact PV.load0 T.na28 rfl (by first | exact Cells.up (by assumption) hB | exact Bx.cells (by assumption) | assumption) (Ext.refl _) rfl | exact PV.load1 T.na28 rfl (by first | exact Cells.up (by assumption) hB | exact Bx.cells (by assumption) | assumption) (Ext.refl _) rfl)) ?_
    refine WL.asg rfl rfl ?_
    refine WL.nilS ?_
    refine CW.seq ?_
    refine CW.reg ?_
    have hfs := congrArg List.length (flat_succ (xs := xs) (k := k) (by omega)); rw [List.length_append] at hfs; have hfl1 := flat_le (xs := xs) (k + 1)
    refine WL.mv rfl rfl ?_
    refine WL.mv rfl rfl ?_
    refine WL.pure rfl rfl rfl ((by first | exact PV.len rfl (by assumption) T.sl28 | exact PV.lenOs rfl (by assumption) T.sl28 | exact PV.len rfl (NL.rd (by assumption)) T.sl28 | exact PV.len rfl (Inn.rd (by assumption) (by omega)) T.sl28)) ?_
    refine WL.pure rfl rfl rfl (PV.add rfl rfl (by constructor <;> omega)) ?_
    refine WL.asg rfl rfl ?_
    refine WL.nilS ?_
    refine CW.seq ?_
    refine CW.reg ?_
    refine WL.mv rfl rfl ?_
    refine WL.pure rfl rfl rfl (PV.lss rfl rfl) ?_
    refine WL.nilS ?_
    refine CW.cond rfl (fun hc2 => ?_) (fun hc2 => ?_)
    · skip
      try simp only [nq] at hc2
      exfalso; omega
    try simp only [nq] at hc2
    refine CW.skip ?_
    refine NQ.block ?_
    refine NQ.then ?_
    refine CW.reg ?_
    refine WL.pure rfl rfl rfl (PV.add rfl rfl (by constructor <;> omega)) ?_
    refine WL.mv rfl rfl ?_
    refine WL.nil ?_
    refine NQ.next (ρ := [(3, _), (11, _)]) ⟨rfl, rfl, rfl, rfl, rfl, trivial⟩ ?_
    exact ⟨_, ⟨k + 1, (by have e9 : (((xs.take (k + 1)).flatten.length : Nat) : Int) = ((xs.take k).flatten.length : Int) + ((xs.getD k []).length : Int) := (by omega); rw [e9]; rfl), rfl, hU0, (by first | omega | assumption | (simp_all; done) | (simp_all; omega))⟩, by omega⟩
  try simp only [nq] at hc1
  refine CW.exit ?_
  refine XQ.then ?_
  refine XQ.then ?_
  refine XQ.here ?_
  refine NQ.then ?_
  refine CW.seq ?_
  refine CW.reg ?_
  refine WL.mv rfl rfl ?_
  refine WL.op rfl (OpK.call rfl T.cf201 rfl (c_slices_Grow_int64_int64 (by first | assumption | omega | (simp only [marks_len, marksB_len, marksR_len]; omega))) (fun rv1 w1 hR => ?_))
  obtain ⟨hXw1, v1, og1, rfl, ho1, hq1⟩ := hR
  have hl1 := Lo.up hq1 hB
  have hB := hB.trans hXw1
  refine WL.asg rfl rfl ?_
  refine WL.nilS ?_
  refine CW.seq ?_
  refine CW.seq ?_
  refine CW.reg ?_
  refine WL.mv rfl rfl ?_
  refine WL.pure rfl rfl rfl ((by first | exact PV.len rfl (by assumption) T.sl25 | exact PV.lenOs rfl (by assumption) T.sl25 | exact PV.len rfl (NL.rd (by assumption)) T.sl25 | exact PV.len rfl (Inn.rd (by assumption) (by omega)) T.sl25)) ?_
  refine WL.mv rfl rfl ?_
  refine WL.nilS ?_
  refine CW.block ?_
  have hlt1 := ho1.ltO
  refine CW.loop (σk := [(25, _), (26, _)]) (fun ρ wz m => ∃ (v2 : Value) (og2 : Option Nat) (k : Nat), ρ = [(6, v2), (27, .int .i64 (k : Nat))] ∧ m = xs.length - k ∧ UpdL [og1] w1 wz ∧ Osl VI wz og2 v2 ((xs.take k).flatten) ∧ OgR w1 og1 og2 ∧ (k ≤ xs.length)) (ρ₀ := [(6, _), (27, _)]) (m₀ := _) ⟨rfl, rfl, rfl, rfl, trivial⟩ ⟨rv1, og1, 0, rfl, rfl, (UpdL.refl _ _), osE ho1 (by simp), OgR.refl _ _, (by first | omega | rfl | (simp; done) | assumption | (simp_all; done))⟩ ?_
  rintro _ wl2 _ ⟨v2, og2, k, rfl, rfl, hU1, ho2, ha2, hk⟩
  have hl2 := Lo.ogr hl1 hB ha2
  have hg1_2 := ha2
  have hk1_2 : OkB [og1] w1 og2 := OkB.ogr (OkB.mem (by simp)) (Nat.le_refl _) ha2
  have hB := hB.loop hU1 ⟨hl1, trivial⟩
  have hfl := flat_le (xs := xs) k
  refine CW.seq ?_
  refine CW.reg ?_
  refine WL.pure rfl rfl rfl (PV.lss rfl rfl) ?_
  refine WL.nilS ?_
  refine CW.seq ?_
  refine CW.cond rfl (fun hc3 => ?_) (fun hc3 => ?_)
  · skip
    try simp only [nq] at hc3
    refine CW.skipS ?_
    refine CW.seq ?_
    refine CW.block ?_
    refine CW.seq ?_
    refine CW.reg ?_
    first
      | refine WL.at (x := .tmp 25) (y := .tmp 27) (E := ESl EI) ([]) rfl rfl (by first | assumption | exact Inn.rd (by assumption) (by omega)) (by first | omega | (simp only [List.length_set]; omega) | (simp only [List.length_append, List.length_take, List.length_replicate, List.length_drop]; omega)) (fun p2 csp2 hpp2 hcp2 hq => ?_)
      | refine WL.atZ (x := .tmp 25) (y := .tmp 27) (E := ESl EI) ([]) rfl rfl (by first | assumption | exact Inn.rd (by assumption) (by omega)) (by first | omega | (simp only [List.length_set]; omega) | (simp only [List.length_append, List.length_take, List.length_replicate, List.length_drop]; omega)) (fun p2 csp2 hpp2 hzp2 hcp2 hq => ?_)
    obtain ⟨vq, rfl, hrq⟩ := hq; have hrql := hrq.leI
    refine WL.pure rfl rfl rfl ((by first | exact PV.indexAddr hpp2 rfl rfl T.sl25 | exact PV.indexAddr hpp2 rfl (by rw [← hzp2]; rfl) T.sl25)) ?_
    refine WL.pure rfl rfl rfl ((by first | exact PV.load0 T.na28 rfl (by first | exact Cells.up (by assumption) hB | exact Bx.cells (by assumption) | assumption) (Ext.refl _) rfl | exact PV.load1 T.na28 rfl (by first | exact Cells.up (by assumption) hB | exact Bx.cells (by assumption) | assumption) (Ext.refl _) rfl)) ?_
    refine WL.asg rfl rfl ?_
    refine WL.nilS ?_
    refine CW.reg ?_
    have hfs := congrArg List.length (flat_succ (xs := xs) (k := k) (by omega)); rw [List.length_append] at hfs; have hfl1 := flat_le (xs := xs) (k + 1)
    refine WL.mv rfl rfl ?_
    refine WL.mv rfl rfl ?_
    refine WL.op rfl (OpK.appendS (f := VI) rfl T.sl28 T.zv2 rfl rfl ho2 rfl (Rd.src (by first | assumption | exact Rd.up (by assumption) hB | exact Inn.rd (by assumption) (by omega)) (fun _ => rfl)) (by first | (simp only [List.length_cons, List.length_nil]; omega) | (omega)) (fun v3 og3 w2 hXw2 ho3 hap3 => ?_))
    have hl3 := Lo.app hl2 hB hap3
    have hk1_3 := OkN.app hU1 hk1_2 hap3
    have hg1_3 := OgR.app hg1_2 hU1.size hap3
    have hB := hB.updL hXw2 hl2
    have hU1 := hU1.step hXw2 hk1_2
    refine WL.asg rfl rfl ?_
    refine WL.nil ?_
    refine NQ.block ?_
    refine NQ.then ?_
    refine CW.reg ?_
    refine WL.pure rfl rfl rfl (PV.add rfl rfl (by constructor <;> omega)) ?_
    refine WL.mv rfl rfl ?_
    refine WL.nil ?_
    refine NQ.next (ρ := [(6, _), (27, _)]) ⟨rfl, rfl, rfl, rfl, trivial⟩ ?_
    exact ⟨_, ⟨v3, og3, k + 1, rfl, rfl, hU1, osE ho3 (by exact flat_put (by omega)), (by first | exact hg1_3 | exact OgR.weak hg1_3), (by first | omega | assumption | (simp_all; done) | (simp_all; omega))⟩, by omega⟩
  try simp only [nq] at hc3
  refine CW.exit ?_
  refine XQ.then ?_
  refine XQ.then ?_
  refine XQ.here ?_
  refine NQ.then ?_
  refine CW.seq ?_
  refine CW.reg ?_
  refine WL.mv rfl rfl ?_
  refine WL.asg rfl rfl ?_
  refine WL.nilS ?_
  refine CW.ret ?_
  refine RQ.r1 rfl ?_
  refine ⟨hB, v2, og2, ?_, osE ho2 ?_, hl2⟩
  · skip
    rfl
  · skip
    rw [List.take_of_length_le (by omega)]
theorem c_impl_MirrorTree_2 {w : World} {va vc : Value} {xa xb : List Int} (ha : Rd EI w va xa) (hb : Rd EI w vc xb) (h1 : xa.length ≤ 23) (h2 : xb.length ≤ 23) : Calls Try.prog 134 #[va, vc] w (Ret1 (fun v w' => Ext w w' ∧ ∃ u og_u, v = u ∧ Osl VI w' og_u u (-1 :: (xb ++ xa)) ∧ Lo w og_u)) := by
  have hB : Ext w w := Ext.refl w
  have hla := ha.leI; have hlb := hb.leI
  refine callsOf (vs := [_, _]) Try.func134 rfl Try.ntmps134 rfl rfl ?_
  refine CW.seq ?_
  refine CW.reg ?_
  refine WL.asg rfl rfl ?_
  refine WL.nilS ?_
  refine CW.seq ?_
  refine CW.reg ?_
  refine WL.op rfl (OpK.buildS VI (os := [.const (.int .i64 (-1))]) [_] rfl T.sl28 rfl rfl T.zv2 rfl (by intro z hz; first | rfl | (simp only [List.mem_cons, List.not_mem_nil, or_false] at hz; subst hz; exact (by first | exact Rd.cells1 (by assumption) | exact Osl.cells1 (by assumption) | exact Osn.cells1 (by assumption) | exact Rd.cells1 (NL.rd (by assumption)) | exact Inn.cell1 (by assumption) (by omega) | assumption | rfl))) rfl (fun v1 g1 w1 hXw1 ho1 hge1 => ?_))
  have hl1 := Lo.new hB hge1
  have hB := hB.trans hXw1
  refine WL.mv rfl rfl ?_
  refine WL.mv rfl rfl ?_
  refine WL.op rfl (OpK.buildS VV (os := [.tmp 5, .tmp 6, .tmp 7]) [_, _, _] rfl T.sl25 rfl rfl T.zv28 rfl (by intro z hz; first | rfl | (simp only [List.mem_cons, List.not_mem_nil, or_false] at hz; rcases hz with hz | hz | hz <;> subst hz <;> exact (by first | exact Rd.cells1 (by assumption) | exact Osl.cells1 (by assumption) | exact Osn.cells1 (by assumption) | exact Rd.cells1 (NL.rd (by assumption)) | exact Inn.cell1 (by assumption) (by omega) | assumption | rfl))) rfl (fun v2 g2 w2 hXw2 ho2 hge2 => ?_))
  have hl2 := Lo.new hB hge2
  have hd1_2 := Dj.new ho1.ltO hge2
  have hB := hB.trans hXw2
  have ho1 := ho1.up hXw2
  refine WL.op rfl (OpK.call rfl T.cf135 rfl (c_slices_Concat_int64_int64 (rdSl3 (by assumption) (by first | assumption | exact Osl.rd (by assumption)) (by first | assumption | exact Rd.up (by assumption) hB) (by first | assumption | exact Rd.up (by assumption) hB)) (by simp; omega)) (fun rv1 w3 hR => ?_))
  obtain ⟨hXw3, v3, og3, rfl, ho3, hq3⟩ := hR
  have hl3 := Lo.up hq3 hB
  have hd1_3 := Dj.lo ho1.ltO hq3
  have hd2_3 := Dj.lo ho2.ltO hq3
  have hB := hB.trans hXw3
  have ho1 := ho1.up hXw3
  have ho2 := ho2.up hXw3
  refine WL.asg rfl rfl ?_
  refine WL.nilS ?_
  refine CW.ret ?_
  refine RQ.r1 rfl ?_
  refine ⟨hB, rv1, og3, ?_, osE ho3 ?_, hl3⟩
  · skip
    rfl
  · skip
    first | rfl | (simp; done)
theorem c_impl_MirrorTree {w : World} {vt : Value} {xs : List Int} (ht : Rd EI w vt xs) (hN : xs.length ≤ 1048576) : Calls Try.prog 47 #[vt] w (Ret1 (fun v w' => Ext w w' ∧ ∃ u og_u, v = .tuple #[u, .bool (treeB 4 xs)] ∧ Osl VI w' og_u u (mrL xs) ∧ Lo w og_u)) := by
  have hB : Ext w w := Ext.refl w
  refine callsOf (vs := [_]) Try.func47 rfl Try.ntmps47 rfl rfl ?_
  refine CW.seq ?_
  refine CW.reg ?_
  refine WL.asg rfl rfl ?_
  refine WL.asg rfl rfl ?_
  refine WL.nilS ?_
  refine CW.seq ?_
  refine CW.seq ?_
  refine CW.reg ?_
  refine WL.mv rfl rfl ?_
  refine WL.op rfl (OpK.callR rfl T.cf48 rfl (c_impl_IsTree (by first | assumption | exact Rd.up (by assumption) hB | exact Osl.rd (by assumption) | exact Osn.rdR (by assumption) | exact NL.rd (by assumption) | exact rdII (by assumption) (by assumption) | exact Inn.rd (by assumption) (by omega)) (by first | assumption | omega | (simp only [marks_len, marksB_len, marksR_len]; omega))) (fun w1 hXw1 => ?_))
  have hB := hB.trans hXw1
  refine WL.pure rfl rfl rfl (PV.not rfl) ?_
  refine WL.nilS ?_
  refine CW.cond rfl (fun hc1 => ?_) (fun hc1 => ?_)
  · skip
    try simp only [nq] at hc1
    rw [isTreeB4] at hc1
    refine CW.seq ?_
    refine CW.reg ?_
    refine WL.asg rfl rfl ?_
    refine WL.asg rfl rfl ?_
    refine WL.nilS ?_
    refine CW.ret ?_
    refine RQ.then ?_
    refine RQ.r2 rfl rfl ?_
    refine ⟨hB, (.slice none 0 0), none, ?_, osE (Osl.nil _ _) ?_, Lo.nl _⟩
    · skip
      first | exact tE2 rfl (bE (by simp_all))
    · skip
      first | (rw [mrL_no (by assumption)]; done) | (rw [mrL_yes hT h23]; done)
  try simp only [nq] at hc1
  rw [isTreeB4] at hc1; obtain ⟨tr, rfl, hT⟩ := tree_of (by assumption : treeB 4 _ = true); have h23 : (flatT tr).length ≤ 23 := (by have h9 := (by assumption : treeB 4 (flatT tr) = true); simp only [treeB, decide_eq_true_eq] at h9; exact h9.1)
  refine CW.skipS ?_
  refine CW.seq ?_
  refine CW.reg ?_
  refine WL.asg rfl rfl ?_
  refine WL.nilS ?_
  refine CW.seq ?_
  refine CW.reg ?_
  refine WL.mv rfl rfl ?_
  refine WL.mv rfl rfl ?_
  refine WL.op rfl (OpK.call rfl T.cf133 rfl (c_impl_foldTree_int64_m (ht.up hB) hT h23 rfl rfl (fun x W hW hx => ⟨132, [], [], rfl, (by kernel_rfl), c_impl_MirrorTree_1⟩) (fun va vc xa xb W hW ha hb h1 h2 => ⟨134, [], [], rfl, (by kernel_rfl), c_impl_MirrorTree_2 ha hb h1 h2⟩)) (fun rv1 w2 hR => ?_))
  obtain ⟨hXw2, v1, og1, rfl, ho1, hq1⟩ := hR
  have hl1 := Lo.up hq1 hB
  have hB := hB.trans hXw2
  refine WL.asg rfl rfl ?_
  refine WL.asg rfl rfl ?_
  refine WL.nilS ?_
  refine CW.ret ?_
  refine RQ.r2 rfl rfl ?_
  refine ⟨hB, rv1, og1, ?_, osE ho1 ?_, hl1⟩
  · skip
    first | exact tE2 rfl (bE (by simp_all))
  · skip
    first | (rw [mrL_no (by assumption)]; done) | (rw [mrL_yes hT h23]; done)
theorem c_laws_r8Same {w : World} {va vb : Value} {xs ys : List Int} (ha : Rd EI w va xs) (hb : Rd EI w vb ys) : Calls Try.prog 49 #[va, vb] w (Ret1 (RQt (.bool (decide (xs = ys))) w)) := by
  have hB : Ext w w := Ext.refl w
  have hla := ha.leI; have hlb := hb.leI
  refine callsOf (vs := [_, _]) Try.func49 rfl Try.ntmps49 rfl rfl ?_
  refine CW.seq ?_
  refine CW.reg ?_
  refine WL.asg rfl rfl ?_
  refine WL.nilS ?_
  refine CW.seq ?_
  refine CW.seq ?_
  refine CW.reg ?_
  refine WL.mv rfl rfl ?_
  refine WL.pure rfl rfl rfl ((by first | exact PV.len rfl (by assumption) T.sl28 | exact PV.lenOs rfl (by assumption) T.sl28 | exact PV.len rfl (NL.rd (by assumption)) T.sl28 | exact PV.len rfl (Inn.rd (by assumption) (by omega)) T.sl28)) ?_
  refine WL.mv rfl rfl ?_
  refine WL.pure rfl rfl rfl ((by first | exact PV.len rfl (by assumption) T.sl28 | exact PV.lenOs rfl (by assumption) T.sl28 | exact PV.len rfl (NL.rd (by assumption)) T.sl28 | exact PV.len rfl (Inn.rd (by assumption) (by omega)) T.sl28)) ?_
  refine WL.pure rfl rfl rfl (PV.neq rfl rfl) ?_
  refine WL.nilS ?_
  refine CW.cond rfl (fun hc1 => ?_) (fun hc1 => ?_)
  · skip
    try simp only [nq] at hc1
    refine CW.seq ?_
    refine CW.reg ?_
    refine WL.asg rfl rfl ?_
    refine WL.nilS ?_
    refine CW.ret ?_
    refine RQ.then ?_
    refine RQ.r1 rfl ?_
    refine ⟨?_, hB⟩
    first | exact bT (eq_of_takes (by omega) (by omega) he) | exact bF (by rintro rfl; simp_all)
  try simp only [nq] at hc1
  refine CW.skipS ?_
  refine CW.seq ?_
  refine CW.seq ?_
  refine CW.reg ?_
  refine WL.asg rfl rfl ?_
  refine WL.nilS ?_
  refine CW.block ?_
  refine CW.loop (σk := [(0, _), (1, _)]) (fun ρ wz m => ∃ (k : Nat), ρ = [(5, .int .i64 (k : Nat))] ∧ m = xs.length - k ∧ UpdL [] w wz ∧ (k ≤ xs.length) ∧ (xs.take k = ys.take k)) (ρ₀ := [(5, _)]) (m₀ := _) ⟨rfl, rfl, rfl, trivial⟩ ⟨0, rfl, rfl, (UpdL.refl _ _), (by first | omega | rfl | (simp; done) | assumption | (simp_all; done)), (by first | omega | rfl | (simp; done) | assumption | (simp_all; done))⟩ ?_
  rintro _ wl1 _ ⟨k, rfl, rfl, hU0, hk, he⟩
  have hB := hB.loop hU0 trivial
  refine CW.seq ?_
  refine CW.seq ?_
  refine CW.reg ?_
  refine WL.mv rfl rfl ?_
  refine WL.mv rfl rfl ?_
  refine WL.pure rfl rfl rfl ((by first | exact PV.len rfl (by assumption) T.sl28 | exact PV.lenOs rfl (by assumption) T.sl28 | exact PV.len rfl (NL.rd (by assumption)) T.sl28 | exact PV.len rfl (Inn.rd (by assumption) (by omega)) T.sl28)) ?_
  refine WL.pure rfl rfl rfl (PV.lss rfl rfl) ?_
  refine WL.nilS ?_
  refine CW.cond rfl (fun hc2 => ?_) (fun hc2 => ?_)
  · skip
    try simp only [nq] at hc2
    refine CW.skipS ?_
    refine CW.seq ?_
    refine CW.block ?_
    refine CW.seq ?_
    refine CW.draw T.mixed (by kernel_rfl) (fun _ _ _ _ _ h => h) (fun w8 w9 => Upd none w8 w9) 9 (.take 0 (.take 1 (.take 2 (.take 3 (.take 4 (.take 5 (.take 6 (.take 7 (.take 8 .done))))))))) (by kernel_rfl) (fun w1 hXd => ?_)
    have hB := hB.trans hXd
    have hU0 := hU0.ext hXd
    have hBr := hB
    have hS : Upd none w1 w1 := Ext.toUpd (Ext.refl _)
    refine HP.take rfl rfl rfl rfl hS (fun wS hS1 => PV.move rfl) ?_
    refine HP.take rfl rfl rfl rfl hS (fun wS hS1 => PV.move rfl) ?_
    first
      | refine HP.at (x := .tmp 17) (y := .tmp 18) (E := EI) (0) rfl rfl (by first | assumption | exact Inn.rd (by assumption) (by omega)) (by first | omega | (simp only [List.length_set]; omega) | (simp only [List.length_append, List.length_take, List.length_replicate, List.length_drop]; omega)) (fun p1 csp1 hpp1 hcp1 hq => ?_)
      | refine HP.atZ (x := .tmp 17) (y := .tmp 18) (E := EI) (0) rfl rfl (by first | assumption | exact Inn.rd (by assumption) (by omega)) (by first | omega | (simp only [List.length_set]; omega) | (simp only [List.length_append, List.length_take, List.length_replicate, List.length_drop]; omega)) (fun p1 csp1 hpp1 hzp1 hcp1 hq => ?_)
    cases hq
    refine HP.take rfl rfl rfl rfl hS (fun wS hS1 => (by first | exact PV.indexAddr hpp1 rfl rfl T.sl28 | exact PV.indexAddr hpp1 rfl (by rw [← hzp1]; rfl) T.sl28)) ?_
    refine HP.take rfl rfl rfl rfl hS (fun wS hS1 => (by first | exact PV.load0 T.na2 rfl (by first | exact Cells.up (by assumption) (hBr.trans hS1) | exact Bx.cells (Bx.updD (by assumption) hS1 (Dj.nlR _)) | exact Cells.upd (by assumption) hS1 (by simp)) (Ext.refl _) rfl | exact PV.load1 T.na2 rfl (by first | exact Cells.up (by assumption) (hBr.trans hS1) | exact Bx.cells (Bx.updD (by assumption) hS1 (Dj.nlR _)) | exact Cells.upd (by assumption) hS1 (by simp)) (Ext.refl _) rfl)) ?_
    refine HP.take rfl rfl rfl rfl hS (fun wS hS1 => PV.move rfl) ?_
    refine HP.take rfl rfl rfl rfl hS (fun wS hS1 => PV.move rfl) ?_
    first
      | refine HP.at (x := .tmp 21) (y := .tmp 22) (E := EI) (0) rfl rfl (by first | assumption | exact Inn.rd (by assumption) (by omega)) (by first | omega | (simp only [List.length_set]; omega) | (simp only [List.length_append, List.length_take, List.length_replicate, List.length_drop]; omega)) (fun p2 csp2 hpp2 hcp2 hq => ?_)
      | refine HP.atZ (x := .tmp 21) (y := .tmp 22) (E := EI) (0) rfl rfl (by first | assumption | exact Inn.rd (by assumption) (by omega)) (by first | omega | (simp only [List.length_set]; omega) | (simp only [List.length_append, List.length_take, List.length_replicate, List.length_drop]; omega)) (fun p2 csp2 hpp2 hzp2 hcp2 hq => ?_)
    cases hq
    refine HP.take rfl rfl rfl rfl hS (fun wS hS1 => (by first | exact PV.indexAddr hpp2 rfl rfl T.sl28 | exact PV.indexAddr hpp2 rfl (by rw [← hzp2]; rfl) T.sl28)) ?_
    refine HP.take rfl rfl rfl rfl hS (fun wS hS1 => (by first | exact PV.load0 T.na2 rfl (by first | exact Cells.up (by assumption) (hBr.trans hS1) | exact Bx.cells (Bx.updD (by assumption) hS1 (Dj.nlR _)) | exact Cells.upd (by assumption) hS1 (by simp)) (Ext.refl _) rfl | exact PV.load1 T.na2 rfl (by first | exact Cells.up (by assumption) (hBr.trans hS1) | exact Bx.cells (Bx.updD (by assumption) hS1 (Dj.nlR _)) | exact Cells.upd (by assumption) hS1 (by simp)) (Ext.refl _) rfl)) ?_
    refine HP.take rfl rfl rfl rfl hS (fun wS hS1 => PV.neq rfl rfl) ?_
    refine HP.doneS ?_
    refine CW.cond rfl (fun hc3 => ?_) (fun hc3 => ?_)
    · skip
      try simp only [nq] at hc3
      refine CW.seq ?_
      refine CW.reg ?_
      refine WL.asg rfl rfl ?_
      refine WL.nilS ?_
      refine CW.ret ?_
      refine RQ.block ?_
      refine RQ.then ?_
      refine RQ.then ?_
      refine RQ.block ?_
      refine RQ.then ?_
      refine RQ.r1 rfl ?_
      refine ⟨?_, hB⟩
      first | exact bT (eq_of_takes (by omega) (by omega) he) | exact bF (by rintro rfl; simp_all)
    try simp only [nq] at hc3
    refine CW.skip ?_
    refine NQ.block ?_
    refine NQ.then ?_
    refine CW.reg ?_
    refine WL.mv rfl rfl ?_
    refine WL.pure rfl rfl rfl (PV.add rfl rfl (by constructor <;> omega)) ?_
    refine WL.asg rfl rfl ?_
    refine WL.nil ?_
    refine NQ.next (ρ := [(5, _)]) ⟨rfl, rfl, rfl, trivial⟩ ?_
    exact ⟨_, ⟨k + 1, rfl, rfl, hU0, (by first | omega | assumption | (simp_all; done) | (simp_all; omega)), (by exact take_eq_succ (by omega) (by omega) he (by assumption))⟩, by omega⟩
  try simp only [nq] at hc2
  refine CW.exit ?_
  refine XQ.then ?_
  refine XQ.then ?_
  refine XQ.here ?_
  refine NQ.then ?_
  refine CW.seq ?_
  refine CW.reg ?_
  refine WL.asg rfl rfl ?_
  refine WL.nilS ?_
  refine CW.ret ?_
  refine RQ.r1 rfl ?_
  refine ⟨?_, hB⟩
  first | exact bT (eq_of_takes (by omega) (by omega) he) | exact bF (by rintro rfl; simp_all)
theorem c_laws_r8Back {w : World} {va : Value} {xs : List Int} (ha : Rd EI w va xs) (hN : xs.length ≤ 1000) : Calls Try.prog 31 #[va] w (Ret1 (fun v w' => Ext w w' ∧ ∃ u og_u, v = u ∧ Osl VI w' og_u u (xs.reverse) ∧ Lo w og_u)) := by
  have hB : Ext w w := Ext.refl w
  have hla := ha.leI
  refine callsOf (vs := [_]) Try.func31 rfl Try.ntmps31 rfl rfl ?_
  refine CW.seq ?_
  refine CW.reg ?_
  refine WL.asg rfl rfl ?_
  refine WL.nilS ?_
  refine CW.seq ?_
  refine CW.reg ?_
  refine WL.op rfl (OpK.buildS VI (os := []) [] rfl T.sl28 rfl rfl T.zv2 rfl (by intro z hz; cases hz) rfl (fun v1 g1 w1 hXw1 ho1 hge1 => ?_))
  have hl1 := Lo.new hB hge1
  have hB := hB.trans hXw1
  refine WL.asg rfl rfl ?_
  refine WL.nilS ?_
  refine CW.seq ?_
  refine CW.seq ?_
  refine CW.reg ?_
  refine WL.mv rfl rfl ?_
  refine WL.pure rfl rfl rfl ((by first | exact PV.len rfl (by assumption) T.sl28 | exact PV.lenOs rfl (by assumption) T.sl28 | exact PV.len rfl (NL.rd (by assumption)) T.sl28 | exact PV.len rfl (Inn.rd (by assumption) (by omega)) T.sl28)) ?_
  refine WL.pure rfl rfl rfl (PV.sub rfl rfl (by constructor <;> omega)) ?_
  refine WL.asg rfl rfl ?_
  refine WL.nilS ?_
  refine CW.block ?_
  have hlt1 := ho1.ltO
  refine CW.loop (σk := [(0, _)]) (fun ρ wz m => ∃ (v2 : Value) (og2 : Option Nat) (k : Nat), ρ = [(3, v2), (4, .int .i64 ((xs.length : Int) - 1 - (k : Nat)))] ∧ m = xs.length - k ∧ UpdL [(some g1)] w1 wz ∧ Osl VI wz og2 v2 (xs.reverse.take k) ∧ OgR w1 (some g1) og2 ∧ (k ≤ xs.length)) (ρ₀ := [(3, _), (4, _)]) (m₀ := _) ⟨rfl, rfl, rfl, trivial⟩ ⟨v1, (some g1), 0, (by simp), rfl, (UpdL.refl _ _), osE ho1 (by rfl), OgR.refl _ _, (by first | omega | rfl | (simp; done) | assumption | (simp_all; done))⟩ ?_
  rintro _ wl1 _ ⟨v2, og2, k, rfl, rfl, hU0, ho2, ha2, hk⟩
  have hl2 := Lo.ogr hl1 hB ha2
  have hg0_2 := ha2
  have hk0_2 : OkB [(some g1)] w1 og2 := OkB.ogr (OkB.mem (by simp)) (Nat.le_refl _) ha2
  have hB := hB.loop hU0 ⟨hl1, trivial⟩
  refine CW.seq ?_
  refine CW.seq ?_
  refine CW.reg ?_
  refine WL.mv rfl rfl ?_
  refine WL.pure rfl rfl rfl (PV.geq rfl rfl) ?_
  refine WL.nilS ?_
  refine CW.cond rfl (fun hc1 => ?_) (fun hc1 => ?_)
  · skip
    try simp only [nq] at hc1
    refine CW.skipS ?_
    refine CW.seq ?_
    refine CW.block ?_
    refine CW.reg ?_
    have e9 : ((xs.length : Int) - 1 - (k : Nat)).toNat = xs.length - 1 - k := (by omega); have hlr := List.length_take (i := k) (l := xs.reverse); have hlr2 : xs.reverse.length = xs.length := List.length_reverse
    refine WL.mv rfl rfl ?_
    refine WL.mv rfl rfl ?_
    refine WL.mv rfl rfl ?_
    first
      | refine WL.at (x := .tmp 14) (y := .tmp 15) (E := EI) (0) rfl rfl (by first | assumption | exact Inn.rd (by assumption) (by omega)) (by omega) (fun p1 csp1 hpp1 hcp1 hq => ?_)
      | refine WL.atZ (x := .tmp 14) (y := .tmp 15) (E := EI) (0) rfl rfl (by first | assumption | exact Inn.rd (by assumption) (by omega)) (by omega) (fun p1 csp1 hpp1 hzp1 hcp1 hq => ?_)
    cases hq
    refine WL.pure rfl rfl rfl ((by first | exact PV.indexAddr hpp1 rfl rfl T.sl28 | exact PV.indexAddr hpp1 rfl (by rw [← hzp1]; rfl) T.sl28)) ?_
    refine WL.pure rfl rfl rfl ((by first | exact PV.load0 T.na2 rfl (by first | exact Cells.up (by assumption) hB | exact Bx.cells (by assumption) | assumption) (Ext.refl _) rfl | exact PV.load1 T.na2 rfl (by first | exact Cells.up (by assumption) hB | exact Bx.cells (by assumption) | assumption) (Ext.refl _) rfl)) ?_
    refine WL.op rfl (OpK.buildS VI (os := [.tmp 17]) [_] rfl T.sl28 rfl rfl T.zv2 rfl (by intro z hz; first | rfl | (simp only [List.mem_cons, List.not_mem_nil, or_false] at hz; subst hz; exact (by first | exact Rd.cells1 (by assumption) | exact Osl.cells1 (by assumption) | exact Osn.cells1 (by assumption) | exact Rd.cells1 (NL.rd (by assumption)) | exact Inn.cell1 (by assumption) (by omega) | assumption | rfl))) rfl (fun v3 g3 w2 hXw2 ho3 hge3 => ?_))
    have hl3 := Lo.new hB hge3
    have hd2_3 := Dj.new ho2.ltO hge3
    have hk0_3 := OkN.new hU0 hge3
    have hg0_3 := OgR.new hU0.size hge3
    have hB := hB.trans hXw2
    have ho2 := ho2.up hXw2
    have hU0 := hU0.ext hXw2
    refine WL.op rfl (OpK.appendS (f := VI) rfl T.sl28 T.zv2 rfl rfl ho2 rfl (Osl.src ho3 (fun _ => rfl)) (by first | (simp only [List.length_cons, List.length_nil]; omega) | (omega)) (fun v4 og4 w3 hXw3 ho4 hap4 => ?_))
    have hl4 := Lo.app hl2 hB hap4
    have hd3_4 := Dj.app (Dj.symm hd2_3) ho3.ltO hap4
    have hk0_4 := OkN.app hU0 hk0_2 hap4
    have hg0_4 := OgR.app hg0_2 hU0.size hap4
    have hB := hB.updL hXw3 hl2
    have ho3 := ho3.updD hXw3 (Dj.symm hd2_3)
    have hU0 := hU0.step hXw3 hk0_2
    refine WL.asg rfl rfl ?_
    refine WL.nil ?_
    refine NQ.block ?_
    refine NQ.then ?_
    refine CW.reg ?_
    refine WL.mv rfl rfl ?_
    refine WL.pure rfl rfl rfl (PV.sub rfl rfl (by constructor <;> omega)) ?_
    refine WL.asg rfl rfl ?_
    refine WL.nil ?_
    refine NQ.next (ρ := [(3, _), (4, _)]) ⟨rfl, rfl, rfl, trivial⟩ ?_
    exact ⟨_, ⟨v4, og4, k + 1, (by simp; omega), rfl, hU0, osE ho4 (by rw [e9, rev_put (by omega)]), (by first | exact hg0_4 | exact OgR.weak hg0_4), (by first | omega | assumption | (simp_all; done) | (simp_all; omega))⟩, by omega⟩
  try simp only [nq] at hc1
  refine CW.exit ?_
  refine XQ.then ?_
  refine XQ.then ?_
  refine XQ.here ?_
  refine NQ.then ?_
  refine CW.seq ?_
  refine CW.reg ?_
  refine WL.mv rfl rfl ?_
  refine WL.asg rfl rfl ?_
  refine WL.nilS ?_
  refine CW.ret ?_
  refine RQ.r1 rfl ?_
  refine ⟨hB, v2, og2, ?_, osE ho2 ?_, hl2⟩
  · skip
    rfl
  · skip
    rw [show k = xs.reverse.length from (by rw [List.length_reverse]; omega), List.take_length]
theorem c_impl_areWithin {w : World} {va : Value} {xs : List Int} {lo hi : Int} (ha : Rd EI w va xs) : Calls Try.prog 144 #[va, .int .i64 lo, .int .i64 hi] w (Ret1 (RQt (.bool (allIn xs lo hi)) w)) := by
  have hB : Ext w w := Ext.refl w
  have hla := ha.leI
  refine callsOf (vs := [_, _, _]) Try.func144 rfl Try.ntmps144 rfl rfl ?_
  refine CW.seq ?_
  refine CW.reg ?_
  refine WL.asg rfl rfl ?_
  refine WL.nilS ?_
  refine CW.seq ?_
  refine CW.seq ?_
  refine CW.reg ?_
  refine WL.mv rfl rfl ?_
  refine WL.pure rfl rfl rfl ((by first | exact PV.len rfl (by assumption) T.sl28 | exact PV.lenOs rfl (by assumption) T.sl28 | exact PV.len rfl (NL.rd (by assumption)) T.sl28 | exact PV.len rfl (Inn.rd (by assumption) (by omega)) T.sl28)) ?_
  refine WL.mv rfl rfl ?_
  refine WL.nilS ?_
  refine CW.block ?_
  refine CW.loop (σk := [(1, _), (2, _), (9, _), (10, _)]) (fun ρ wz m => ∃ (k : Nat), ρ = [(11, .int .i64 (k : Nat))] ∧ m = xs.length - k ∧ UpdL [] w wz ∧ (k ≤ xs.length) ∧ (allIn (xs.take k) lo hi = true)) (ρ₀ := [(11, _)]) (m₀ := _) ⟨rfl, rfl, rfl, rfl, rfl, trivial⟩ ⟨0, rfl, rfl, (UpdL.refl _ _), (by first | omega | rfl | (simp; done) | assumption | (simp_all; done)), (by exact allIn_zero _ _ _)⟩ ?_
  rintro _ wl1 _ ⟨k, rfl, rfl, hU0, hk, he⟩
  have hB := hB.loop hU0 trivial
  refine CW.seq ?_
  refine CW.reg ?_
  refine WL.pure rfl rfl rfl (PV.lss rfl rfl) ?_
  refine WL.nilS ?_
  refine CW.seq ?_
  refine CW.cond rfl (fun hc1 => ?_) (fun hc1 => ?_)
  · skip
    try simp only [nq] at hc1
    refine CW.skipS ?_
    refine CW.seq ?_
    refine CW.block ?_
    refine CW.seq ?_
    refine CW.reg ?_
    first
      | refine WL.at (x := .tmp 9) (y := .tmp 11) (E := EI) (0) rfl rfl (by first | assumption | exact Inn.rd (by assumption) (by omega)) (by first | omega | (simp only [List.length_set]; omega) | (simp only [List.length_append, List.length_take, List.length_replicate, List.length_drop]; omega)) (fun p1 csp1 hpp1 hcp1 hq => ?_)
      | refine WL.atZ (x := .tmp 9) (y := .tmp 11) (E := EI) (0) rfl rfl (by first | assumption | exact Inn.rd (by assumption) (by omega)) (by first | omega | (simp only [List.length_set]; omega) | (simp only [List.length_append, List.length_take, List.length_replicate, List.length_drop]; omega)) (fun p1 csp1 hpp1 hzp1 hcp1 hq => ?_)
    cases hq
    refine WL.pure rfl rfl rfl ((by first | exact PV.indexAddr hpp1 rfl rfl T.sl28 | exact PV.indexAddr hpp1 rfl (by rw [← hzp1]; rfl) T.sl28)) ?_
    refine WL.pure rfl rfl rfl ((by first | exact PV.load0 T.na2 rfl (by first | exact Cells.up (by assumption) hB | exact Bx.cells (by assumption) | assumption) (Ext.refl _) rfl | exact PV.load1 T.na2 rfl (by first | exact Cells.up (by assumption) hB | exact Bx.cells (by assumption) | assumption) (Ext.refl _) rfl)) ?_
    refine WL.asg rfl rfl ?_
    refine WL.nilS ?_
    refine CW.seq ?_
    refine CW.reg ?_
    refine WL.mv rfl rfl ?_
    refine WL.mv rfl rfl ?_
    refine WL.mv rfl rfl ?_
    refine WL.op rfl (OpK.callR rfl T.cf104 rfl (c_impl_within) (fun w1 hXw1 => ?_))
    have hB := hB.trans hXw1
    have hU0 := hU0.ext hXw1
    refine WL.pure rfl rfl rfl (PV.not rfl) ?_
    refine WL.nilS ?_
    refine CW.cond rfl (fun hc2 => ?_) (fun hc2 => ?_)
    · skip
      try simp only [nq] at hc2
      refine CW.seq ?_
      refine CW.reg ?_
      refine WL.asg rfl rfl ?_
      refine WL.nilS ?_
      refine CW.ret ?_
      refine RQ.block ?_
      refine RQ.then ?_
      refine RQ.then ?_
      refine RQ.block ?_
      refine RQ.then ?_
      refine RQ.r1 rfl ?_
      refine ⟨?_, hB⟩
      exact bE (allIn_bad (k := k) (by omega) (by assumption)).symm
    try simp only [nq] at hc2
    refine CW.skip ?_
    refine NQ.block ?_
    refine NQ.then ?_
    refine CW.reg ?_
    refine WL.pure rfl rfl rfl (PV.add rfl rfl (by constructor <;> omega)) ?_
    refine WL.mv rfl rfl ?_
    refine WL.nil ?_
    refine NQ.next (ρ := [(11, _)]) ⟨rfl, rfl, rfl, rfl, rfl, trivial⟩ ?_
    exact ⟨_, ⟨k + 1, rfl, rfl, hU0, (by first | omega | assumption | (simp_all; done) | (simp_all; omega)), (by exact allIn_step (by omega) he (by assumption))⟩, by omega⟩
  try simp only [nq] at hc1
  refine CW.exit ?_
  refine XQ.then ?_
  refine XQ.then ?_
  refine XQ.here ?_
  refine NQ.then ?_
  refine CW.seq ?_
  refine CW.reg ?_
  refine WL.asg rfl rfl ?_
  refine WL.nilS ?_
  refine CW.ret ?_
  refine RQ.r1 rfl ?_
  refine ⟨?_, hB⟩
  exact bE (allIn_all (k := k) (by omega) he).symm
theorem c_impl_ValidTrees {w : World} {a0 : Int} {a1 : Int} {va2 : Value} {xa2 : List Int} {va3 : Value} {xa3 : List Int} {va4 : Value} {xa4 : List Bool}  (ha2 : Rd EI w va2 xa2) (ha3 : Rd EI w va3 xa3) (ha4 : Rd EB w va4 xa4) : Calls Try.prog 56 #[.agg #[.int .i64 a0, .int .i64 a1, va2, va3, va4]] w (Ret1 (RQt (.bool (decide ((1 ≤ a0 ∧ a0 ≤ 16) ∧ (1 ≤ a1 ∧ a1 ≤ 4) ∧ (xa2.length : Int) = a1 ∧ (xa3.length : Int) = a0 * a0 ∧ (xa4.length : Int) = a0 ∧ allIn xa2 0 (a0 - 1) = true ∧ allIn xa3 0 (a0 - 1) = true))) w)) := by
  have hB : Ext w w := Ext.refl w
  have hla2 := ha2.leI; have hla3 := ha3.leI; have hla4 := ha4.leI
  refine callsOf (vs := [_]) Try.func56 rfl Try.ntmps56 rfl rfl ?_
  refine CW.seq ?_
  refine CW.reg ?_
  refine WL.op rfl (OpK.box rfl rfl (by first | exact Rd.cells1 (by assumption) | exact Osl.cells1 (by assumption) | exact Osn.cells1 (by assumption) | exact Rd.cells1 (NL.rd (by assumption)) | exact Inn.cell1 (by assumption) (by omega) | assumption | rfl) (fun b1 w1 hXw1 hb1 hge1 => ?_))
  have hl1 := Lo.new hB hge1
  have hB := hB.trans hXw1
  refine WL.asg rfl rfl ?_
  refine WL.nilS ?_
  refine CW.seq ?_
  refine CW.reg ?_
  refine WL.pure rfl rfl rfl (PV.fieldAddr T.fl72_0 rfl hb1.cells) ?_
  refine WL.pure rfl rfl rfl (PV.load1 T.na2 rfl hb1.cells (Ext.refl _) rfl) ?_
  refine WL.op rfl (OpK.callR rfl T.cf104 rfl (c_impl_within) (fun w2 hXw2 => ?_))
  have hB := hB.trans hXw2
  have hb1 := hb1.up hXw2
  refine WL.mv rfl rfl ?_
  refine WL.split (t := 6) rfl (fun hc1 => ?_) (fun hc1 => ?_)
  rotate_left
  · skip
    try simp only [nq] at hc1
    refine WL.skip rfl rfl rfl rfl rfl ?_
    refine WL.skip rfl rfl rfl rfl rfl ?_
    refine WL.skip rfl rfl rfl rfl rfl ?_
    refine WL.pure rfl rfl rfl (PV.pickF rfl rfl) ?_
    refine WL.mv rfl rfl ?_
    refine WL.skip rfl rfl rfl rfl rfl ?_
    refine WL.skip rfl rfl rfl rfl rfl ?_
    refine WL.skip rfl rfl rfl rfl rfl ?_
    refine WL.skip rfl rfl rfl rfl rfl ?_
    refine WL.skip rfl rfl rfl rfl rfl ?_
    refine WL.skip rfl rfl rfl rfl rfl ?_
    refine WL.pure rfl rfl rfl (PV.pickF rfl rfl) ?_
    refine WL.mv rfl rfl ?_
    refine WL.skip rfl rfl rfl rfl rfl ?_
    refine WL.skip rfl rfl rfl rfl rfl ?_
    refine WL.skip rfl rfl rfl rfl rfl ?_
    refine WL.skip rfl rfl rfl rfl rfl ?_
    refine WL.skip rfl rfl rfl rfl rfl ?_
    refine WL.skip rfl rfl rfl rfl rfl ?_
    refine WL.pure rfl rfl rfl (PV.pickF rfl rfl) ?_
    refine WL.mv rfl rfl ?_
    refine WL.skip rfl rfl rfl rfl rfl ?_
    refine WL.skip rfl rfl rfl rfl rfl ?_
    refine WL.skip rfl rfl rfl rfl rfl ?_
    refine WL.skip rfl rfl rfl rfl rfl ?_
    refine WL.skip rfl rfl rfl rfl rfl ?_
    refine WL.skip rfl rfl rfl rfl rfl ?_
    refine WL.skip rfl rfl rfl rfl rfl ?_
    refine WL.skip rfl rfl rfl rfl rfl ?_
    refine WL.skip rfl rfl rfl rfl rfl ?_
    refine WL.pure rfl rfl rfl (PV.pickF rfl rfl) ?_
    refine WL.mv rfl rfl ?_
    refine WL.skip rfl rfl rfl rfl rfl ?_
    refine WL.skip rfl rfl rfl rfl rfl ?_
    refine WL.skip rfl rfl rfl rfl rfl ?_
    refine WL.skip rfl rfl rfl rfl rfl ?_
    refine WL.skip rfl rfl rfl rfl rfl ?_
    refine WL.skip rfl rfl rfl rfl rfl ?_
    refine WL.pure rfl rfl rfl (PV.pickF rfl rfl) ?_
    refine WL.mv rfl rfl ?_
    refine WL.skip rfl rfl rfl rfl rfl ?_
    refine WL.skip rfl rfl rfl rfl rfl ?_
    refine WL.skip rfl rfl rfl rfl rfl ?_
    refine WL.skip rfl rfl rfl rfl rfl ?_
    refine WL.skip rfl rfl rfl rfl rfl ?_
    refine WL.skip rfl rfl rfl rfl rfl ?_
    refine WL.pure rfl rfl rfl (PV.pickF rfl rfl) ?_
    refine WL.asg rfl rfl ?_
    refine WL.nilS ?_
    refine CW.ret ?_
    refine RQ.r1 rfl ?_
    refine ⟨?_, hB⟩
    first | exact bD ⟨fun h => ⟨by omega, by omega, by omega, by omega, by omega, by assumption, by assumption⟩, fun h => h.2.2.2.2.1⟩ | exact bF (by rintro ⟨h1, h2, h3, h4, h5, h6, h7⟩; first | omega | (simp_all; done))
  try simp only [nq] at hc1
  refine WL.pureG rfl rfl rfl rfl rfl (PV.fieldAddr T.fl72_1 rfl hb1.cells) ?_
  refine WL.pureG rfl rfl rfl rfl rfl (PV.load1 T.na2 rfl hb1.cells (Ext.refl _) rfl) ?_
  refine WL.opG rfl rfl rfl (OpK.callR rfl T.cf104 rfl (c_impl_within) (fun w3 hXw3 => ?_))
  have hB := hB.trans hXw3
  have hb1 := hb1.up hXw3
  refine WL.pure rfl rfl rfl (PV.pickT rfl rfl) ?_
  refine WL.mv rfl rfl ?_
  refine WL.split (t := 11) rfl (fun hc2 => ?_) (fun hc2 => ?_)
  rotate_left
  · skip
    try simp only [nq] at hc2
    refine WL.skip rfl rfl rfl rfl rfl ?_
    refine WL.skip rfl rfl rfl rfl rfl ?_
    refine WL.skip rfl rfl rfl rfl rfl ?_
    refine WL.skip rfl rfl rfl rfl rfl ?_
    refine WL.skip rfl rfl rfl rfl rfl ?_
    refine WL.skip rfl rfl rfl rfl rfl ?_
    refine WL.pure rfl rfl rfl (PV.pickF rfl rfl) ?_
    refine WL.mv rfl rfl ?_
    refine WL.skip rfl rfl rfl rfl rfl ?_
    refine WL.skip rfl rfl rfl rfl rfl ?_
    refine WL.skip rfl rfl rfl rfl rfl ?_
    refine WL.skip rfl rfl rfl rfl rfl ?_
    refine WL.skip rfl rfl rfl rfl rfl ?_
    refine WL.skip rfl rfl rfl rfl rfl ?_
    refine WL.pure rfl rfl rfl (PV.pickF rfl rfl) ?_
    refine WL.mv rfl rfl ?_
    refine WL.skip rfl rfl rfl rfl rfl ?_
    refine WL.skip rfl rfl rfl rfl rfl ?_
    refine WL.skip rfl rfl rfl rfl rfl ?_
    refine WL.skip rfl rfl rfl rfl rfl ?_
    refine WL.skip rfl rfl rfl rfl rfl ?_
    refine WL.skip rfl rfl rfl rfl rfl ?_
    refine WL.skip rfl rfl rfl rfl rfl ?_
    refine WL.skip rfl rfl rfl rfl rfl ?_
    refine WL.skip rfl rfl rfl rfl rfl ?_
    refine WL.pure rfl rfl rfl (PV.pickF rfl rfl) ?_
    refine WL.mv rfl rfl ?_
    refine WL.skip rfl rfl rfl rfl rfl ?_
    refine WL.skip rfl rfl rfl rfl rfl ?_
    refine WL.skip rfl rfl rfl rfl rfl ?_
    refine WL.skip rfl rfl rfl rfl rfl ?_
    refine WL.skip rfl rfl rfl rfl rfl ?_
    refine WL.skip rfl rfl rfl rfl rfl ?_
    refine WL.pure rfl rfl rfl (PV.pickF rfl rfl) ?_
    refine WL.mv rfl rfl ?_
    refine WL.skip rfl rfl rfl rfl rfl ?_
    refine WL.skip rfl rfl rfl rfl rfl ?_
    refine WL.skip rfl rfl rfl rfl rfl ?_
    refine WL.skip rfl rfl rfl rfl rfl ?_
    refine WL.skip rfl rfl rfl rfl rfl ?_
    refine WL.skip rfl rfl rfl rfl rfl ?_
    refine WL.pure rfl rfl rfl (PV.pickF rfl rfl) ?_
    refine WL.asg rfl rfl ?_
    refine WL.nilS ?_
    refine CW.ret ?_
    refine RQ.r1 rfl ?_
    refine ⟨?_, hB⟩
    first | exact bD ⟨fun h => ⟨by omega, by omega, by omega, by omega, by omega, by assumption, by assumption⟩, fun h => h.2.2.2.2.1⟩ | exact bF (by rintro ⟨h1, h2, h3, h4, h5, h6, h7⟩; first | omega | (simp_all; done))
  try simp only [nq] at hc2
  refine WL.pureG rfl rfl rfl rfl rfl (PV.fieldAddr T.fl72_2 rfl hb1.cells) ?_
  refine WL.pureG rfl rfl rfl rfl rfl (PV.load1 T.na28 rfl hb1.cells (Ext.refl _) rfl) ?_
  refine WL.pureG rfl rfl rfl rfl rfl ((by first | exact PV.len rfl (by assumption) T.sl28 | exact PV.lenOs rfl (by assumption) T.sl28 | exact PV.len rfl (NL.rd (by assumption)) T.sl28 | exact PV.len rfl (Inn.rd (by assumption) (by omega)) T.sl28)) ?_
  refine WL.pureG rfl rfl rfl rfl rfl (PV.fieldAddr T.fl72_1 rfl hb1.cells) ?_
  refine WL.pureG rfl rfl rfl rfl rfl (PV.load1 T.na2 rfl hb1.cells (Ext.refl _) rfl) ?_
  refine WL.pureG rfl rfl rfl rfl rfl (PV.eql rfl rfl) ?_
  refine WL.pure rfl rfl rfl (PV.pickT rfl rfl) ?_
  refine WL.mv rfl rfl ?_
  refine WL.split (t := 19) rfl (fun hc3 => ?_) (fun hc3 => ?_)
  rotate_left
  · skip
    try simp only [nq] at hc3
    refine WL.skip rfl rfl rfl rfl rfl ?_
    refine WL.skip rfl rfl rfl rfl rfl ?_
    refine WL.skip rfl rfl rfl rfl rfl ?_
    refine WL.skip rfl rfl rfl rfl rfl ?_
    refine WL.skip rfl rfl rfl rfl rfl ?_
    refine WL.skip rfl rfl rfl rfl rfl ?_
    refine WL.pure rfl rfl rfl (PV.pickF rfl rfl) ?_
    refine WL.mv rfl rfl ?_
    refine WL.skip rfl rfl rfl rfl rfl ?_
    refine WL.skip rfl rfl rfl rfl rfl ?_
    refine WL.skip rfl rfl rfl rfl rfl ?_
    refine WL.skip rfl rfl rfl rfl rfl ?_
    refine WL.skip rfl rfl rfl rfl rfl ?_
    refine WL.skip rfl rfl rfl rfl rfl ?_
    refine WL.skip rfl rfl rfl rfl rfl ?_
    refine WL.skip rfl rfl rfl rfl rfl ?_
    refine WL.skip rfl rfl rfl rfl rfl ?_
    refine WL.pure rfl rfl rfl (PV.pickF rfl rfl) ?_
    refine WL.mv rfl rfl ?_
    refine WL.skip rfl rfl rfl rfl rfl ?_
    refine WL.skip rfl rfl rfl rfl rfl ?_
    refine WL.skip rfl rfl rfl rfl rfl ?_
    refine WL.skip rfl rfl rfl rfl rfl ?_
    refine WL.skip rfl rfl rfl rfl rfl ?_
    refine WL.skip rfl rfl rfl rfl rfl ?_
    refine WL.pure rfl rfl rfl (PV.pickF rfl rfl) ?_
    refine WL.mv rfl rfl ?_
    refine WL.skip rfl rfl rfl rfl rfl ?_
    refine WL.skip rfl rfl rfl rfl rfl ?_
    refine WL.skip rfl rfl rfl rfl rfl ?_
    refine WL.skip rfl rfl rfl rfl rfl ?_
    refine WL.skip rfl rfl rfl rfl rfl ?_
    refine WL.skip rfl rfl rfl rfl rfl ?_
    refine WL.pure rfl rfl rfl (PV.pickF rfl rfl) ?_
    refine WL.asg rfl rfl ?_
    refine WL.nilS ?_
    refine CW.ret ?_
    refine RQ.r1 rfl ?_
    refine ⟨?_, hB⟩
    first | exact bD ⟨fun h => ⟨by omega, by omega, by omega, by omega, by omega, by assumption, by assumption⟩, fun h => h.2.2.2.2.1⟩ | exact bF (by rintro ⟨h1, h2, h3, h4, h5, h6, h7⟩; first | omega | (simp_all; done))
  try simp only [nq] at hc3
  refine WL.pureG rfl rfl rfl rfl rfl (PV.fieldAddr T.fl72_2 rfl hb1.cells) ?_
  refine WL.pureG rfl rfl rfl rfl rfl (PV.load1 T.na28 rfl hb1.cells (Ext.refl _) rfl) ?_
  refine WL.pureG rfl rfl rfl rfl rfl (PV.fieldAddr T.fl72_0 rfl hb1.cells) ?_
  refine WL.pureG rfl rfl rfl rfl rfl (PV.load1 T.na2 rfl hb1.cells (Ext.refl _) rfl) ?_
  refine WL.pureG rfl rfl rfl rfl rfl (PV.sub rfl rfl (by constructor <;> omega)) ?_
  refine WL.opG rfl rfl rfl (OpK.callR rfl T.cf144 rfl (c_impl_areWithin (by first | assumption | exact Rd.up (by assumption) hB | exact Osl.rd (by assumption) | exact Osn.rdR (by assumption) | exact NL.rd (by assumption) | exact rdII (by assumption) (by assumption) | exact Inn.rd (by assumption) (by omega))) (fun w4 hXw4 => ?_))
  have hB := hB.trans hXw4
  have hb1 := hb1.up hXw4
  refine WL.pure rfl rfl rfl (PV.pickT rfl rfl) ?_
  refine WL.mv rfl rfl ?_
  refine WL.split (t := 27) rfl (fun hc4 => ?_) (fun hc4 => ?_)
  rotate_left
  · skip
    try simp only [nq] at hc4
    refine WL.skip rfl rfl rfl rfl rfl ?_
    refine WL.skip rfl rfl rfl rfl rfl ?_
    refine WL.skip rfl rfl rfl rfl rfl ?_
    refine WL.skip rfl rfl rfl rfl rfl ?_
    refine WL.skip rfl rfl rfl rfl rfl ?_
    refine WL.skip rfl rfl rfl rfl rfl ?_
    refine WL.skip rfl rfl rfl rfl rfl ?_
    refine WL.skip rfl rfl rfl rfl rfl ?_
    refine WL.skip rfl rfl rfl rfl rfl ?_
    refine WL.pure rfl rfl rfl (PV.pickF rfl rfl) ?_
    refine WL.mv rfl rfl ?_
    refine WL.skip rfl rfl rfl rfl rfl ?_
    refine WL.skip rfl rfl rfl rfl rfl ?_
    refine WL.skip rfl rfl rfl rfl rfl ?_
    refine WL.skip rfl rfl rfl rfl rfl ?_
    refine WL.skip rfl rfl rfl rfl rfl ?_
    refine WL.skip rfl rfl rfl rfl rfl ?_
    refine WL.pure rfl rfl rfl (PV.pickF rfl rfl) ?_
    refine WL.mv rfl rfl ?_
    refine WL.skip rfl rfl rfl rfl rfl ?_
    refine WL.skip rfl rfl rfl rfl rfl ?_
    refine WL.skip rfl rfl rfl rfl rfl ?_
    refine WL.skip rfl rfl rfl rfl rfl ?_
    refine WL.skip rfl rfl rfl rfl rfl ?_
    refine WL.skip rfl rfl rfl rfl rfl ?_
    refine WL.pure rfl rfl rfl (PV.pickF rfl rfl) ?_
    refine WL.asg rfl rfl ?_
    refine WL.nilS ?_
    refine CW.ret ?_
    refine RQ.r1 rfl ?_
    refine ⟨?_, hB⟩
    first | exact bD ⟨fun h => ⟨by omega, by omega, by omega, by omega, by omega, by assumption, by assumption⟩, fun h => h.2.2.2.2.1⟩ | exact bF (by rintro ⟨h1, h2, h3, h4, h5, h6, h7⟩; first | omega | (simp_all; done))
  try simp only [nq] at hc4
  refine WL.pureG rfl rfl rfl rfl rfl (PV.fieldAddr T.fl72_3 rfl hb1.cells) ?_
  refine WL.pureG rfl rfl rfl rfl rfl (PV.load1 T.na28 rfl hb1.cells (Ext.refl _) rfl) ?_
  refine WL.pureG rfl rfl rfl rfl rfl ((by first | exact PV.len rfl (by assumption) T.sl28 | exact PV.lenOs rfl (by assumption) T.sl28 | exact PV.len rfl (NL.rd (by assumption)) T.sl28 | exact PV.len rfl (Inn.rd (by assumption) (by omega)) T.sl28)) ?_
  refine WL.pureG rfl rfl rfl rfl rfl (PV.fieldAddr T.fl72_0 rfl hb1.cells) ?_
  refine WL.pureG rfl rfl rfl rfl rfl (PV.load1 T.na2 rfl hb1.cells (Ext.refl _) rfl) ?_
  refine WL.pureG rfl rfl rfl rfl rfl (PV.fieldAddr T.fl72_0 rfl hb1.cells) ?_
  refine WL.pureG rfl rfl rfl rfl rfl (PV.load1 T.na2 rfl hb1.cells (Ext.refl _) rfl) ?_
  refine WL.pureG rfl rfl rfl rfl rfl (PV.mul rfl rfl (by constructor <;> (have hsq := sq16 (s := a0) (by omega); omega))) ?_
  refine WL.pureG rfl rfl rfl rfl rfl (PV.eql rfl rfl) ?_
  refine WL.pure rfl rfl rfl (PV.pickT rfl rfl) ?_
  refine WL.mv rfl rfl ?_
  refine WL.split (t := 38) rfl (fun hc5 => ?_) (fun hc5 => ?_)
  rotate_left
  · skip
    try simp only [nq] at hc5
    refine WL.skip rfl rfl rfl rfl rfl ?_
    refine WL.skip rfl rfl rfl rfl rfl ?_
    refine WL.skip rfl rfl rfl rfl rfl ?_
    refine WL.skip rfl rfl rfl rfl rfl ?_
    refine WL.skip rfl rfl rfl rfl rfl ?_
    refine WL.skip rfl rfl rfl rfl rfl ?_
    refine WL.pure rfl rfl rfl (PV.pickF rfl rfl) ?_
    refine WL.mv rfl rfl ?_
    refine WL.skip rfl rfl rfl rfl rfl ?_
    refine WL.skip rfl rfl rfl rfl rfl ?_
    refine WL.skip rfl rfl rfl rfl rfl ?_
    refine WL.skip rfl rfl rfl rfl rfl ?_
    refine WL.skip rfl rfl rfl rfl rfl ?_
    refine WL.skip rfl rfl rfl rfl rfl ?_
    refine WL.pure rfl rfl rfl (PV.pickF rfl rfl) ?_
    refine WL.asg rfl rfl ?_
    refine WL.nilS ?_
    refine CW.ret ?_
    refine RQ.r1 rfl ?_
    refine ⟨?_, hB⟩
    first | exact bD ⟨fun h => ⟨by omega, by omega, by omega, by omega, by omega, by assumption, by assumption⟩, fun h => h.2.2.2.2.1⟩ | exact bF (by rintro ⟨h1, h2, h3, h4, h5, h6, h7⟩; first | omega | (simp_all; done))
  try simp only [nq] at hc5
  refine WL.pureG rfl rfl rfl rfl rfl (PV.fieldAddr T.fl72_3 rfl hb1.cells) ?_
  refine WL.pureG rfl rfl rfl rfl rfl (PV.load1 T.na28 rfl hb1.cells (Ext.refl _) rfl) ?_
  refine WL.pureG rfl rfl rfl rfl rfl (PV.fieldAddr T.fl72_0 rfl hb1.cells) ?_
  refine WL.pureG rfl rfl rfl rfl rfl (PV.load1 T.na2 rfl hb1.cells (Ext.refl _) rfl) ?_
  refine WL.pureG rfl rfl rfl rfl rfl (PV.sub rfl rfl (by constructor <;> omega)) ?_
  refine WL.opG rfl rfl rfl (OpK.callR rfl T.cf144 rfl (c_impl_areWithin (by first | assumption | exact Rd.up (by assumption) hB | exact Osl.rd (by assumption) | exact Osn.rdR (by assumption) | exact NL.rd (by assumption) | exact rdII (by assumption) (by assumption) | exact Inn.rd (by assumption) (by omega))) (fun w5 hXw5 => ?_))
  have hB := hB.trans hXw5
  have hb1 := hb1.up hXw5
  refine WL.pure rfl rfl rfl (PV.pickT rfl rfl) ?_
  refine WL.mv rfl rfl ?_
  refine WL.split (t := 46) rfl (fun hc6 => ?_) (fun hc6 => ?_)
  rotate_left
  · skip
    try simp only [nq] at hc6
    refine WL.skip rfl rfl rfl rfl rfl ?_
    refine WL.skip rfl rfl rfl rfl rfl ?_
    refine WL.skip rfl rfl rfl rfl rfl ?_
    refine WL.skip rfl rfl rfl rfl rfl ?_
    refine WL.skip rfl rfl rfl rfl rfl ?_
    refine WL.skip rfl rfl rfl rfl rfl ?_
    refine WL.pure rfl rfl rfl (PV.pickF rfl rfl) ?_
    refine WL.asg rfl rfl ?_
    refine WL.nilS ?_
    refine CW.ret ?_
    refine RQ.r1 rfl ?_
    refine ⟨?_, hB⟩
    first | exact bD ⟨fun h => ⟨by omega, by omega, by omega, by omega, by omega, by assumption, by assumption⟩, fun h => h.2.2.2.2.1⟩ | exact bF (by rintro ⟨h1, h2, h3, h4, h5, h6, h7⟩; first | omega | (simp_all; done))
  try simp only [nq] at hc6
  refine WL.pureG rfl rfl rfl rfl rfl (PV.fieldAddr T.fl72_4 rfl hb1.cells) ?_
  refine WL.pureG rfl rfl rfl rfl rfl (PV.load1 T.na62 rfl hb1.cells (Ext.refl _) rfl) ?_
  refine WL.pureG rfl rfl rfl rfl rfl ((by first | exact PV.len rfl (by assumption) T.sl62 | exact PV.lenOs rfl (by assumption) T.sl62 | exact PV.len rfl (NL.rd (by assumption)) T.sl62 | exact PV.len rfl (Inn.rd (by assumption) (by omega)) T.sl62)) ?_
  refine WL.pureG rfl rfl rfl rfl rfl (PV.fieldAddr T.fl72_0 rfl hb1.cells) ?_
  refine WL.pureG rfl rfl rfl rfl rfl (PV.load1 T.na2 rfl hb1.cells (Ext.refl _) rfl) ?_
  refine WL.pureG rfl rfl rfl rfl rfl (PV.eql rfl rfl) ?_
  refine WL.pure rfl rfl rfl (PV.pickT rfl rfl) ?_
  refine WL.asg rfl rfl ?_
  refine WL.nilS ?_
  refine CW.ret ?_
  refine RQ.r1 rfl ?_
  refine ⟨?_, hB⟩
  first | exact bD ⟨fun h => ⟨by omega, by omega, by omega, by omega, by omega, by assumption, by assumption⟩, fun h => h.2.2.2.2.1⟩ | exact bF (by rintro ⟨h1, h2, h3, h4, h5, h6, h7⟩; first | omega | (simp_all; done))
theorem c_impl_TreeMachine_leaf {w : World} {a0 : Int} {a1 : Int} {va2 : Value} {xa2 : List Int} {va3 : Value} {xa3 : List Int} {va4 : Value} {xa4 : List Bool} {k : Int} (ha2 : Rd EI w va2 xa2) (ha3 : Rd EI w va3 xa3) (ha4 : Rd EB w va4 xa4) (hk : 0 ≤ k ∧ k < xa2.length) : Calls Try.prog 137 #[.agg #[.int .i64 a0, .int .i64 a1, va2, va3, va4], .int .i64 k] w (Ret1 (RQt (.int .i64 (xa2.getD k.toNat 0)) w)) := by
  have hB : Ext w w := Ext.refl w
  have hla2 := ha2.leI; have hla3 := ha3.leI; have hla4 := ha4.leI
  refine callsOf (vs := [_, _]) Try.func137 rfl Try.ntmps137 rfl rfl ?_
  refine CW.seq ?_
  refine CW.reg ?_
  refine WL.op rfl (OpK.box rfl rfl (by first | exact Rd.cells1 (by assumption) | exact Osl.cells1 (by assumption) | exact Osn.cells1 (by assumption) | exact Rd.cells1 (NL.rd (by assumption)) | exact Inn.cell1 (by assumption) (by omega) | assumption | rfl) (fun b1 w1 hXw1 hb1 hge1 => ?_))
  have hl1 := Lo.new hB hge1
  have hB := hB.trans hXw1
  refine WL.asg rfl rfl ?_
  refine WL.nilS ?_
  refine CW.seq ?_
  refine CW.reg ?_
  refine WL.pure rfl rfl rfl (PV.fieldAddr T.fl72_2 rfl hb1.cells) ?_
  refine WL.pure rfl rfl rfl (PV.load1 T.na28 rfl hb1.cells (Ext.refl _) rfl) ?_
  refine WL.mv rfl rfl ?_
  first
    | refine WL.at (x := .tmp 6) (y := .tmp 7) (E := EI) (0) rfl rfl (by first | assumption | exact Inn.rd (by assumption) (by omega)) (by omega) (fun p1 csp1 hpp1 hcp1 hq => ?_)
    | refine WL.atZ (x := .tmp 6) (y := .tmp 7) (E := EI) (0) rfl rfl (by first | assumption | exact Inn.rd (by assumption) (by omega)) (by omega) (fun p1 csp1 hpp1 hzp1 hcp1 hq => ?_)
  cases hq
  refine WL.pure rfl rfl rfl ((by first | exact PV.indexAddr hpp1 rfl rfl T.sl28 | exact PV.indexAddr hpp1 rfl (by rw [← hzp1]; rfl) T.sl28)) ?_
  refine WL.pure rfl rfl rfl ((by first | exact PV.load0 T.na2 rfl (by first | exact Cells.up (by assumption) hB | exact Bx.cells (by assumption) | assumption) (Ext.refl _) rfl | exact PV.load1 T.na2 rfl (by first | exact Cells.up (by assumption) hB | exact Bx.cells (by assumption) | assumption) (Ext.refl _) rfl)) ?_
  refine WL.asg rfl rfl ?_
  refine WL.nilS ?_
  refine CW.ret ?_
  refine RQ.r1 rfl ?_
  refine ⟨?_, hB⟩
  first | rfl | exact bT (by omega) | exact bF (by omega) | exact bD (by omega) | exact iE (by omega) | (simp_all; done) | (simp_all; omega) | (simp_all; intros; omega)

end Go.Proofs.Ythemmoceomdccaa
