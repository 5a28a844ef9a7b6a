/- Walks of the functions that the law FnSides reaches: each says what its function computes. No condition. -/
import Derived.Test.YthemmoceomdccaaProg
import Derived.Test.YthemmoceomdccaaLibM
import Derived.Test.YthemmoceomdccaaPlA
import Derived.Test.YthemmoceomdccaaPlG
import Derived.Test.YthemmoceomdccaaPlS
import Derived.Test.YthemmoceomdccaaLibG2
import Derived.Test.YthemmoceomdccaaPlT
import Derived.Test.YthemmoceomdccaaLibMp
import Derived.Test.YthemmoceomdccaaPlRd
import Derived.Test.YthemmoceomdccaaLibV
import Derived.Test.YthemmoceomdccaaLibW
import Derived.Test.YthemmoceomdccaaPlI2
import Derived.Test.YthemmoceomdccaaPlDq
import Derived.Test.YthemmoceomdccaaPlSd
import Derived.Test.YthemmoceomdccaaPlSe
namespace Go.Proofs.Ythemmoceomdccaa.T
open Go Go.WX Go.Proofs

theorem sl42 : slOf Try.prog 42 = some (5, 1, 1) := by kernel_rfl
theorem bu216 : buOf Try.prog 216 = some ([.slice none 0 0, .int .i64 0, .int .u64 0], [(0, 1), (1, 1), (2, 1)]) := by kernel_rfl
theorem mixed : Try.prog.follows .mixedOrders = true := by kernel_rfl
theorem fl216_1 : flOf Try.prog 216 1 = some (1, 3, 1) := by kernel_rfl
theorem na3 : naOf Try.prog 3 = true := by kernel_rfl
theorem fl216_0 : flOf Try.prog 216 0 = some (0, 42, 1) := by kernel_rfl
theorem na42 : naOf Try.prog 42 = true := by kernel_rfl
theorem na5 : naOf Try.prog 5 = true := by kernel_rfl
theorem us5 : (Try.prog.underlying 5).isSome = true := by kernel_rfl
theorem ik3 : ikOf Try.prog 3 = some .i64 := by kernel_rfl
theorem sz3 : szOf Try.prog 3 = some 1 := by kernel_rfl
theorem fl216_2 : flOf Try.prog 216 2 = some (2, 214, 1) := by kernel_rfl
theorem na214 : naOf Try.prog 214 = true := by kernel_rfl
theorem us3 : (Try.prog.underlying 3).isSome = true := by kernel_rfl
theorem ik214 : ikOf Try.prog 214 = some .u64 := by kernel_rfl
theorem sz214 : szOf Try.prog 214 = some 1 := by kernel_rfl
theorem us214 : (Try.prog.underlying 214).isSome = true := by kernel_rfl
theorem ik2 : ikOf Try.prog 2 = some .i64 := by kernel_rfl
theorem cf195 : cfOf Try.prog 195 = true := by kernel_rfl
theorem cf109 : cfOf Try.prog 109 = true := by kernel_rfl
theorem zv88 : zvOf Try.prog 88 = some (.agg #[.int .i64 0, .int .i64 0, .slice none 0 0, .slice none 0 0]) := by kernel_rfl
theorem bu88 : buOf Try.prog 88 = some ([.int .i64 0, .int .i64 0, .slice none 0 0, .slice none 0 0], [(0, 1), (1, 1), (2, 1), (3, 1)]) := by kernel_rfl
theorem sz88 : szOf Try.prog 88 = some 4 := by kernel_rfl
theorem bu178 : buOf Try.prog 178 = some ([.int .i64 0, .int .i64 0, .int .i64 0, .int .i64 0], [(0, 1), (1, 1), (2, 1), (3, 1)]) := by kernel_rfl
theorem zv178 : zvOf Try.prog 178 = some (.agg #[.int .i64 0, .int .i64 0, .int .i64 0, .int .i64 0]) := by kernel_rfl
theorem sz178 : szOf Try.prog 178 = some 4 := by kernel_rfl
theorem fl178_1 : flOf Try.prog 178 1 = some (1, 2, 1) := by kernel_rfl
theorem sz2 : szOf Try.prog 2 = some 1 := by kernel_rfl
theorem fl178_2 : flOf Try.prog 178 2 = some (2, 2, 1) := by kernel_rfl
theorem fl178_3 : flOf Try.prog 178 3 = some (3, 2, 1) := by kernel_rfl
theorem fl88_2 : flOf Try.prog 88 2 = some (2, 86, 1) := by kernel_rfl
theorem na86 : naOf Try.prog 86 = true := by kernel_rfl
theorem ag178 : agOf Try.prog 178 = some 4 := by kernel_rfl
theorem sl86 : slOf Try.prog 86 = some (178, 4, 32) := by kernel_rfl
theorem sz86 : szOf Try.prog 86 = some 1 := by kernel_rfl
theorem fl88_3 : flOf Try.prog 88 3 = some (3, 62, 1) := by kernel_rfl
theorem na62 : naOf Try.prog 62 = true := by kernel_rfl
theorem cf194 : cfOf Try.prog 194 = true := by kernel_rfl
theorem sl62 : slOf Try.prog 62 = some (4, 1, 1) := by kernel_rfl
theorem zv4 : zvOf Try.prog 4 = some (.bool false) := by kernel_rfl
theorem sz62 : szOf Try.prog 62 = some 1 := by kernel_rfl
theorem ag88 : agOf Try.prog 88 = some 4 := by kernel_rfl
theorem cf107 : cfOf Try.prog 107 = true := by kernel_rfl
theorem cf146 : cfOf Try.prog 146 = true := by kernel_rfl
theorem sl28 : slOf Try.prog 28 = some (2, 1, 8) := by kernel_rfl
theorem zv2 : zvOf Try.prog 2 = some (.int .i64 0) := by kernel_rfl
theorem cf147 : cfOf Try.prog 147 = true := by kernel_rfl
theorem fl88_0 : flOf Try.prog 88 0 = some (0, 2, 1) := by kernel_rfl
theorem na2 : naOf Try.prog 2 = true := by kernel_rfl
theorem cf104 : cfOf Try.prog 104 = true := by kernel_rfl
theorem fl88_1 : flOf Try.prog 88 1 = some (1, 2, 1) := by kernel_rfl
theorem fl178_0 : flOf Try.prog 178 0 = some (0, 2, 1) := by kernel_rfl
theorem cf71 : cfOf Try.prog 71 = true := by kernel_rfl
theorem cf148 : cfOf Try.prog 148 = true := by kernel_rfl
theorem na4 : naOf Try.prog 4 = true := by kernel_rfl
theorem cf149 : cfOf Try.prog 149 = true := by kernel_rfl
theorem cf98 : cfOf Try.prog 98 = true := by kernel_rfl
theorem cf208 : cfOf Try.prog 208 = true := by kernel_rfl
theorem cf158 : cfOf Try.prog 158 = true := by kernel_rfl
theorem cf150 : cfOf Try.prog 150 = true := by kernel_rfl
theorem cf151 : cfOf Try.prog 151 = true := by kernel_rfl
theorem sl232 : slOf Try.prog 232 = some (86, 1, 24) := by kernel_rfl
theorem cf205 : cfOf Try.prog 205 = true := by kernel_rfl
theorem sl234 : slOf Try.prog 234 = some (62, 1, 24) := by kernel_rfl
theorem cf206 : cfOf Try.prog 206 = true := by kernel_rfl
theorem cf152 : cfOf Try.prog 152 = true := by kernel_rfl
theorem zv86 : zvOf Try.prog 86 = some (.slice none 0 0) := by kernel_rfl
theorem cf153 : cfOf Try.prog 153 = true := by kernel_rfl
theorem zv62 : zvOf Try.prog 62 = some (.slice none 0 0) := by kernel_rfl
theorem cf154 : cfOf Try.prog 154 = true := by kernel_rfl
theorem cf155 : cfOf Try.prog 155 = true := by kernel_rfl
theorem cf144 : cfOf Try.prog 144 = true := by kernel_rfl
theorem sl25 : slOf Try.prog 25 = some (28, 1, 24) := by kernel_rfl
theorem zv28 : zvOf Try.prog 28 = some (.slice none 0 0) := by kernel_rfl
theorem na28 : naOf Try.prog 28 = true := by kernel_rfl
theorem cf141 : cfOf Try.prog 141 = true := by kernel_rfl
theorem cf126 : cfOf Try.prog 126 = true := by kernel_rfl
theorem bu237 : buOf Try.prog 237 = some ([.int .i64 0, .int .i64 0, .int .i64 0], [(0, 1), (1, 1), (2, 1)]) := by kernel_rfl
theorem sl238 : slOf Try.prog 238 = some (237, 3, 24) := by kernel_rfl
theorem zv237 : zvOf Try.prog 237 = some (.agg #[.int .i64 0, .int .i64 0, .int .i64 0]) := by kernel_rfl
theorem s3237 : s3Of Try.prog 237 = true := by kernel_rfl
theorem ag237 : agOf Try.prog 237 = some 3 := by kernel_rfl
theorem sz237 : szOf Try.prog 237 = some 3 := by kernel_rfl
theorem fl237_0 : flOf Try.prog 237 0 = some (0, 3, 1) := by kernel_rfl
theorem cf207 : cfOf Try.prog 207 = true := by kernel_rfl
theorem fl237_1 : flOf Try.prog 237 1 = some (1, 3, 1) := by kernel_rfl
theorem fl237_2 : flOf Try.prog 237 2 = some (2, 2, 1) := by kernel_rfl
theorem cf124 : cfOf Try.prog 124 = true := by kernel_rfl
theorem cf156 : cfOf Try.prog 156 = true := by kernel_rfl
theorem cf157 : cfOf Try.prog 157 = true := by kernel_rfl
theorem sl241 : slOf Try.prog 241 = some (3, 1, 8) := by kernel_rfl
theorem zv3 : zvOf Try.prog 3 = some (.int .i64 0) := by kernel_rfl
theorem sz4 : szOf Try.prog 4 = some 1 := by kernel_rfl
theorem cf209 : cfOf Try.prog 209 = true := by kernel_rfl
theorem cf159 : cfOf Try.prog 159 = true := by kernel_rfl
theorem cf160 : cfOf Try.prog 160 = true := by kernel_rfl
theorem cf161 : cfOf Try.prog 161 = true := by kernel_rfl
theorem s4178 : s4Of Try.prog 178 = true := by kernel_rfl
theorem bl4 : blOf Try.prog 4 = true := by kernel_rfl
theorem cf162 : cfOf Try.prog 162 = true := by kernel_rfl
theorem cf143 : cfOf Try.prog 143 = true := by kernel_rfl
theorem cf60 : cfOf Try.prog 60 = true := by kernel_rfl
theorem cf61 : cfOf Try.prog 61 = true := by kernel_rfl
theorem cf63 : cfOf Try.prog 63 = true := by kernel_rfl
theorem cf62 : cfOf Try.prog 62 = true := by kernel_rfl
theorem cf64 : cfOf Try.prog 64 = true := by kernel_rfl
theorem cf65 : cfOf Try.prog 65 = true := by kernel_rfl
theorem cf66 : cfOf Try.prog 66 = true := by kernel_rfl
theorem cf67 : cfOf Try.prog 67 = true := by kernel_rfl
theorem cf68 : cfOf Try.prog 68 = true := by kernel_rfl
theorem cf69 : cfOf Try.prog 69 = true := by kernel_rfl
theorem cf70 : cfOf Try.prog 70 = true := by kernel_rfl
theorem cf72 : cfOf Try.prog 72 = true := by kernel_rfl
theorem cf73 : cfOf Try.prog 73 = true := by kernel_rfl
theorem cf74 : cfOf Try.prog 74 = true := by kernel_rfl
theorem cf75 : cfOf Try.prog 75 = true := by kernel_rfl

end Go.Proofs.Ythemmoceomdccaa.T
namespace Go.Proofs.Ythemmoceomdccaa
open Go Go.WX Go.Proofs
set_option linter.unusedSimpArgs false
set_option linter.unusedVariables false

theorem c_laws_b10Long {w : World} {va vb : Value} {xs ys : List Int} (ha : Rd EU8 w va xs) (hb : Rd EU8 w vb ys) : Calls Try.prog 60 #[va, vb] w (Ret1 (RQt (.bool (decide (1048576 < (xs.length : Int) ∨ 1048576 < (ys.length : Int)))) w)) := by
  have hB : Ext w w := Ext.refl w
  have hla := ha.leI; have hlb := hb.leI
  refine callsOf (vs := [_, _]) Try.func60 rfl Try.ntmps60 rfl rfl ?_
  refine CW.seq ?_
  refine CW.reg ?_
  refine WL.asg rfl rfl ?_
  refine WL.nilS ?_
  refine CW.seq ?_
  refine CW.reg ?_
  refine WL.mv rfl rfl ?_
  refine WL.pure rfl rfl rfl ((by first | exact PV.len rfl (by assumption) T.sl42 | exact PV.lenOs rfl (by assumption) T.sl42 | exact PV.len rfl (NL.rd (by assumption)) T.sl42 | exact PV.len rfl (Inn.rd (by assumption) (by omega)) T.sl42)) ?_
  refine WL.pure rfl rfl rfl (PV.gtr rfl rfl) ?_
  refine WL.mv rfl rfl ?_
  refine WL.split (t := 8) rfl (fun hc1 => ?_) (fun hc1 => ?_)
  · skip
    try simp only [nq] at hc1
    refine WL.skip rfl rfl rfl rfl rfl ?_
    refine WL.skip rfl rfl rfl rfl rfl ?_
    refine WL.skip rfl rfl rfl rfl rfl ?_
    refine WL.pure rfl rfl rfl (PV.pickT rfl rfl) ?_
    refine WL.asg rfl rfl ?_
    refine WL.nilS ?_
    refine CW.ret ?_
    refine RQ.r1 rfl ?_
    refine ⟨?_, hB⟩
    first | rfl | exact bT (by omega) | exact bF (by omega) | exact bD (by omega) | exact iE (by omega) | (simp_all; done) | (simp_all; omega) | (simp_all; intros; omega)
  try simp only [nq] at hc1
  refine WL.pureG rfl rfl rfl rfl rfl (PV.move rfl) ?_
  refine WL.pureG rfl rfl rfl rfl rfl ((by first | exact PV.len rfl (by assumption) T.sl42 | exact PV.lenOs rfl (by assumption) T.sl42 | exact PV.len rfl (NL.rd (by assumption)) T.sl42 | exact PV.len rfl (Inn.rd (by assumption) (by omega)) T.sl42)) ?_
  refine WL.pureG rfl rfl rfl rfl rfl (PV.gtr rfl rfl) ?_
  refine WL.pure rfl rfl rfl (PV.pickF rfl rfl) ?_
  refine WL.asg rfl rfl ?_
  refine WL.nilS ?_
  refine CW.ret ?_
  refine RQ.r1 rfl ?_
  refine ⟨?_, hB⟩
  first | rfl | exact bT (by omega) | exact bF (by omega) | exact bD (by omega) | exact iE (by omega) | (simp_all; done) | (simp_all; omega) | (simp_all; intros; omega)
theorem c_spec_l00From {w : World} {vc : Value} {bs : List Int} (ha : Rd EU8 w vc bs) : Calls Try.prog 107 #[vc] w (Ret1 (fun v w' => Ext w w' ∧ ∃ p, v = .pointer (some p) ∧ Bx w' p [vc, .int .i64 0, .int .u64 0] ∧ w.heap.size ≤ p.block)) := by
  have hB : Ext w w := Ext.refl w
  refine callsOf (vs := [_]) Try.func107 rfl Try.ntmps107 rfl rfl ?_
  refine CW.seq ?_
  refine CW.reg ?_
  refine WL.asg rfl rfl ?_
  refine WL.nilS ?_
  refine CW.seq ?_
  refine CW.reg ?_
  refine WL.mv rfl rfl ?_
  refine WL.pure rfl rfl rfl (PV.build (ks := [0]) (os := [.tmp 3]) (css := [[_]]) (ds := [_, _, _]) T.bu216 rfl rfl ⟨(by first | exact Rd.cells1 (by assumption) | exact Osl.cells1 (by assumption) | exact Osn.cells1 (by assumption) | exact Rd.cells1 (NL.rd (by assumption)) | exact Inn.cell1 (by assumption) (by omega) | assumption | rfl), trivial⟩ rfl) ?_
  refine WL.op rfl (OpK.box rfl rfl (by first | exact Rd.cells1 (by assumption) | exact Osl.cells1 (by assumption) | exact Osn.cells1 (by assumption) | exact Rd.cells1 (NL.rd (by assumption)) | exact Inn.cell1 (by assumption) (by omega) | assumption | rfl) (fun b1 w1 hXw1 hb1 hge1 => ?_))
  have hl1 := Lo.new hB hge1
  have hB := hB.trans hXw1
  refine WL.asg rfl rfl ?_
  refine WL.nilS ?_
  refine CW.ret ?_
  refine RQ.r1 rfl ?_
  refine ⟨hB, b1, ?_, hb1, (hl1 _ rfl)⟩
  · skip
    rfl
theorem c_spec_l00Src_next {w : World} {b : World} {ps : Addr} {vc : Value} {bs : List Int} {at_ : Nat} {sd : Int}  (hB0 : Ext b w) (htb_ps : Bx w ps [vc, .int .i64 ((at_ : Nat) : Int), .int .u64 sd]) (htl_ps : Lo b (some ps.block)) (ha : Rd EU8 b vc bs) (hg : ∀ x ∈ bs, 0 ≤ x ∧ x ≤ 255) (hat : at_ ≤ 1000000) (hsd : 0 ≤ sd ∧ sd < 18446744073709551616) : Calls Try.prog 195 #[.pointer (some ps)] w (Ret1 (fun v w' => UpdL [some ps.block] w w' ∧ ∃ (r sd2 : Int), v = .int .i64 r ∧ (0 ≤ r ∧ r ≤ 255) ∧ (0 ≤ sd2 ∧ sd2 < 18446744073709551616) ∧ Bx w' ps [vc, .int .i64 ((at_ + 1 : Nat) : Int), .int .u64 sd2])) := by
  have hB := hB0
  have hla := ha.leI
  refine callsOf (vs := [_]) Try.func195 rfl Try.ntmps195 rfl rfl ?_
  have hUB : UpdL [(some ps.block)] w w := UpdL.refl _ _
  have hb1 := htb_ps
  have hl1 := htl_ps
  have hkB_1 : OkB [(some ps.block)] w (some ps.block) := OkB.mem (by simp)
  have hgB_1 := OgR.refl w (some ps.block)
  refine CW.seq ?_
  refine CW.reg ?_
  refine WL.asg rfl rfl ?_
  refine WL.nilS ?_
  refine CW.seq ?_
  refine CW.reg ?_
  refine WL.asg rfl rfl ?_
  refine WL.nilS ?_
  refine CW.seq ?_
  refine CW.seq ?_
  refine CW.draw T.mixed (by kernel_rfl) (fun _ _ _ _ _ h => h) (fun w8 w9 => Upd none w8 w9) 10 (.take 0 (.take 1 (.take 2 (.take 3 (.take 4 (.take 5 (.take 6 (.take 7 (.take 8 (.take 9 .done)))))))))) (by kernel_rfl) (fun w1 hXd => ?_)
  have hB := hB.trans hXd
  have hb1 := hb1.up hXd
  have hUB := hUB.ext hXd
  have hBr := hB
  have hS : Upd none w1 w1 := Ext.toUpd (Ext.refl _)
  refine HP.take rfl rfl rfl rfl hS (fun wS hS1 => PV.move rfl) ?_
  refine HP.take rfl rfl rfl rfl hS (fun wS hS1 => PV.nilCheck rfl) ?_
  refine HP.take rfl rfl rfl rfl hS (fun wS hS1 => PV.fieldAddr T.fl216_1 rfl hb1.cells) ?_
  refine HP.take rfl rfl rfl rfl hS (fun wS hS1 => PV.load1 T.na3 rfl (Bx.cells (Bx.updD (by assumption) hS1 (Dj.nlR _))) (Ext.refl _) rfl) ?_
  refine HP.take rfl rfl rfl rfl hS (fun wS hS1 => PV.move rfl) ?_
  refine HP.take rfl rfl rfl rfl hS (fun wS hS1 => PV.nilCheck rfl) ?_
  refine HP.take rfl rfl rfl rfl hS (fun wS hS1 => PV.fieldAddr T.fl216_0 rfl hb1.cells) ?_
  refine HP.take rfl rfl rfl rfl hS (fun wS hS1 => PV.load1 T.na42 rfl (Bx.cells (Bx.updD (by assumption) hS1 (Dj.nlR _))) (Ext.refl _) rfl) ?_
  refine HP.take rfl rfl rfl rfl hS (fun wS hS1 => (by first | exact PV.len rfl (by assumption) T.sl42 | exact PV.lenOs rfl (by assumption) T.sl42 | exact PV.len rfl (NL.rd (by assumption)) T.sl42 | exact PV.len rfl (Inn.rd (by assumption) (by omega)) T.sl42)) ?_
  refine HP.take rfl rfl rfl rfl hS (fun wS hS1 => PV.lss rfl rfl) ?_
  refine HP.doneS ?_
  refine CW.cond rfl (fun hc1 => ?_) (fun hc1 => ?_)
  · skip
    try simp only [nq] at hc1
    have hgx := getD_P hg (i := at_) (by omega)
    refine CW.draw T.mixed (by kernel_rfl) (fun _ _ _ _ _ h => h) (fun w8 w9 => Upd none w8 w9) 12 (.take 0 (.take 1 (.take 2 (.take 3 (.take 4 (.take 5 (.take 6 (.take 7 (.take 8 (.take 9 (.take 10 (.take 11 .done)))))))))))) (by kernel_rfl) (fun w2 hXd => ?_)
    have hB := hB.trans hXd
    have hb1 := hb1.up hXd
    have hUB := hUB.ext hXd
    have hBr := hB
    have hS : Upd none w2 w2 := Ext.toUpd (Ext.refl _)
    refine HP.take rfl rfl rfl rfl hS (fun wS hS1 => PV.move rfl) ?_
    refine HP.take rfl rfl rfl rfl hS (fun wS hS1 => PV.nilCheck rfl) ?_
    refine HP.take rfl rfl rfl rfl hS (fun wS hS1 => PV.fieldAddr T.fl216_0 rfl hb1.cells) ?_
    refine HP.take rfl rfl rfl rfl hS (fun wS hS1 => PV.load1 T.na42 rfl (Bx.cells (Bx.updD (by assumption) hS1 (Dj.nlR _))) (Ext.refl _) rfl) ?_
    refine HP.take rfl rfl rfl rfl hS (fun wS hS1 => PV.move rfl) ?_
    refine HP.take rfl rfl rfl rfl hS (fun wS hS1 => PV.nilCheck rfl) ?_
    refine HP.take rfl rfl rfl rfl hS (fun wS hS1 => PV.fieldAddr T.fl216_1 rfl hb1.cells) ?_
    refine HP.take rfl rfl rfl rfl hS (fun wS hS1 => PV.load1 T.na3 rfl (Bx.cells (Bx.updD (by assumption) hS1 (Dj.nlR _))) (Ext.refl _) rfl) ?_
    first
      | refine HP.at (x := .tmp 17) (y := .tmp 21) (E := EU8) (0) rfl rfl (by first | assumption | exact Inn.rd (by assumption) (by omega)) (by first | omega | (simp only [List.length_set]; omega) | (simp only [List.length_append, List.length_take, List.length_replicate, List.length_drop]; omega)) (fun p1 csp1 hpp1 hcp1 hq => ?_)
      | refine HP.atZ (x := .tmp 17) (y := .tmp 21) (E := EU8) (0) rfl rfl (by first | assumption | exact Inn.rd (by assumption) (by omega)) (by first | omega | (simp only [List.length_set]; omega) | (simp only [List.length_append, List.length_take, List.length_replicate, List.length_drop]; omega)) (fun p1 csp1 hpp1 hzp1 hcp1 hq => ?_)
    cases hq
    refine HP.take rfl rfl rfl rfl hS (fun wS hS1 => (by first | exact PV.indexAddr hpp1 rfl rfl T.sl42 | exact PV.indexAddr hpp1 rfl (by rw [← hzp1]; rfl) T.sl42)) ?_
    refine HP.take rfl rfl rfl rfl hS (fun wS hS1 => (by first | exact PV.load0 T.na5 rfl (by first | exact Cells.up (by assumption) (hBr.trans hS1) | exact Bx.cells (Bx.updD (by assumption) hS1 (Dj.nlR _)) | exact Cells.upd (by assumption) hS1 (by simp)) (Ext.refl _) rfl | exact PV.load1 T.na5 rfl (by first | exact Cells.up (by assumption) (hBr.trans hS1) | exact Bx.cells (Bx.updD (by assumption) hS1 (Dj.nlR _)) | exact Cells.upd (by assumption) hS1 (by simp)) (Ext.refl _) rfl)) ?_
    refine HP.take rfl rfl rfl rfl hS (fun wS hS1 => PV.conv rfl T.us5 T.ik3 (by constructor <;> omega)) ?_
    refine HP.take rfl rfl rfl rfl hS (fun wS hS1 => PV.assign rfl) ?_
    refine HP.doneS ?_
    refine CW.seq ?_
    refine CW.reg ?_
    refine WL.mv rfl rfl ?_
    refine WL.pure rfl rfl rfl (PV.nilCheck rfl) ?_
    refine WL.pure rfl rfl rfl (PV.fieldAddr T.fl216_1 rfl hb1.cells) ?_
    refine WL.pure rfl rfl rfl (PV.load1 T.na3 rfl hb1.cells (Ext.refl _) rfl) ?_
    refine WL.pure rfl rfl rfl (PV.add rfl rfl (by constructor <;> omega)) ?_
    refine WL.pure rfl rfl rfl (PV.nilCheck rfl) ?_
    refine WL.pure rfl rfl rfl (PV.fieldAddr T.fl216_1 rfl hb1.cells) ?_
    refine WL.op rfl (OpK.storeB T.sz3 rfl rfl (by first | rfl | exact Inn.one1 (by assumption) (by omega) | exact Osl.oneCell (by assumption) | exact Osn.oneCell (by assumption) | exact Rd.oneCell (by assumption) | exact Rd.oneCell (NL.rd (by assumption)) | assumption) hb1 rfl (fun w3 hXw3 hb1 => ?_))
    have hB := hB.updL hXw3 hl1
    have hUB := hUB.step hXw3 hkB_1
    refine WL.nilS ?_
    refine CW.seq ?_
    refine CW.reg ?_
    refine WL.mv rfl rfl ?_
    refine WL.mv rfl rfl ?_
    refine WL.pure rfl rfl rfl (PV.nilCheck rfl) ?_
    refine WL.pure rfl rfl rfl (PV.fieldAddr T.fl216_2 rfl hb1.cells) ?_
    refine WL.pure rfl rfl rfl (PV.load1 T.na214 rfl hb1.cells (Ext.refl _) rfl) ?_
    refine WL.pure rfl rfl rfl (PV.mulW rfl rfl) ?_
    refine WL.mv rfl rfl ?_
    refine WL.pure rfl rfl rfl (PV.convW rfl T.us3 T.ik214) ?_
    refine WL.pure rfl rfl rfl (PV.addW rfl rfl) ?_
    refine WL.pure rfl rfl rfl (PV.addW rfl rfl) ?_
    refine WL.pure rfl rfl rfl (PV.nilCheck rfl) ?_
    refine WL.pure rfl rfl rfl (PV.fieldAddr T.fl216_2 rfl hb1.cells) ?_
    refine WL.op rfl (OpK.storeB T.sz214 rfl rfl (by first | rfl | exact Inn.one1 (by assumption) (by omega) | exact Osl.oneCell (by assumption) | exact Osn.oneCell (by assumption) | exact Rd.oneCell (by assumption) | exact Rd.oneCell (NL.rd (by assumption)) | assumption) hb1 rfl (fun w4 hXw4 hb1 => ?_))
    have hB := hB.updL hXw4 hl1
    have hUB := hUB.step hXw4 hkB_1
    refine WL.nilS ?_
    refine CW.seq ?_
    refine CW.seq ?_
    refine CW.draw T.mixed (by kernel_rfl) (fun _ _ _ _ _ h => h) (fun w8 w9 => Upd none w8 w9) 10 (.take 0 (.take 1 (.take 2 (.take 3 (.take 4 (.take 5 (.take 6 (.take 7 (.take 8 (.take 9 .done)))))))))) (by kernel_rfl) (fun w5 hXd => ?_)
    have hB := hB.trans hXd
    have hb1 := hb1.up hXd
    have hUB := hUB.ext hXd
    have hBr := hB
    have hS : Upd none w5 w5 := Ext.toUpd (Ext.refl _)
    refine HP.take rfl rfl rfl rfl hS (fun wS hS1 => PV.move rfl) ?_
    refine HP.take rfl rfl rfl rfl hS (fun wS hS1 => PV.nilCheck rfl) ?_
    refine HP.take rfl rfl rfl rfl hS (fun wS hS1 => PV.fieldAddr T.fl216_1 rfl hb1.cells) ?_
    refine HP.take rfl rfl rfl rfl hS (fun wS hS1 => PV.load1 T.na3 rfl (Bx.cells (Bx.updD (by assumption) hS1 (Dj.nlR _))) (Ext.refl _) rfl) ?_
    refine HP.take rfl rfl rfl rfl hS (fun wS hS1 => PV.move rfl) ?_
    refine HP.take rfl rfl rfl rfl hS (fun wS hS1 => PV.nilCheck rfl) ?_
    refine HP.take rfl rfl rfl rfl hS (fun wS hS1 => PV.fieldAddr T.fl216_0 rfl hb1.cells) ?_
    refine HP.take rfl rfl rfl rfl hS (fun wS hS1 => PV.load1 T.na42 rfl (Bx.cells (Bx.updD (by assumption) hS1 (Dj.nlR _))) (Ext.refl _) rfl) ?_
    refine HP.take rfl rfl rfl rfl hS (fun wS hS1 => (by first | exact PV.len rfl (by assumption) T.sl42 | exact PV.lenOs rfl (by assumption) T.sl42 | exact PV.len rfl (NL.rd (by assumption)) T.sl42 | exact PV.len rfl (Inn.rd (by assumption) (by omega)) T.sl42)) ?_
    refine HP.take rfl rfl rfl rfl hS (fun wS hS1 => PV.leq rfl rfl) ?_
    refine HP.doneS ?_
    refine CW.cond rfl (fun hc2 => ?_) (fun hc2 => ?_)
    · skip
      try simp only [nq] at hc2
      refine CW.seq ?_
      refine CW.reg ?_
      refine WL.mv rfl rfl ?_
      refine WL.asg rfl rfl ?_
      refine WL.nilS ?_
      refine CW.ret ?_
      refine RQ.then ?_
      refine RQ.r1 rfl ?_
      refine ⟨hUB, _, _, rfl, ?_, ?_, hb1⟩
      · skip
        first | omega | exact rnd255 _
      · skip
        exact wrapU_rng _
    try simp only [nq] at hc2
    refine CW.skipS ?_
    refine CW.seq ?_
    refine CW.reg ?_
    refine WL.mv rfl rfl ?_
    refine WL.pure rfl rfl rfl (PV.nilCheck rfl) ?_
    refine WL.pure rfl rfl rfl (PV.fieldAddr T.fl216_2 rfl hb1.cells) ?_
    refine WL.pure rfl rfl rfl (PV.load1 T.na214 rfl hb1.cells (Ext.refl _) rfl) ?_
    refine WL.pure rfl rfl rfl (PV.shr rfl rfl (by omega) (by first | (simp only [IntKind.bits]; omega) | (simp [IntKind.bits] <;> omega))) ?_
    refine WL.pure rfl rfl rfl (PV.and rfl rfl) ?_
    refine WL.pure rfl rfl rfl (PV.conv rfl T.us214 T.ik2 (by exact ⟨Int.le_trans (by decide) (rnd255 _).1, Int.le_trans (rnd255 _).2 (by decide)⟩)) ?_
    refine WL.asg rfl rfl ?_
    refine WL.nilS ?_
    refine CW.ret ?_
    refine RQ.r1 rfl ?_
    refine ⟨hUB, _, _, rfl, ?_, ?_, hb1⟩
    · skip
      first | omega | exact rnd255 _
    · skip
      exact wrapU_rng _
  try simp only [nq] at hc1
  refine CW.skipS ?_
  refine CW.seq ?_
  refine CW.reg ?_
  refine WL.mv rfl rfl ?_
  refine WL.pure rfl rfl rfl (PV.nilCheck rfl) ?_
  refine WL.pure rfl rfl rfl (PV.fieldAddr T.fl216_1 rfl hb1.cells) ?_
  refine WL.pure rfl rfl rfl (PV.load1 T.na3 rfl hb1.cells (Ext.refl _) rfl) ?_
  refine WL.pure rfl rfl rfl (PV.add rfl rfl (by constructor <;> omega)) ?_
  refine WL.pure rfl rfl rfl (PV.nilCheck rfl) ?_
  refine WL.pure rfl rfl rfl (PV.fieldAddr T.fl216_1 rfl hb1.cells) ?_
  refine WL.op rfl (OpK.storeB T.sz3 rfl rfl (by first | rfl | exact Inn.one1 (by assumption) (by omega) | exact Osl.oneCell (by assumption) | exact Osn.oneCell (by assumption) | exact Rd.oneCell (by assumption) | exact Rd.oneCell (NL.rd (by assumption)) | assumption) hb1 rfl (fun w6 hXw6 hb1 => ?_))
  have hB := hB.updL hXw6 hl1
  have hUB := hUB.step hXw6 hkB_1
  refine WL.nilS ?_
  refine CW.seq ?_
  refine CW.reg ?_
  refine WL.mv rfl rfl ?_
  refine WL.mv rfl rfl ?_
  refine WL.pure rfl rfl rfl (PV.nilCheck rfl) ?_
  refine WL.pure rfl rfl rfl (PV.fieldAddr T.fl216_2 rfl hb1.cells) ?_
  refine WL.pure rfl rfl rfl (PV.load1 T.na214 rfl hb1.cells (Ext.refl _) rfl) ?_
  refine WL.pure rfl rfl rfl (PV.mulW rfl rfl) ?_
  refine WL.mv rfl rfl ?_
  refine WL.pure rfl rfl rfl (PV.convW rfl T.us3 T.ik214) ?_
  refine WL.pure rfl rfl rfl (PV.addW rfl rfl) ?_
  refine WL.pure rfl rfl rfl (PV.addW rfl rfl) ?_
  refine WL.pure rfl rfl rfl (PV.nilCheck rfl) ?_
  refine WL.pure rfl rfl rfl (PV.fieldAddr T.fl216_2 rfl hb1.cells) ?_
  refine WL.op rfl (OpK.storeB T.sz214 rfl rfl (by first | rfl | exact Inn.one1 (by assumption) (by omega) | exact Osl.oneCell (by assumption) | exact Osn.oneCell (by assumption) | exact Rd.oneCell (by assumption) | exact Rd.oneCell (NL.rd (by assumption)) | assumption) hb1 rfl (fun w7 hXw7 hb1 => ?_))
  have hB := hB.updL hXw7 hl1
  have hUB := hUB.step hXw7 hkB_1
  refine WL.nilS ?_
  refine CW.seq ?_
  refine CW.seq ?_
  refine CW.draw T.mixed (by kernel_rfl) (fun _ _ _ _ _ h => h) (fun w8 w9 => Upd none w8 w9) 10 (.take 0 (.take 1 (.take 2 (.take 3 (.take 4 (.take 5 (.take 6 (.take 7 (.take 8 (.take 9 .done)))))))))) (by kernel_rfl) (fun w8 hXd => ?_)
  have hB := hB.trans hXd
  have hb1 := hb1.up hXd
  have hUB := hUB.ext hXd
  have hBr := hB
  have hS : Upd none w8 w8 := Ext.toUpd (Ext.refl _)
  refine HP.take rfl rfl rfl rfl hS (fun wS hS1 => PV.move rfl) ?_
  refine HP.take rfl rfl rfl rfl hS (fun wS hS1 => PV.nilCheck rfl) ?_
  refine HP.take rfl rfl rfl rfl hS (fun wS hS1 => PV.fieldAddr T.fl216_1 rfl hb1.cells) ?_
  refine HP.take rfl rfl rfl rfl hS (fun wS hS1 => PV.load1 T.na3 rfl (Bx.cells (Bx.updD (by assumption) hS1 (Dj.nlR _))) (Ext.refl _) rfl) ?_
  refine HP.take rfl rfl rfl rfl hS (fun wS hS1 => PV.move rfl) ?_
  refine HP.take rfl rfl rfl rfl hS (fun wS hS1 => PV.nilCheck rfl) ?_
  refine HP.take rfl rfl rfl rfl hS (fun wS hS1 => PV.fieldAddr T.fl216_0 rfl hb1.cells) ?_
  refine HP.take rfl rfl rfl rfl hS (fun wS hS1 => PV.load1 T.na42 rfl (Bx.cells (Bx.updD (by assumption) hS1 (Dj.nlR _))) (Ext.refl _) rfl) ?_
  refine HP.take rfl rfl rfl rfl hS (fun wS hS1 => (by first | exact PV.len rfl (by assumption) T.sl42 | exact PV.lenOs rfl (by assumption) T.sl42 | exact PV.len rfl (NL.rd (by assumption)) T.sl42 | exact PV.len rfl (Inn.rd (by assumption) (by omega)) T.sl42)) ?_
  refine HP.take rfl rfl rfl rfl hS (fun wS hS1 => PV.leq rfl rfl) ?_
  refine HP.doneS ?_
  refine CW.cond rfl (fun hc3 => ?_) (fun hc3 => ?_)
  · skip
    try simp only [nq] at hc3
    refine CW.seq ?_
    refine CW.reg ?_
    refine WL.mv rfl rfl ?_
    refine WL.asg rfl rfl ?_
    refine WL.nilS ?_
    refine CW.ret ?_
    refine RQ.then ?_
    refine RQ.r1 rfl ?_
    refine ⟨hUB, _, _, rfl, ?_, ?_, hb1⟩
    · skip
      first | omega | exact rnd255 _
    · skip
      exact wrapU_rng _
  try simp only [nq] at hc3
  refine CW.skipS ?_
  refine CW.seq ?_
  refine CW.reg ?_
  refine WL.mv rfl rfl ?_
  refine WL.pure rfl rfl rfl (PV.nilCheck rfl) ?_
  refine WL.pure rfl rfl rfl (PV.fieldAddr T.fl216_2 rfl hb1.cells) ?_
  refine WL.pure rfl rfl rfl (PV.load1 T.na214 rfl hb1.cells (Ext.refl _) rfl) ?_
  refine WL.pure rfl rfl rfl (PV.shr rfl rfl (by omega) (by first | (simp only [IntKind.bits]; omega) | (simp [IntKind.bits] <;> omega))) ?_
  refine WL.pure rfl rfl rfl (PV.and rfl rfl) ?_
  refine WL.pure rfl rfl rfl (PV.conv rfl T.us214 T.ik2 (by exact ⟨Int.le_trans (by decide) (rnd255 _).1, Int.le_trans (rnd255 _).2 (by decide)⟩)) ?_
  refine WL.asg rfl rfl ?_
  refine WL.nilS ?_
  refine CW.ret ?_
  refine RQ.r1 rfl ?_
  refine ⟨hUB, _, _, rfl, ?_, ?_, hb1⟩
  · skip
    first | omega | exact rnd255 _
  · skip
    exact wrapU_rng _
theorem c_spec_l00Src_pick {w : World} {b : World} {ps : Addr} {vc : Value} {bs : List Int} {at_ : Nat} {sd : Int} {N : Int} (hB0 : Ext b w) (htb_ps : Bx w ps [vc, .int .i64 ((at_ : Nat) : Int), .int .u64 sd]) (htl_ps : Lo b (some ps.block)) (ha : Rd EU8 b vc bs) (hg : ∀ x ∈ bs, 0 ≤ x ∧ x ≤ 255) (hat : at_ ≤ 1000000) (hsd : 0 ≤ sd ∧ sd < 18446744073709551616) (hN2 : 1 ≤ N ∧ N ≤ 200) : Calls Try.prog 109 #[.pointer (some ps), .int .i64 N] w (Ret1 (fun v w' => UpdL [some ps.block] w w' ∧ ∃ (r : Int) (at2 : Nat) (sd2 : Int), v = .int .i64 r ∧ (0 ≤ r ∧ r ≤ N - 1) ∧ (at2 ≤ at_ + 1 ∧ 0 ≤ sd2 ∧ sd2 < 18446744073709551616) ∧ Bx w' ps [vc, .int .i64 ((at2 : Nat) : Int), .int .u64 sd2])) := by
  have hB := hB0
  have hla := ha.leI
  refine callsOf (vs := [_, _]) Try.func109 rfl Try.ntmps109 rfl rfl ?_
  have hUB : UpdL [(some ps.block)] w w := UpdL.refl _ _
  have hb1 := htb_ps
  have hl1 := htl_ps
  have hkB_1 : OkB [(some ps.block)] w (some ps.block) := OkB.mem (by simp)
  have hgB_1 := OgR.refl w (some ps.block)
  refine CW.seq ?_
  refine CW.reg ?_
  refine WL.asg rfl rfl ?_
  refine WL.nilS ?_
  refine CW.seq ?_
  refine CW.seq ?_
  refine CW.reg ?_
  refine WL.mv rfl rfl ?_
  refine WL.pure rfl rfl rfl (PV.leq rfl rfl) ?_
  refine WL.nilS ?_
  refine CW.cond rfl (fun hc1 => ?_) (fun hc1 => ?_)
  · skip
    try simp only [nq] at hc1
    refine CW.seq ?_
    refine CW.reg ?_
    refine WL.asg rfl rfl ?_
    refine WL.nilS ?_
    refine CW.ret ?_
    refine RQ.then ?_
    refine RQ.r1 rfl ?_
    refine ⟨hUB, 0, at_, sd, rfl, ?_, ?_, hb1⟩
    · skip
      first | omega | exact remN (by omega) (by omega)
    · skip
      first | exact ⟨by omega, hsd⟩ | (refine ⟨by omega, ?_⟩; assumption)
  try simp only [nq] at hc1
  refine CW.skipS ?_
  refine CW.seq ?_
  refine CW.reg ?_
  refine WL.mv rfl rfl ?_
  refine WL.op rfl (OpK.call rfl T.cf195 rfl (c_spec_l00Src_next hB (by first | assumption | exact Lo.nl _) (by first | assumption | exact Lo.nl _) (by first | assumption | exact Rd.up (by assumption) hB | exact Osl.rd (by assumption) | exact Osn.rdR (by assumption) | exact NL.rd (by assumption) | exact rdII (by assumption) (by assumption) | exact Inn.rd (by assumption) (by omega)) (by first | assumption | omega | (simp only [marks_len, marksB_len, marksR_len, sumL_marksS]; omega)) (by first | assumption | omega | (simp only [marks_len, marksB_len, marksR_len, sumL_marksS]; omega)) (by first | assumption | omega | (simp only [marks_len, marksB_len, marksR_len, sumL_marksS]; omega))) (fun rv1 w1 hR => ?_))
  obtain ⟨hUC2, r3, sd24, rfl, hm5, hm6, hbn1⟩ := hR
  have hUB := hUB.trans hUC2 ⟨hkB_1, trivial⟩
  have hB := hB.loop hUC2 ⟨hl1, trivial⟩
  have hb1 := hbn1
  refine WL.asg rfl rfl ?_
  refine WL.nilS ?_
  refine CW.seq ?_
  refine CW.seq ?_
  refine CW.reg ?_
  refine WL.mv rfl rfl ?_
  refine WL.pure rfl rfl rfl (PV.gtr rfl rfl) ?_
  refine WL.nilS ?_
  refine CW.cond rfl (fun hc2 => ?_) (fun hc2 => ?_)
  · skip
    try simp only [nq] at hc2
    exfalso; omega
  try simp only [nq] at hc2
  refine CW.skipS ?_
  refine CW.seq ?_
  refine CW.reg ?_
  refine WL.mv rfl rfl ?_
  refine WL.mv rfl rfl ?_
  refine WL.pure rfl rfl rfl (PV.rem rfl rfl (by omega) rfl) ?_
  refine WL.asg rfl rfl ?_
  refine WL.nilS ?_
  refine CW.ret ?_
  refine RQ.r1 rfl ?_
  refine ⟨hUB, _, _, _, rfl, ?_, ?_, hb1⟩
  · skip
    first | omega | exact remN (by omega) (by omega)
  · skip
    first | exact ⟨by omega, hsd⟩ | (refine ⟨by omega, ?_⟩; assumption)
theorem c_spec_l00Src_one {w : World} {b : World} {ps : Addr} {vc : Value} {bs : List Int} {at_ : Nat} {sd : Int} {N : Int} (hB0 : Ext b w) (htb_ps : Bx w ps [vc, .int .i64 ((at_ : Nat) : Int), .int .u64 sd]) (htl_ps : Lo b (some ps.block)) (ha : Rd EU8 b vc bs) (hg : ∀ x ∈ bs, 0 ≤ x ∧ x ≤ 255) (hat : at_ ≤ 1000000) (hsd : 0 ≤ sd ∧ sd < 18446744073709551616) (hN2 : 2 ≤ N ∧ N ≤ 200) : Calls Try.prog 194 #[.pointer (some ps), .int .i64 N] w (Ret1 (fun v w' => UpdL [some ps.block] w w' ∧ ∃ (r : Bool) (at2 : Nat) (sd2 : Int), v = .bool r ∧ (at2 ≤ at_ + 1 ∧ 0 ≤ sd2 ∧ sd2 < 18446744073709551616) ∧ Bx w' ps [vc, .int .i64 ((at2 : Nat) : Int), .int .u64 sd2])) := by
  have hB := hB0
  have hla := ha.leI
  refine callsOf (vs := [_, _]) Try.func194 rfl Try.ntmps194 rfl rfl ?_
  have hUB : UpdL [(some ps.block)] w w := UpdL.refl _ _
  have hb1 := htb_ps
  have hl1 := htl_ps
  have hkB_1 : OkB [(some ps.block)] w (some ps.block) := OkB.mem (by simp)
  have hgB_1 := OgR.refl w (some ps.block)
  refine CW.seq ?_
  refine CW.reg ?_
  refine WL.asg rfl rfl ?_
  refine WL.nilS ?_
  refine CW.seq ?_
  refine CW.reg ?_
  refine WL.mv rfl rfl ?_
  refine WL.mv rfl rfl ?_
  refine WL.op rfl (OpK.call rfl T.cf109 rfl (c_spec_l00Src_pick hB (by first | assumption | exact Lo.nl _) (by first | assumption | exact Lo.nl _) (by first | assumption | exact Rd.up (by assumption) hB | exact Osl.rd (by assumption) | exact Osn.rdR (by assumption) | exact NL.rd (by assumption) | exact rdII (by assumption) (by assumption) | exact Inn.rd (by assumption) (by omega)) (by first | assumption | omega | (simp only [marks_len, marksB_len, marksR_len, sumL_marksS]; omega)) (by first | assumption | omega | (simp only [marks_len, marksB_len, marksR_len, sumL_marksS]; omega)) (by first | assumption | omega | (simp only [marks_len, marksB_len, marksR_len, sumL_marksS]; omega)) (by first | assumption | omega | (simp only [marks_len, marksB_len, marksR_len, sumL_marksS]; omega))) (fun rv1 w1 hR => ?_))
  obtain ⟨hUC2, r3, at24, sd25, rfl, hm6, hm7, hbn1⟩ := hR
  have hUB := hUB.trans hUC2 ⟨hkB_1, trivial⟩
  have hB := hB.loop hUC2 ⟨hl1, trivial⟩
  have hb1 := hbn1
  refine WL.pure rfl rfl rfl (PV.eql rfl rfl) ?_
  refine WL.asg rfl rfl ?_
  refine WL.nilS ?_
  refine CW.ret ?_
  refine RQ.r1 rfl ?_
  refine ⟨hUB, _, _, _, rfl, ?_, hb1⟩
  · skip
    assumption
theorem c_spec_l05DrawSides {w : World} {b : World} {ps : Addr} {vc : Value} {bs : List Int} {at_ : Nat} {sd : Int} {S L : Int} (hB0 : Ext b w) (htb_ps : Bx w ps [vc, .int .i64 ((at_ : Nat) : Int), .int .u64 sd]) (htl_ps : Lo b (some ps.block)) (ha : Rd EU8 b vc bs) (hg : ∀ x ∈ bs, 0 ≤ x ∧ x ≤ 255) (hat : at_ ≤ 900) (hsd : 0 ≤ sd ∧ sd < 18446744073709551616) (hS2 : 1 ≤ S ∧ S ≤ 3) (hL2 : L = 2) : Calls Try.prog 146 #[.pointer (some ps), .int .i64 S, .int .i64 L] w (Ret1 (fun v w' => UpdL [some ps.block] w w' ∧ ∃ (rs : List R4) (es : List Bool) (at2 : Nat) (sd2 : Int) (u2 : Value) (og_u2 : Option Nat) (u3 : Value) (og_u3 : Option Nat), v = .agg #[.int .i64 S, .int .i64 L, u2, u3] ∧ ((rs.length : Int) ≤ 7 ∧ (es.length : Int) = S ∧ ∀ i : Nat, i < rs.length → okArc S L (rs.getD i (0, 0, 0, 0))) ∧ (at2 ≤ at_ + 40 ∧ 0 ≤ sd2 ∧ sd2 < 18446744073709551616) ∧ Bx w' ps [vc, .int .i64 ((at2 : Nat) : Int), .int .u64 sd2] ∧ Osn 4 gR w' og_u2 u2 (rs) ∧ Lo w og_u2 ∧ Osl VB w' og_u3 u3 (es) ∧ Lo w og_u3 ∧ Dj og_u2 og_u3)) := by
  have hB := hB0
  have hla := ha.leI
  refine callsOf (vs := [_, _, _]) Try.func146 rfl Try.ntmps146 rfl rfl ?_
  have hUB : UpdL [(some ps.block)] w w := UpdL.refl _ _
  have hb1 := htb_ps
  have hl1 := htl_ps
  have hkB_1 : OkB [(some ps.block)] w (some ps.block) := OkB.mem (by simp)
  have hgB_1 := OgR.refl w (some ps.block)
  refine CW.seq ?_
  refine CW.reg ?_
  refine WL.op rfl (OpK.alloc rfl T.zv88 rfl (fun b2 w1 hXw1 hb2 hge2 => ?_))
  have hl2 := Lo.new hB hge2
  have hd1_2 := Dj.new hb1.ltO hge2
  have hkB_2 := OkN.new hUB hge2
  have hgB_2 := OgR.new hUB.size hge2
  have hB := hB.trans hXw1
  have hb1 := hb1.up hXw1
  have hUB := hUB.ext hXw1
  refine WL.nilS ?_
  refine CW.seq ?_
  refine CW.reg ?_
  refine WL.mv rfl rfl ?_
  refine WL.mv rfl rfl ?_
  refine WL.pure rfl rfl rfl (PV.build (ks := [0, 1]) (os := [.tmp 11, .tmp 12]) (css := [[_], [_]]) (ds := [_, _, _, _]) T.bu88 rfl rfl ⟨rfl, rfl, trivial⟩ rfl) ?_
  refine WL.op rfl (OpK.alloc rfl T.zv88 rfl (fun b3 w2 hXw2 hb3 hge3 => ?_))
  have hl3 := Lo.new hB hge3
  have hd1_3 := Dj.new hb1.ltO hge3
  have hd2_3 := Dj.new hb2.ltO hge3
  have hkB_3 := OkN.new hUB hge3
  have hgB_3 := OgR.new hUB.size hge3
  have hB := hB.trans hXw2
  have hb1 := hb1.up hXw2
  have hb2 := hb2.up hXw2
  have hUB := hUB.ext hXw2
  refine WL.op rfl (OpK.storeA T.sz88 rfl rfl rfl rfl (by simp [Value.oneCell'] <;> first | done | (repeat' apply And.intro) <;> first | rfl | exact Inn.one1 (by assumption) (by omega) | exact Osl.oneCell (by assumption) | exact Osn.oneCell (by assumption) | exact Rd.oneCell (by assumption) | exact Rd.oneCell (NL.rd (by assumption)) | assumption) hb3 (fun w3 hXw3 hb3 => ?_))
  have hB := hB.updL hXw3 hl3
  have hb1 := hb1.updD hXw3 hd1_3
  have hb2 := hb2.updD hXw3 hd2_3
  have hUB := hUB.step hXw3 hkB_3
  refine WL.nilS ?_
  refine CW.seq ?_
  refine CW.seq ?_
  refine CW.reg ?_
  refine WL.mv rfl rfl ?_
  refine WL.op rfl (OpK.call rfl T.cf109 rfl (c_spec_l00Src_pick hB (by first | assumption | exact Lo.nl _) (by first | assumption | exact Lo.nl _) (by first | assumption | exact Rd.up (by assumption) hB | exact Osl.rd (by assumption) | exact Osn.rdR (by assumption) | exact NL.rd (by assumption) | exact rdII (by assumption) (by assumption) | exact Inn.rd (by assumption) (by omega)) (by first | assumption | omega | (simp only [marks_len, marksB_len, marksR_len, sumL_marksS]; omega)) (by first | assumption | omega | (simp only [marks_len, marksB_len, marksR_len, sumL_marksS]; omega)) (by first | assumption | omega | (simp only [marks_len, marksB_len, marksR_len, sumL_marksS]; omega)) (by first | assumption | omega | (simp only [marks_len, marksB_len, marksR_len, sumL_marksS]; omega))) (fun rv1 w4 hR => ?_))
  obtain ⟨hUC4, r5, at26, sd27, rfl, hm8, hm9, hbn1⟩ := hR
  have hUB := hUB.trans hUC4 ⟨hkB_1, trivial⟩
  have hb2 := hb2.loop hUC4 ⟨(Dj.symm hd1_2), trivial⟩
  have hb3 := hb3.loop hUC4 ⟨(Dj.symm hd1_3), trivial⟩
  have hB := hB.loop hUC4 ⟨hl1, trivial⟩
  have hb1 := hbn1
  refine WL.pure rfl rfl rfl (PV.add rfl rfl (by constructor <;> omega)) ?_
  refine WL.asg rfl rfl ?_
  refine WL.nilS ?_
  refine CW.block ?_
  have ho10 : Osn 4 gR w4 none (.slice none 0 0) [] := (Osn.nil gR_ok _)
  have hl10 : Lo b none := Lo.nl _
  have hd1_10 : Dj (some ps.block) none := Dj.nlR _
  have hd2_10 : Dj (some b2.block) none := Dj.nlR _
  have hd3_10 : Dj (some b3.block) none := Dj.nlR _
  have hkB_10 := OkN.nl hUB
  have hgB_10 := OgR.lo hUB.size (Lo.nl _)
  have ho11 : Osl VB w4 none (.slice none 0 0) [] := (Osl.nil _ _)
  have hl11 : Lo b none := Lo.nl _
  have hd1_11 : Dj (some ps.block) none := Dj.nlR _
  have hd2_11 : Dj (some b2.block) none := Dj.nlR _
  have hd3_11 : Dj (some b3.block) none := Dj.nlR _
  have hd10_11 : Dj none none := Dj.nlR _
  have hkB_11 := OkN.nl hUB
  have hgB_11 := OgR.lo hUB.size (Lo.nl _)
  have hlt1 := hb1.ltO
  have hlt2 := hb2.ltO
  have hlt3 := hb3.ltO
  have hlt10 := ho10.ltO
  have hlt11 := ho11.ltO
  refine CW.loop (σk := [(0, _), (1, _), (2, _), (6, _), (7, _)]) (fun ρ wz m => ∃ (v12 : Value) (og12 : Option Nat) (v13 : Value) (og13 : Option Nat) (k : Nat) (rs : List R4) (aq : Nat) (sq : Int), ρ = [(8, .int .i64 ((1 + r5) - (k : Nat)))] ∧ m = (1 + r5).toNat - k ∧ UpdL [none, none, (some b3.block), (some ps.block)] w4 wz ∧ Osn 4 gR wz og12 v12 (rs) ∧ OgR w4 none og12 ∧ Osl VB wz og13 v13 (([] : List Bool)) ∧ OgR w4 none og13 ∧ Bx wz b3 [.int .i64 S, .int .i64 L, v12, v13] ∧ Bx wz ps [vc, .int .i64 ((aq : Nat) : Int), .int .u64 sq] ∧ Dj og12 og13 ∧ ((k : Int) ≤ (1 + r5)) ∧ (rs.length = k) ∧ (∀ i : Nat, i < rs.length → okArc S L (rs.getD i (0, 0, 0, 0))) ∧ (aq ≤ at_ + 1 + 4 * k ∧ 0 ≤ sq ∧ sq < 18446744073709551616)) (ρ₀ := [(8, _)]) (m₀ := _) ⟨rfl, rfl, rfl, rfl, rfl, rfl, trivial⟩ ⟨(.slice none 0 0), none, (.slice none 0 0), none, 0, [], _, _, (by simp), rfl, (UpdL.refl _ _), osnE ho10 (by rfl), OgR.refl _ _, osE ho11 (by rfl), OgR.refl _ _, bxE hb3 (by first | rfl | (simp_all; done) | (simp_all; omega)), bxE hb1 (by rfl), hd10_11, (by first | omega | rfl | (simp; done) | assumption | (simp_all; done)), (by rfl), (by intro i h; simp at h), (by omega)⟩ ?_
  rintro _ wl1 _ ⟨v12, og12, v13, og13, k, rs, aq, sq, rfl, rfl, hU0, ho12, ha12, ho13, ha13, hb3, hb1, hd12_13, hk, hrl, hrs, hs⟩
  have hUB := hUB.trans hU0 ⟨hkB_10, hkB_11, hkB_3, hkB_1, trivial⟩
  have hb2 := hb2.loop hU0 ⟨hd2_10, hd2_11, hd2_3, (Dj.symm hd1_2), trivial⟩
  have hl12 := Lo.ogr hl10 hB ha12
  have hg0_12 := ha12
  have hk0_12 : OkB [none, none, (some b3.block), (some ps.block)] w4 og12 := OkB.ogr (OkB.mem (by simp)) (Nat.le_refl _) ha12
  have hkB_12 := OkB.ogr hkB_10 (by first | assumption | exact UpdL.size (by assumption)) ha12
  have hgB_12 := OgR.trans hgB_10 (by first | assumption | exact UpdL.size (by assumption)) ha12
  have hd1_12 := Dj.ogr hd1_10 hlt1 ha12
  have hd2_12 := Dj.ogr hd2_10 hlt2 ha12
  have hd3_12 := Dj.ogr hd3_10 hlt3 ha12
  have hl13 := Lo.ogr hl11 hB ha13
  have hg0_13 := ha13
  have hk0_13 : OkB [none, none, (some b3.block), (some ps.block)] w4 og13 := OkB.ogr (OkB.mem (by simp)) (Nat.le_refl _) ha13
  have hkB_13 := OkB.ogr hkB_11 (by first | assumption | exact UpdL.size (by assumption)) ha13
  have hgB_13 := OgR.trans hgB_11 (by first | assumption | exact UpdL.size (by assumption)) ha13
  have hd1_13 := Dj.ogr hd1_11 hlt1 ha13
  have hd2_13 := Dj.ogr hd2_11 hlt2 ha13
  have hd3_13 := Dj.ogr hd3_11 hlt3 ha13
  have hk0_3 : OkB [none, none, (some b3.block), (some ps.block)] w4 (some b3.block) := OkB.mem (by simp)
  have hk0_1 : OkB [none, none, (some b3.block), (some ps.block)] w4 (some ps.block) := OkB.mem (by simp)
  have hB := hB.loop hU0 ⟨hl10, hl11, hl3, hl1, trivial⟩
  refine CW.seq ?_
  refine CW.seq ?_
  refine CW.reg ?_
  refine WL.mv rfl rfl ?_
  refine WL.pure rfl rfl rfl (PV.gtr rfl rfl) ?_
  refine WL.nilS ?_
  refine CW.cond rfl (fun hc1 => ?_) (fun hc1 => ?_)
  · skip
    try simp only [nq] at hc1
    refine CW.skipS ?_
    refine CW.seq ?_
    refine CW.block ?_
    refine CW.seq ?_
    refine CW.reg ?_
    refine WL.mv rfl rfl ?_
    refine WL.mv rfl rfl ?_
    refine WL.op rfl (OpK.call rfl T.cf109 rfl (c_spec_l00Src_pick hB (by first | assumption | exact Lo.nl _) (by first | assumption | exact Lo.nl _) (by first | assumption | exact Rd.up (by assumption) hB | exact Osl.rd (by assumption) | exact Osn.rdR (by assumption) | exact NL.rd (by assumption) | exact rdII (by assumption) (by assumption) | exact Inn.rd (by assumption) (by omega)) (by first | assumption | omega | (simp only [marks_len, marksB_len, marksR_len, sumL_marksS]; omega)) (by first | assumption | omega | (simp only [marks_len, marksB_len, marksR_len, sumL_marksS]; omega)) (by first | assumption | omega | (simp only [marks_len, marksB_len, marksR_len, sumL_marksS]; omega)) (by first | assumption | omega | (simp only [marks_len, marksB_len, marksR_len, sumL_marksS]; omega))) (fun rv2 w5 hR => ?_))
    obtain ⟨hUC16, r17, at218, sd219, rfl, hm20, hm21, hbn1⟩ := hR
    have hUB := hUB.trans hUC16 ⟨hkB_1, trivial⟩
    have hU0 := hU0.trans hUC16 ⟨hk0_1, trivial⟩
    have hb2 := hb2.loop hUC16 ⟨(Dj.symm hd1_2), trivial⟩
    have hb3 := hb3.loop hUC16 ⟨(Dj.symm hd1_3), trivial⟩
    have ho12 := ho12.loop hUC16 ⟨(Dj.symm hd1_12), trivial⟩
    have ho13 := ho13.loop hUC16 ⟨(Dj.symm hd1_13), trivial⟩
    have hB := hB.loop hUC16 ⟨hl1, trivial⟩
    have hb1 := hbn1
    refine WL.pure rfl rfl rfl (PV.build (ks := [0]) (os := [.tmp 23]) (css := [[_]]) (ds := [_, _, _, _]) T.bu178 rfl rfl ⟨rfl, trivial⟩ rfl) ?_
    refine WL.op rfl (OpK.alloc rfl T.zv178 rfl (fun b22 w6 hXw6 hb22 hge22 => ?_))
    have hl22 := Lo.new hB hge22
    have hd1_22 := Dj.new hb1.ltO hge22
    have hd2_22 := Dj.new hb2.ltO hge22
    have hd3_22 := Dj.new hb3.ltO hge22
    have hd12_22 := Dj.new ho12.ltO hge22
    have hd13_22 := Dj.new ho13.ltO hge22
    have hkB_22 := OkN.new hUB hge22
    have hgB_22 := OgR.new hUB.size hge22
    have hk0_22 := OkN.new hU0 hge22
    have hg0_22 := OgR.new hU0.size hge22
    have hB := hB.trans hXw6
    have hb1 := hb1.up hXw6
    have hb2 := hb2.up hXw6
    have hb3 := hb3.up hXw6
    have ho12 := ho12.up hXw6
    have ho13 := ho13.up hXw6
    have hUB := hUB.ext hXw6
    have hU0 := hU0.ext hXw6
    refine WL.op rfl (OpK.storeA T.sz178 rfl rfl rfl rfl (by simp [Value.oneCell'] <;> first | done | (repeat' apply And.intro) <;> first | rfl | exact Inn.one1 (by assumption) (by omega) | exact Osl.oneCell (by assumption) | exact Osn.oneCell (by assumption) | exact Rd.oneCell (by assumption) | exact Rd.oneCell (NL.rd (by assumption)) | assumption) hb22 (fun w7 hXw7 hb22 => ?_))
    have hB := hB.updL hXw7 hl22
    have hb1 := hb1.updD hXw7 hd1_22
    have hb2 := hb2.updD hXw7 hd2_22
    have hb3 := hb3.updD hXw7 hd3_22
    have ho12 := ho12.updD hXw7 hd12_22
    have ho13 := ho13.updD hXw7 hd13_22
    have hUB := hUB.step hXw7 hkB_22
    have hU0 := hU0.step hXw7 hk0_22
    refine WL.nilS ?_
    refine CW.seq ?_
    refine CW.reg ?_
    refine WL.mv rfl rfl ?_
    refine WL.mv rfl rfl ?_
    refine WL.op rfl (OpK.call rfl T.cf109 rfl (c_spec_l00Src_pick hB (by first | assumption | exact Lo.nl _) (by first | assumption | exact Lo.nl _) (by first | assumption | exact Rd.up (by assumption) hB | exact Osl.rd (by assumption) | exact Osn.rdR (by assumption) | exact NL.rd (by assumption) | exact rdII (by assumption) (by assumption) | exact Inn.rd (by assumption) (by omega)) (by first | assumption | omega | (simp only [marks_len, marksB_len, marksR_len, sumL_marksS]; omega)) (by first | assumption | omega | (simp only [marks_len, marksB_len, marksR_len, sumL_marksS]; omega)) (by first | assumption | omega | (simp only [marks_len, marksB_len, marksR_len, sumL_marksS]; omega)) (by first | assumption | omega | (simp only [marks_len, marksB_len, marksR_len, sumL_marksS]; omega))) (fun rv3 w8 hR => ?_))
    obtain ⟨hUC23, r24, at225, sd226, rfl, hm27, hm28, hbn1⟩ := hR
    have hUB := hUB.trans hUC23 ⟨hkB_1, trivial⟩
    have hU0 := hU0.trans hUC23 ⟨hk0_1, trivial⟩
    have hb2 := hb2.loop hUC23 ⟨(Dj.symm hd1_2), trivial⟩
    have hb3 := hb3.loop hUC23 ⟨(Dj.symm hd1_3), trivial⟩
    have ho12 := ho12.loop hUC23 ⟨(Dj.symm hd1_12), trivial⟩
    have ho13 := ho13.loop hUC23 ⟨(Dj.symm hd1_13), trivial⟩
    have hb22 := hb22.loop hUC23 ⟨(Dj.symm hd1_22), trivial⟩
    have hB := hB.loop hUC23 ⟨hl1, trivial⟩
    have hb1 := hbn1
    refine WL.pure rfl rfl rfl (PV.fieldAddr T.fl178_1 rfl hb22.cells) ?_
    refine WL.op rfl (OpK.storeB T.sz2 rfl rfl (by first | rfl | exact Inn.one1 (by assumption) (by omega) | exact Osl.oneCell (by assumption) | exact Osn.oneCell (by assumption) | exact Rd.oneCell (by assumption) | exact Rd.oneCell (NL.rd (by assumption)) | assumption) hb22 rfl (fun w9 hXw9 hb22 => ?_))
    have hB := hB.updL hXw9 hl22
    have hb1 := hb1.updD hXw9 hd1_22
    have hb2 := hb2.updD hXw9 hd2_22
    have hb3 := hb3.updD hXw9 hd3_22
    have ho12 := ho12.updD hXw9 hd12_22
    have ho13 := ho13.updD hXw9 hd13_22
    have hUB := hUB.step hXw9 hkB_22
    have hU0 := hU0.step hXw9 hk0_22
    refine WL.nilS ?_
    refine CW.seq ?_
    refine CW.reg ?_
    refine WL.mv rfl rfl ?_
    refine WL.mv rfl rfl ?_
    refine WL.pure rfl rfl rfl (PV.add rfl rfl (by constructor <;> omega)) ?_
    refine WL.op rfl (OpK.call rfl T.cf109 rfl (c_spec_l00Src_pick hB (by first | assumption | exact Lo.nl _) (by first | assumption | exact Lo.nl _) (by first | assumption | exact Rd.up (by assumption) hB | exact Osl.rd (by assumption) | exact Osn.rdR (by assumption) | exact NL.rd (by assumption) | exact rdII (by assumption) (by assumption) | exact Inn.rd (by assumption) (by omega)) (by first | assumption | omega | (simp only [marks_len, marksB_len, marksR_len, sumL_marksS]; omega)) (by first | assumption | omega | (simp only [marks_len, marksB_len, marksR_len, sumL_marksS]; omega)) (by first | assumption | omega | (simp only [marks_len, marksB_len, marksR_len, sumL_marksS]; omega)) (by first | assumption | omega | (simp only [marks_len, marksB_len, marksR_len, sumL_marksS]; omega))) (fun rv4 w10 hR => ?_))
    obtain ⟨hUC29, r30, at231, sd232, rfl, hm33, hm34, hbn1⟩ := hR
    have hUB := hUB.trans hUC29 ⟨hkB_1, trivial⟩
    have hU0 := hU0.trans hUC29 ⟨hk0_1, trivial⟩
    have hb2 := hb2.loop hUC29 ⟨(Dj.symm hd1_2), trivial⟩
    have hb3 := hb3.loop hUC29 ⟨(Dj.symm hd1_3), trivial⟩
    have ho12 := ho12.loop hUC29 ⟨(Dj.symm hd1_12), trivial⟩
    have ho13 := ho13.loop hUC29 ⟨(Dj.symm hd1_13), trivial⟩
    have hb22 := hb22.loop hUC29 ⟨(Dj.symm hd1_22), trivial⟩
    have hB := hB.loop hUC29 ⟨hl1, trivial⟩
    have hb1 := hbn1
    refine WL.pure rfl rfl rfl (PV.sub rfl rfl (by constructor <;> omega)) ?_
    refine WL.pure rfl rfl rfl (PV.fieldAddr T.fl178_2 rfl hb22.cells) ?_
    refine WL.op rfl (OpK.storeB T.sz2 rfl rfl (by first | rfl | exact Inn.one1 (by assumption) (by omega) | exact Osl.oneCell (by assumption) | exact Osn.oneCell (by assumption) | exact Rd.oneCell (by assumption) | exact Rd.oneCell (NL.rd (by assumption)) | assumption) hb22 rfl (fun w11 hXw11 hb22 => ?_))
    have hB := hB.updL hXw11 hl22
    have hb1 := hb1.updD hXw11 hd1_22
    have hb2 := hb2.updD hXw11 hd2_22
    have hb3 := hb3.updD hXw11 hd3_22
    have ho12 := ho12.updD hXw11 hd12_22
    have ho13 := ho13.updD hXw11 hd13_22
    have hUB := hUB.step hXw11 hkB_22
    have hU0 := hU0.step hXw11 hk0_22
    refine WL.nilS ?_
    refine CW.seq ?_
    refine CW.reg ?_
    refine WL.mv rfl rfl ?_
    refine WL.mv rfl rfl ?_
    refine WL.pure rfl rfl rfl (PV.add rfl rfl (by constructor <;> omega)) ?_
    refine WL.op rfl (OpK.call rfl T.cf109 rfl (c_spec_l00Src_pick hB (by first | assumption | exact Lo.nl _) (by first | assumption | exact Lo.nl _) (by first | assumption | exact Rd.up (by assumption) hB | exact Osl.rd (by assumption) | exact Osn.rdR (by assumption) | exact NL.rd (by assumption) | exact rdII (by assumption) (by assumption) | exact Inn.rd (by assumption) (by omega)) (by first | assumption | omega | (simp only [marks_len, marksB_len, marksR_len, sumL_marksS]; omega)) (by first | assumption | omega | (simp only [marks_len, marksB_len, marksR_len, sumL_marksS]; omega)) (by first | assumption | omega | (simp only [marks_len, marksB_len, marksR_len, sumL_marksS]; omega)) (by first | assumption | omega | (simp only [marks_len, marksB_len, marksR_len, sumL_marksS]; omega))) (fun rv5 w12 hR => ?_))
    obtain ⟨hUC35, r36, at237, sd238, rfl, hm39, hm40, hbn1⟩ := hR
    have hUB := hUB.trans hUC35 ⟨hkB_1, trivial⟩
    have hU0 := hU0.trans hUC35 ⟨hk0_1, trivial⟩
    have hb2 := hb2.loop hUC35 ⟨(Dj.symm hd1_2), trivial⟩
    have hb3 := hb3.loop hUC35 ⟨(Dj.symm hd1_3), trivial⟩
    have ho12 := ho12.loop hUC35 ⟨(Dj.symm hd1_12), trivial⟩
    have ho13 := ho13.loop hUC35 ⟨(Dj.symm hd1_13), trivial⟩
    have hb22 := hb22.loop hUC35 ⟨(Dj.symm hd1_22), trivial⟩
    have hB := hB.loop hUC35 ⟨hl1, trivial⟩
    have hb1 := hbn1
    refine WL.pure rfl rfl rfl (PV.sub rfl rfl (by constructor <;> omega)) ?_
    refine WL.pure rfl rfl rfl (PV.fieldAddr T.fl178_3 rfl hb22.cells) ?_
    refine WL.op rfl (OpK.storeB T.sz2 rfl rfl (by first | rfl | exact Inn.one1 (by assumption) (by omega) | exact Osl.oneCell (by assumption) | exact Osn.oneCell (by assumption) | exact Rd.oneCell (by assumption) | exact Rd.oneCell (NL.rd (by assumption)) | assumption) hb22 rfl (fun w13 hXw13 hb22 => ?_))
    have hB := hB.updL hXw13 hl22
    have hb1 := hb1.updD hXw13 hd1_22
    have hb2 := hb2.updD hXw13 hd2_22
    have hb3 := hb3.updD hXw13 hd3_22
    have ho12 := ho12.updD hXw13 hd12_22
    have ho13 := ho13.updD hXw13 hd13_22
    have hUB := hUB.step hXw13 hkB_22
    have hU0 := hU0.step hXw13 hk0_22
    refine WL.nilS ?_
    refine CW.reg ?_
    refine WL.pure rfl rfl rfl (PV.fieldAddr T.fl88_2 rfl hb3.cells) ?_
    refine WL.pure rfl rfl rfl (PV.load1 T.na86 rfl hb3.cells (Ext.refl _) rfl) ?_
    refine WL.pure rfl rfl rfl (PV.loadA T.ag178 rfl hb22.cells (Ext.refl _) rfl) ?_
    refine WL.op rfl (OpK.build4 (os := [.tmp 43]) rfl T.sl86 rfl rfl T.zv178 rfl rfl (fun v41 g41 w14 hXw14 ho41 hge41 => ?_))
    have hl41 := Lo.new hB hge41
    have hd1_41 := Dj.new hb1.ltO hge41
    have hd2_41 := Dj.new hb2.ltO hge41
    have hd3_41 := Dj.new hb3.ltO hge41
    have hd12_41 := Dj.new ho12.ltO hge41
    have hd13_41 := Dj.new ho13.ltO hge41
    have hd22_41 := Dj.new hb22.ltO hge41
    have hkB_41 := OkN.new hUB hge41
    have hgB_41 := OgR.new hUB.size hge41
    have hk0_41 := OkN.new hU0 hge41
    have hg0_41 := OgR.new hU0.size hge41
    have hB := hB.trans hXw14
    have hb1 := hb1.up hXw14
    have hb2 := hb2.up hXw14
    have hb3 := hb3.up hXw14
    have ho12 := ho12.up hXw14
    have ho13 := ho13.up hXw14
    have hb22 := hb22.up hXw14
    have hUB := hUB.ext hXw14
    have hU0 := hU0.ext hXw14
    refine WL.op rfl (OpK.appendN (g := gR) rfl T.sl86 T.zv178 rfl rfl ho12 rfl (Osn.src ho41) (by first | (simp only [List.length_cons, List.length_nil]; omega) | (simp_all; omega)) (fun v42 og42 w15 hXw15 ho42 hap42 => ?_))
    have hl42 := Lo.app hl12 hB hap42
    have hd1_42 := Dj.app hd1_12 hb1.ltO hap42
    have hd2_42 := Dj.app hd2_12 hb2.ltO hap42
    have hd3_42 := Dj.app hd3_12 hb3.ltO hap42
    have hd13_42 := Dj.app (Dj.symm hd12_13) ho13.ltO hap42
    have hd22_42 := Dj.app (Dj.symm hd12_22) hb22.ltO hap42
    have hd41_42 := Dj.app (Dj.symm hd12_41) ho41.ltO hap42
    have hkB_42 := OkN.app hUB hkB_12 hap42
    have hgB_42 := OgR.app hgB_12 hUB.size hap42
    have hk0_42 := OkN.app hU0 hk0_12 hap42
    have hg0_42 := OgR.app hg0_12 hU0.size hap42
    have hB := hB.updL hXw15 hl12
    have hb1 := hb1.updD hXw15 hd1_12
    have hb2 := hb2.updD hXw15 hd2_12
    have hb3 := hb3.updD hXw15 hd3_12
    have ho13 := ho13.updD hXw15 (Dj.symm hd12_13)
    have hb22 := hb22.updD hXw15 (Dj.symm hd12_22)
    have ho41 := ho41.updD hXw15 (Dj.symm hd12_41)
    have hUB := hUB.step hXw15 hkB_12
    have hU0 := hU0.step hXw15 hk0_12
    refine WL.pure rfl rfl rfl (PV.fieldAddr T.fl88_2 rfl hb3.cells) ?_
    refine WL.op rfl (OpK.storeB T.sz86 rfl rfl (by first | rfl | exact Inn.one1 (by assumption) (by omega) | exact Osl.oneCell (by assumption) | exact Osn.oneCell (by assumption) | exact Rd.oneCell (by assumption) | exact Rd.oneCell (NL.rd (by assumption)) | assumption) hb3 rfl (fun w16 hXw16 hb3 => ?_))
    have hB := hB.updL hXw16 hl3
    have hb1 := hb1.updD hXw16 hd1_3
    have hb2 := hb2.updD hXw16 hd2_3
    have ho13 := ho13.updD hXw16 (Dj.symm hd3_13)
    have hb22 := hb22.updD hXw16 (Dj.symm hd3_22)
    have ho41 := ho41.updD hXw16 (Dj.symm hd3_41)
    have ho42 := ho42.updD hXw16 (Dj.symm hd3_42)
    have hUB := hUB.step hXw16 hkB_3
    have hU0 := hU0.step hXw16 hk0_3
    refine WL.nil ?_
    refine NQ.block ?_
    refine NQ.then ?_
    refine CW.reg ?_
    refine WL.mv rfl rfl ?_
    refine WL.pure rfl rfl rfl (PV.sub rfl rfl (by constructor <;> omega)) ?_
    refine WL.asg rfl rfl ?_
    refine WL.nil ?_
    refine NQ.next (ρ := [(8, _)]) ⟨rfl, rfl, rfl, rfl, rfl, rfl, trivial⟩ ?_
    exact ⟨_, ⟨v42, og42, v13, og13, k + 1, rs ++ [(r17, r24, r30 - 1, r36 - 1)], at237, sd238, (by simp; omega), rfl, hU0, osnE ho42 (by rfl), (by first | exact hg0_42 | exact OgR.weak hg0_42), osE ho13 (by rfl), (by first | exact hg0_13 | exact OgR.weak hg0_13), bxE hb3 (by rfl), bxE hb1 (by rfl), (Dj.symm hd13_42), (by first | omega | assumption | (simp_all; done) | (simp_all; omega)), (by simp [hrl]), (by exact okArc_put hrs ⟨by simp only; omega, by simp only; omega, by simp only; omega, by simp only; omega⟩), (by omega)⟩, by omega⟩
  try simp only [nq] at hc1
  refine CW.exit ?_
  refine XQ.then ?_
  refine XQ.then ?_
  refine XQ.here ?_
  refine NQ.then ?_
  refine CW.seq ?_
  refine CW.seq ?_
  refine CW.reg ?_
  refine WL.asg rfl rfl ?_
  refine WL.nilS ?_
  refine CW.block ?_
  have hlt1 := hb1.ltO
  have hlt2 := hb2.ltO
  have hlt3 := hb3.ltO
  have hlt12 := ho12.ltO
  have hlt13 := ho13.ltO
  refine CW.loop (σk := [(0, _), (1, _), (6, _), (7, _)]) (fun ρ wz m => ∃ (v43 : Value) (og43 : Option Nat) (v44 : Value) (og44 : Option Nat) (k2 : Nat) (es : List Bool) (aq : Nat) (sq : Int), ρ = [(10, .int .i64 (k2 : Nat))] ∧ m = S.toNat - k2 ∧ UpdL [og12, og13, (some b3.block), (some ps.block)] wl1 wz ∧ Osn 4 gR wz og43 v43 (rs) ∧ OgR wl1 og12 og43 ∧ Osl VB wz og44 v44 (es) ∧ OgR wl1 og13 og44 ∧ Bx wz b3 [.int .i64 S, .int .i64 L, v43, v44] ∧ Bx wz ps [vc, .int .i64 ((aq : Nat) : Int), .int .u64 sq] ∧ Dj og43 og44 ∧ ((k2 : Int) ≤ S) ∧ (es.length = k2) ∧ (aq ≤ at_ + 1 + 4 * k + k2 ∧ 0 ≤ sq ∧ sq < 18446744073709551616)) (ρ₀ := [(10, _)]) (m₀ := _) ⟨rfl, rfl, rfl, rfl, rfl, trivial⟩ ⟨v12, og12, v13, og13, 0, [], aq, sq, rfl, rfl, (UpdL.refl _ _), osnE ho12 (by rfl), OgR.refl _ _, osE ho13 (by rfl), OgR.refl _ _, bxE hb3 (by first | rfl | (simp_all; done) | (simp_all; omega)), bxE hb1 (by rfl), hd12_13, (by first | omega | rfl | (simp; done) | assumption | (simp_all; done)), (by rfl), (by omega)⟩ ?_
  rintro _ wl2 _ ⟨v43, og43, v44, og44, k2, es, aq, sq, rfl, rfl, hU1, ho43, ha43, ho44, ha44, hb3, hb1, hd43_44, hk2, hel, hs⟩
  have hUB := hUB.trans hU1 ⟨hkB_12, hkB_13, hkB_3, hkB_1, trivial⟩
  have hb2 := hb2.loop hU1 ⟨hd2_12, hd2_13, hd2_3, (Dj.symm hd1_2), trivial⟩
  have hl43 := Lo.ogr hl12 hB ha43
  have hg1_43 := ha43
  have hk1_43 : OkB [og12, og13, (some b3.block), (some ps.block)] wl1 og43 := OkB.ogr (OkB.mem (by simp)) (Nat.le_refl _) ha43
  have hkB_43 := OkB.ogr hkB_12 (by first | assumption | exact UpdL.size (by assumption)) ha43
  have hgB_43 := OgR.trans hgB_12 (by first | assumption | exact UpdL.size (by assumption)) ha43
  have hd1_43 := Dj.ogr hd1_12 hlt1 ha43
  have hd2_43 := Dj.ogr hd2_12 hlt2 ha43
  have hd3_43 := Dj.ogr hd3_12 hlt3 ha43
  have hl44 := Lo.ogr hl13 hB ha44
  have hg1_44 := ha44
  have hk1_44 : OkB [og12, og13, (some b3.block), (some ps.block)] wl1 og44 := OkB.ogr (OkB.mem (by simp)) (Nat.le_refl _) ha44
  have hkB_44 := OkB.ogr hkB_13 (by first | assumption | exact UpdL.size (by assumption)) ha44
  have hgB_44 := OgR.trans hgB_13 (by first | assumption | exact UpdL.size (by assumption)) ha44
  have hd1_44 := Dj.ogr hd1_13 hlt1 ha44
  have hd2_44 := Dj.ogr hd2_13 hlt2 ha44
  have hd3_44 := Dj.ogr hd3_13 hlt3 ha44
  have hk1_3 : OkB [og12, og13, (some b3.block), (some ps.block)] wl1 (some b3.block) := OkB.mem (by simp)
  have hk1_1 : OkB [og12, og13, (some b3.block), (some ps.block)] wl1 (some ps.block) := OkB.mem (by simp)
  have hB := hB.loop hU1 ⟨hl12, hl13, hl3, hl1, trivial⟩
  refine CW.seq ?_
  refine CW.seq ?_
  refine CW.reg ?_
  refine WL.mv rfl rfl ?_
  refine WL.mv rfl rfl ?_
  refine WL.pure rfl rfl rfl (PV.lss rfl rfl) ?_
  refine WL.nilS ?_
  refine CW.cond rfl (fun hc2 => ?_) (fun hc2 => ?_)
  · skip
    try simp only [nq] at hc2
    refine CW.skipS ?_
    refine CW.seq ?_
    refine CW.block ?_
    refine CW.draw T.mixed (by kernel_rfl) (fun _ _ _ _ _ h => h) (fun w8 w9 => UpdL [og44, (some ps.block)] w8 w9) 7 (.take 0 (.take 1 (.take 2 (.must 3 (.must 4 (.must 5 (.take 6 (.must 7 .done)))))))) (by kernel_rfl) (fun w17 hXd => ?_)
    have hB := hB.trans hXd
    have hb1 := hb1.up hXd
    have hb2 := hb2.up hXd
    have hb3 := hb3.up hXd
    have ho43 := ho43.up hXd
    have ho44 := ho44.up hXd
    have hUB := hUB.ext hXd
    have hU1 := hU1.ext hXd
    have hBr := hB
    have hUR : UpdL [og44, (some ps.block)] w17 w17 := UpdL.refl _ _
    have hS := hUR
    have hkR_44 : OkB [og44, (some ps.block)] w17 og44 := OkB.mem (by simp)
    have hgR_44 := OgR.refl w17 og44
    have hkR_1 : OkB [og44, (some ps.block)] w17 (some ps.block) := OkB.mem (by simp)
    have hgR_1 := OgR.refl w17 (some ps.block)
    refine HP.take rfl rfl rfl rfl hS (fun wS hS1 => PV.fieldAddr T.fl88_3 rfl hb3.cells) ?_
    refine HP.take rfl rfl rfl rfl hS (fun wS hS1 => PV.load1 T.na62 rfl (by first | exact Bx.cells (Bx.loop (by assumption) hS1 ⟨(by first | assumption | exact Dj.symm (by assumption)), (by first | assumption | exact Dj.symm (by assumption)), trivial⟩) | exact Cells.up (by assumption) (hBr.trans hS1)) (Ext.refl _) rfl) ?_
    refine HP.take rfl rfl rfl rfl hS (fun wS hS1 => PV.move rfl) ?_
    refine HP.must rfl rfl (OpK.call rfl T.cf194 rfl (c_spec_l00Src_one hB (by first | assumption | exact Lo.nl _) (by first | assumption | exact Lo.nl _) (by first | assumption | exact Rd.up (by assumption) hB | exact Osl.rd (by assumption) | exact Osn.rdR (by assumption) | exact NL.rd (by assumption) | exact rdII (by assumption) (by assumption) | exact Inn.rd (by assumption) (by omega)) (by first | assumption | omega | (simp only [marks_len, marksB_len, marksR_len, sumL_marksS]; omega)) (by first | assumption | omega | (simp only [marks_len, marksB_len, marksR_len, sumL_marksS]; omega)) (by first | assumption | omega | (simp only [marks_len, marksB_len, marksR_len, sumL_marksS]; omega)) (by first | assumption | omega | (simp only [marks_len, marksB_len, marksR_len, sumL_marksS]; omega))) (fun rv6 w18 hR => ?_))
    obtain ⟨hUC47, r48, at249, sd250, rfl, hm51, hbn1⟩ := hR
    have hUB := hUB.trans hUC47 ⟨hkB_1, trivial⟩
    have hU1 := hU1.trans hUC47 ⟨hk1_1, trivial⟩
    have hUR := hUR.trans hUC47 ⟨hkR_1, trivial⟩
    have hb2 := hb2.loop hUC47 ⟨(Dj.symm hd1_2), trivial⟩
    have hb3 := hb3.loop hUC47 ⟨(Dj.symm hd1_3), trivial⟩
    have ho43 := ho43.loop hUC47 ⟨(Dj.symm hd1_43), trivial⟩
    have ho44 := ho44.loop hUC47 ⟨(Dj.symm hd1_44), trivial⟩
    have hB := hB.loop hUC47 ⟨hl1, trivial⟩
    refine ⟨hUR, ?_⟩
    have hS := hUR
    have hb1 := hbn1
    refine HP.must rfl rfl (OpK.buildS VB (os := [.tmp 55]) [_] rfl T.sl62 rfl rfl T.zv4 rfl (by intro z hz; first | rfl | (simp only [List.mem_cons, List.not_mem_nil, or_false] at hz; subst hz; exact (by first | exact Rd.cells1 (by assumption) | exact Osl.cells1 (by assumption) | exact Osn.cells1 (by assumption) | exact Rd.cells1 (NL.rd (by assumption)) | exact Inn.cell1 (by assumption) (by omega) | assumption | rfl))) rfl (fun v52 g52 w19 hXw19 ho52 hge52 => ?_))
    have hl52 := Lo.new hB hge52
    have hd1_52 := Dj.new hb1.ltO hge52
    have hd2_52 := Dj.new hb2.ltO hge52
    have hd3_52 := Dj.new hb3.ltO hge52
    have hd43_52 := Dj.new ho43.ltO hge52
    have hd44_52 := Dj.new ho44.ltO hge52
    have hkB_52 := OkN.new hUB hge52
    have hgB_52 := OgR.new hUB.size hge52
    have hk1_52 := OkN.new hU1 hge52
    have hg1_52 := OgR.new hU1.size hge52
    have hkR_52 := OkN.new hUR hge52
    have hgR_52 := OgR.new hUR.size hge52
    have hUR := hUR.ext hXw19
    refine ⟨hUR, ?_⟩
    have hS := hUR
    have hB := hB.trans hXw19
    have hb1 := hb1.up hXw19
    have hb2 := hb2.up hXw19
    have hb3 := hb3.up hXw19
    have ho43 := ho43.up hXw19
    have ho44 := ho44.up hXw19
    have hUB := hUB.ext hXw19
    have hU1 := hU1.ext hXw19
    refine HP.must rfl rfl (OpK.appendS (f := VB) rfl T.sl62 T.zv4 rfl rfl ho44 rfl (Osl.src ho52 (fun _ => rfl)) (by first | (simp only [List.length_cons, List.length_nil]; omega) | (simp_all; omega)) (fun v53 og53 w20 hXw20 ho53 hap53 => ?_))
    have hl53 := Lo.app hl44 hB hap53
    have hd1_53 := Dj.app hd1_44 hb1.ltO hap53
    have hd2_53 := Dj.app hd2_44 hb2.ltO hap53
    have hd3_53 := Dj.app hd3_44 hb3.ltO hap53
    have hd43_53 := Dj.app hd43_44 ho43.ltO hap53
    have hd52_53 := Dj.app (Dj.symm hd44_52) ho52.ltO hap53
    have hkB_53 := OkN.app hUB hkB_44 hap53
    have hgB_53 := OgR.app hgB_44 hUB.size hap53
    have hk1_53 := OkN.app hU1 hk1_44 hap53
    have hg1_53 := OgR.app hg1_44 hU1.size hap53
    have hkR_53 := OkN.app hUR hkR_44 hap53
    have hgR_53 := OgR.app hgR_44 hUR.size hap53
    have hUR := hUR.step hXw20 hkR_44
    refine ⟨hUR, ?_⟩
    have hS := hUR
    have hB := hB.updL hXw20 hl44
    have hb1 := hb1.updD hXw20 hd1_44
    have hb2 := hb2.updD hXw20 hd2_44
    have hb3 := hb3.updD hXw20 hd3_44
    have ho43 := ho43.updD hXw20 hd43_44
    have ho52 := ho52.updD hXw20 (Dj.symm hd44_52)
    have hUB := hUB.step hXw20 hkB_44
    have hU1 := hU1.step hXw20 hk1_44
    refine HP.take rfl rfl rfl rfl hS (fun wS hS1 => PV.fieldAddr T.fl88_3 rfl hb3.cells) ?_
    refine HP.last rfl rfl (OpK.storeB T.sz62 rfl rfl (by first | rfl | exact Inn.one1 (by assumption) (by omega) | exact Osl.oneCell (by assumption) | exact Osn.oneCell (by assumption) | exact Rd.oneCell (by assumption) | exact Rd.oneCell (NL.rd (by assumption)) | assumption) hb3 rfl (fun w21 hXw21 hb3 => ?_))
    have hB := hB.updL hXw21 hl3
    have hb1 := hb1.updD hXw21 hd1_3
    have hb2 := hb2.updD hXw21 hd2_3
    have ho43 := ho43.updD hXw21 (Dj.symm hd3_43)
    have ho52 := ho52.updD hXw21 (Dj.symm hd3_52)
    have ho53 := ho53.updD hXw21 (Dj.symm hd3_53)
    have hUB := hUB.step hXw21 hkB_3
    have hU1 := hU1.step hXw21 hk1_3
    refine HP.done ?_
    refine NQ.block ?_
    refine NQ.then ?_
    refine CW.reg ?_
    refine WL.mv rfl rfl ?_
    refine WL.pure rfl rfl rfl (PV.add rfl rfl (by constructor <;> omega)) ?_
    refine WL.asg rfl rfl ?_
    refine WL.nil ?_
    refine NQ.next (ρ := [(10, _)]) ⟨rfl, rfl, rfl, rfl, rfl, trivial⟩ ?_
    exact ⟨_, ⟨v43, og43, v53, og53, k2 + 1, es ++ [r48], at249, sd250, rfl, rfl, hU1, osnE ho43 (by rfl), (by first | exact hg1_43 | exact OgR.weak hg1_43), osE ho53 (by rfl), (by first | exact hg1_53 | exact OgR.weak hg1_53), bxE hb3 (by rfl), bxE hb1 (by rfl), hd43_53, (by first | omega | assumption | (simp_all; done) | (simp_all; omega)), (by simp [hel]), (by omega)⟩, by omega⟩
  try simp only [nq] at hc2
  refine CW.exit ?_
  refine XQ.then ?_
  refine XQ.then ?_
  refine XQ.here ?_
  refine NQ.then ?_
  refine CW.seq ?_
  refine CW.reg ?_
  refine WL.pure rfl rfl rfl (PV.loadA T.ag88 rfl hb3.cells (Ext.refl _) rfl) ?_
  refine WL.op rfl (OpK.storeA T.sz88 rfl rfl rfl rfl (by simp [Value.oneCell'] <;> first | done | (repeat' apply And.intro) <;> first | rfl | exact Inn.one1 (by assumption) (by omega) | exact Osl.oneCell (by assumption) | exact Osn.oneCell (by assumption) | exact Rd.oneCell (by assumption) | exact Rd.oneCell (NL.rd (by assumption)) | assumption) hb2 (fun w22 hXw22 hb2 => ?_))
  have hB := hB.updL hXw22 hl2
  have hb1 := hb1.updD hXw22 hd1_2
  have hb3 := hb3.updD hXw22 (Dj.symm hd2_3)
  have ho43 := ho43.updD hXw22 (Dj.symm hd2_43)
  have ho44 := ho44.updD hXw22 (Dj.symm hd2_44)
  have hUB := hUB.step hXw22 hkB_2
  refine WL.nilS ?_
  refine CW.ret ?_
  refine RQ.rc0 T.ag88 rfl (by first | exact Cells.up (by assumption) hB | exact Bx.cells (by assumption) | assumption) rfl ?_
  refine ⟨hUB, rs, es, aq, sq, v43, og43, v44, og44, rfl, ?_, ?_, hb1, osnE ho43 ?_, (by first | exact hl43 | exact Lo.ogn hgB_43), osE ho44 ?_, (by first | exact hl44 | exact Lo.ogn hgB_44), hd43_44⟩
  · skip
    exact ⟨by omega, by omega, hrs⟩
  · skip
    omega
  · skip
    rfl
  · skip
    rfl
theorem c_spec_B10Sided {w : World} {b : World} {vc : Value} {bs : List Int} (hB0 : Ext b w) (ha : Rd EU8 b vc bs) (hg : ∀ x ∈ bs, 0 ≤ x ∧ x ≤ 255) : Calls Try.prog 61 #[vc, .int .i64 2] w (Ret1 (fun v w' => UpdL [] w w' ∧ ∃ (S : Int) (rs : List R4) (es : List Bool) (u2 : Value) (og_u2 : Option Nat) (u3 : Value) (og_u3 : Option Nat), v = .agg #[.int .i64 S, .int .i64 2, u2, u3] ∧ (1 ≤ S ∧ S ≤ 2) ∧ (sidedV S 2 rs es) ∧ Osn 4 gR w' og_u2 u2 (rs) ∧ Lo w og_u2 ∧ Osl VB w' og_u3 u3 (es) ∧ Lo w og_u3 ∧ Dj og_u2 og_u3)) := by
  have hB := hB0
  refine callsOf (vs := [_, _]) Try.func61 rfl Try.ntmps61 rfl rfl ?_
  have hUB : UpdL [] w w := UpdL.refl _ _
  refine CW.seq ?_
  refine CW.reg ?_
  refine WL.op rfl (OpK.alloc rfl T.zv88 rfl (fun b1 w1 hXw1 hb1 hge1 => ?_))
  have hl1 := Lo.new hB hge1
  have hkB_1 := OkN.new hUB hge1
  have hgB_1 := OgR.new hUB.size hge1
  have hB := hB.trans hXw1
  have hUB := hUB.ext hXw1
  refine WL.nilS ?_
  refine CW.seq ?_
  refine CW.reg ?_
  refine WL.mv rfl rfl ?_
  refine WL.op rfl (OpK.call rfl T.cf107 rfl (c_spec_l00From (by first | assumption | exact Rd.up (by assumption) hB | exact Osl.rd (by assumption) | exact Osn.rdR (by assumption) | exact NL.rd (by assumption) | exact rdII (by assumption) (by assumption) | exact Inn.rd (by assumption) (by omega))) (fun rv1 w2 hR => ?_))
  obtain ⟨hXw2, b2, rfl, hb2, hge2⟩ := hR
  have hl2 := Lo.new hB hge2
  have hd1_2 := Dj.new hb1.ltO hge2
  have hkB_2 := OkN.new hUB hge2
  have hgB_2 := OgR.new hUB.size hge2
  have hB := hB.trans hXw2
  have hb1 := hb1.up hXw2
  have hUB := hUB.ext hXw2
  refine WL.asg rfl rfl ?_
  refine WL.nilS ?_
  refine CW.seq ?_
  refine CW.reg ?_
  refine WL.mv rfl rfl ?_
  refine WL.op rfl (OpK.call rfl T.cf109 rfl (c_spec_l00Src_pick hB (by first | assumption | exact Lo.nl _) (by first | assumption | exact Lo.nl _) (by first | assumption | exact Rd.up (by assumption) hB | exact Osl.rd (by assumption) | exact Osn.rdR (by assumption) | exact NL.rd (by assumption) | exact rdII (by assumption) (by assumption) | exact Inn.rd (by assumption) (by omega)) (by first | assumption | omega | (simp only [marks_len, marksB_len, marksR_len, sumL_marksS]; omega)) (by first | assumption | omega | (simp only [marks_len, marksB_len, marksR_len, sumL_marksS]; omega)) (by first | assumption | omega | (simp only [marks_len, marksB_len, marksR_len, sumL_marksS]; omega)) (by first | assumption | omega | (simp only [marks_len, marksB_len, marksR_len, sumL_marksS]; omega))) (fun rv2 w3 hR => ?_))
  obtain ⟨hUC3, r4, at25, sd26, rfl, hm7, hm8, hbn2⟩ := hR
  have hUB := hUB.trans hUC3 ⟨hkB_2, trivial⟩
  have hb1 := hb1.loop hUC3 ⟨hd1_2, trivial⟩
  have hB := hB.loop hUC3 ⟨hl2, trivial⟩
  have hb2 := hbn2
  refine WL.pure rfl rfl rfl (PV.add rfl rfl (by constructor <;> omega)) ?_
  refine WL.asg rfl rfl ?_
  refine WL.nilS ?_
  refine CW.seq ?_
  refine CW.reg ?_
  have hm8b : at25 ≤ 1 := hm8.1
  refine WL.mv rfl rfl ?_
  refine WL.mv rfl rfl ?_
  refine WL.mv rfl rfl ?_
  refine WL.op rfl (OpK.call rfl T.cf146 rfl (c_spec_l05DrawSides hB (by first | assumption | exact Lo.nl _) (by first | assumption | exact Lo.nl _) (by first | assumption | exact Rd.up (by assumption) hB | exact Osl.rd (by assumption) | exact Osn.rdR (by assumption) | exact NL.rd (by assumption) | exact rdII (by assumption) (by assumption) | exact Inn.rd (by assumption) (by omega)) (by first | assumption | omega | (simp only [marks_len, marksB_len, marksR_len, sumL_marksS]; omega)) (by first | assumption | omega | (simp only [marks_len, marksB_len, marksR_len, sumL_marksS]; omega)) (by first | assumption | omega | (simp only [marks_len, marksB_len, marksR_len, sumL_marksS]; omega)) (by first | assumption | omega | (simp only [marks_len, marksB_len, marksR_len, sumL_marksS]; omega)) (by first | assumption | omega | (simp only [marks_len, marksB_len, marksR_len, sumL_marksS]; omega))) (fun rv3 w4 hR => ?_))
  obtain ⟨hUC9, rs10, es11, at212, sd213, v14, og14, v15, og15, rfl, hm16, hm17, hbn2, ho14, hq14, ho15, hq15, hd14_15⟩ := hR
  have hl14 := Lo.up hq14 hB
  have hd1_14 := Dj.lo hb1.ltO hq14
  have hd2_14 := Dj.lo hb2.ltO hq14
  have hkB_14 := OkN.lo hUB hq14
  have hgB_14 := OgR.lo hUB.size hq14
  have hl15 := Lo.up hq15 hB
  have hd1_15 := Dj.lo hb1.ltO hq15
  have hd2_15 := Dj.lo hb2.ltO hq15
  have hkB_15 := OkN.lo hUB hq15
  have hgB_15 := OgR.lo hUB.size hq15
  have hUB := hUB.trans hUC9 ⟨hkB_2, trivial⟩
  have hb1 := hb1.loop hUC9 ⟨hd1_2, trivial⟩
  have hB := hB.loop hUC9 ⟨hl2, trivial⟩
  have hb2 := hbn2
  refine WL.op rfl (OpK.storeA T.sz88 rfl rfl rfl rfl (by simp [Value.oneCell'] <;> first | done | (repeat' apply And.intro) <;> first | rfl | exact Inn.one1 (by assumption) (by omega) | exact Osl.oneCell (by assumption) | exact Osn.oneCell (by assumption) | exact Rd.oneCell (by assumption) | exact Rd.oneCell (NL.rd (by assumption)) | assumption) hb1 (fun w5 hXw5 hb1 => ?_))
  have hB := hB.updL hXw5 hl1
  have hb2 := hb2.updD hXw5 (Dj.symm hd1_2)
  have ho14 := ho14.updD hXw5 (Dj.symm hd1_14)
  have ho15 := ho15.updD hXw5 (Dj.symm hd1_15)
  have hUB := hUB.step hXw5 hkB_1
  refine WL.nilS ?_
  refine CW.ret ?_
  refine RQ.rc0 T.ag88 rfl (by first | exact Cells.up (by assumption) hB | exact Bx.cells (by assumption) | assumption) rfl ?_
  refine ⟨hUB, _, rs10, es11, v14, og14, v15, og15, rfl, ?_, ?_, osnE ho14 ?_, (by first | exact hl14 | exact Lo.ogn hgB_14), osE ho15 ?_, (by first | exact hl15 | exact Lo.ogn hgB_15), hd14_15⟩
  · skip
    omega
  · skip
    exact sided_dr (by omega) rfl (by assumption)
  · skip
    rfl
  · skip
    rfl
theorem c_laws_b10At {w : World} {va : Value} {xs : List Int} {i N : Int} (ha : Rd EU8 w va xs) (hg : ∀ x ∈ xs, 0 ≤ x ∧ x ≤ 255) (hi : 0 ≤ i ∧ i ≤ 10 ∧ 2 ≤ N ∧ N ≤ 100) : Calls Try.prog 63 #[va, .int .i64 i, .int .i64 N] w (Ret1 (RQt (.int .i64 (atN xs i.toNat N)) w)) := by
  have hB : Ext w w := Ext.refl w
  have hla := ha.leI
  refine callsOf (vs := [_, _, _]) Try.func63 rfl Try.ntmps63 rfl rfl ?_
  refine CW.seq ?_
  refine CW.reg ?_
  refine WL.asg rfl rfl ?_
  refine WL.nilS ?_
  refine CW.seq ?_
  refine CW.seq ?_
  refine CW.reg ?_
  refine WL.mv rfl rfl ?_
  refine WL.pure rfl rfl rfl (PV.leq rfl rfl) ?_
  refine WL.nilS ?_
  refine CW.cond rfl (fun hc1 => ?_) (fun hc1 => ?_)
  · skip
    try simp only [nq] at hc1
    exfalso; omega
  try simp only [nq] at hc1
  refine CW.skipS ?_
  refine CW.seq ?_
  refine CW.seq ?_
  refine CW.reg ?_
  refine WL.mv rfl rfl ?_
  refine WL.mv rfl rfl ?_
  refine WL.pure rfl rfl rfl ((by first | exact PV.len rfl (by assumption) T.sl42 | exact PV.lenOs rfl (by assumption) T.sl42 | exact PV.len rfl (NL.rd (by assumption)) T.sl42 | exact PV.len rfl (Inn.rd (by assumption) (by omega)) T.sl42)) ?_
  refine WL.pure rfl rfl rfl (PV.lss rfl rfl) ?_
  refine WL.nilS ?_
  refine CW.cond rfl (fun hc2 => ?_) (fun hc2 => ?_)
  · skip
    try simp only [nq] at hc2
    have hgx := getD_P hg (i := i.toNat) (by omega)
    refine CW.seq ?_
    refine CW.reg ?_
    refine WL.mv rfl rfl ?_
    refine WL.mv rfl rfl ?_
    first
      | refine WL.at (x := .tmp 13) (y := .tmp 14) (E := EU8) (0) rfl rfl (by first | assumption | exact Inn.rd (by assumption) (by omega)) (by first | omega | (simp only [List.length_set]; omega) | (simp only [List.length_append, List.length_take, List.length_replicate, List.length_drop]; omega)) (fun p1 csp1 hpp1 hcp1 hq => ?_)
      | refine WL.atZ (x := .tmp 13) (y := .tmp 14) (E := EU8) (0) rfl rfl (by first | assumption | exact Inn.rd (by assumption) (by omega)) (by first | omega | (simp only [List.length_set]; omega) | (simp only [List.length_append, List.length_take, List.length_replicate, List.length_drop]; omega)) (fun p1 csp1 hpp1 hzp1 hcp1 hq => ?_)
    cases hq
    refine WL.pure rfl rfl rfl ((by first | exact PV.indexAddr hpp1 rfl rfl T.sl42 | exact PV.indexAddr hpp1 rfl (by rw [← hzp1]; rfl) T.sl42)) ?_
    refine WL.pure rfl rfl rfl ((by first | exact PV.load0 T.na5 rfl (by first | exact Cells.up (by assumption) hB | exact Bx.cells (by assumption) | assumption) (Ext.refl _) rfl | exact PV.load1 T.na5 rfl (by first | exact Cells.up (by assumption) hB | exact Bx.cells (by assumption) | assumption) (Ext.refl _) rfl)) ?_
    refine WL.pure rfl rfl rfl (PV.conv rfl T.us5 T.ik2 (by exact ⟨Int.le_trans (by decide) hgx.1, Int.le_trans hgx.2 (by decide)⟩)) ?_
    refine WL.mv rfl rfl ?_
    refine WL.pure rfl rfl rfl (PV.rem rfl rfl (by omega) rfl) ?_
    refine WL.asg rfl rfl ?_
    refine WL.nilS ?_
    refine CW.ret ?_
    refine RQ.then ?_
    refine RQ.r1 rfl ?_
    refine ⟨?_, hB⟩
    first | exact iE (by rw [atN_yes (by omega)]) | exact iE (by rw [atN_no (by omega), Int.toNat_of_nonneg (by omega)]; done)
  try simp only [nq] at hc2
  refine CW.skipS ?_
  refine CW.seq ?_
  refine CW.reg ?_
  refine WL.mv rfl rfl ?_
  refine WL.pure rfl rfl rfl (PV.mul rfl rfl (by constructor <;> omega)) ?_
  refine WL.pure rfl rfl rfl (PV.add rfl rfl (by constructor <;> omega)) ?_
  refine WL.mv rfl rfl ?_
  refine WL.pure rfl rfl rfl (PV.rem rfl rfl (by omega) rfl) ?_
  refine WL.asg rfl rfl ?_
  refine WL.nilS ?_
  refine CW.ret ?_
  refine RQ.r1 rfl ?_
  refine ⟨?_, hB⟩
  first | exact iE (by rw [atN_yes (by omega)]) | exact iE (by rw [atN_no (by omega), Int.toNat_of_nonneg (by omega)]; done)
theorem c_spec_l07DrawWord {w : World} {b : World} {ps : Addr} {vc : Value} {bs : List Int} {at_ : Nat} {sd : Int} {N L : Int} (hB0 : Ext b w) (htb_ps : Bx w ps [vc, .int .i64 ((at_ : Nat) : Int), .int .u64 sd]) (htl_ps : Lo b (some ps.block)) (ha : Rd EU8 b vc bs) (hg : ∀ x ∈ bs, 0 ≤ x ∧ x ≤ 255) (hat : at_ ≤ 1000) (hsd : 0 ≤ sd ∧ sd < 18446744073709551616) (hN : 0 ≤ N ∧ N ≤ 100) (hL2 : 2 ≤ L ∧ L ≤ 4) : Calls Try.prog 147 #[.pointer (some ps), .int .i64 L, .int .i64 N] w (Ret1 (fun v w' => UpdL [some ps.block] w w' ∧ ∃ (ws : List Int) (at2 : Nat) (sd2 : Int) (u : Value) (og_u : Option Nat), v = u ∧ ((ws.length : Int) = N ∧ ∀ x ∈ ws, 0 ≤ x ∧ x ≤ L - 1) ∧ (at2 ≤ at_ + N.toNat ∧ 0 ≤ sd2 ∧ sd2 < 18446744073709551616) ∧ Bx w' ps [vc, .int .i64 ((at2 : Nat) : Int), .int .u64 sd2] ∧ Osl VI w' og_u u (ws) ∧ Lo w og_u)) := by
  have hB := hB0
  have hla := ha.leI
  refine callsOf (vs := [_, _, _]) Try.func147 rfl Try.ntmps147 rfl rfl ?_
  have hUB : UpdL [(some ps.block)] w w := UpdL.refl _ _
  have hb1 := htb_ps
  have hl1 := htl_ps
  have hkB_1 : OkB [(some ps.block)] w (some ps.block) := OkB.mem (by simp)
  have hgB_1 := OgR.refl w (some ps.block)
  refine CW.seq ?_
  refine CW.reg ?_
  refine WL.asg rfl rfl ?_
  refine WL.nilS ?_
  refine CW.seq ?_
  refine CW.reg ?_
  refine WL.op rfl (OpK.buildS VI (os := []) [] rfl T.sl28 rfl rfl T.zv2 rfl (by intro z hz; cases hz) rfl (fun v2 g2 w1 hXw1 ho2 hge2 => ?_))
  have hl2 := Lo.new hB hge2
  have hd1_2 := Dj.new hb1.ltO hge2
  have hkB_2 := OkN.new hUB hge2
  have hgB_2 := OgR.new hUB.size hge2
  have hB := hB.trans hXw1
  have hb1 := hb1.up hXw1
  have hUB := hUB.ext hXw1
  refine WL.asg rfl rfl ?_
  refine WL.nilS ?_
  refine CW.seq ?_
  refine CW.block ?_
  have hlt1 := hb1.ltO
  have hlt2 := ho2.ltO
  refine CW.loop (σk := [(0, _), (1, _)]) (fun ρ wz m => ∃ (v3 : Value) (og3 : Option Nat) (k : Nat) (ws : List Int) (aq : Nat) (sq : Int), ρ = [(2, .int .i64 (N - (k : Nat))), (7, v3)] ∧ m = N.toNat - k ∧ UpdL [(some g2), (some ps.block)] w1 wz ∧ Osl VI wz og3 v3 (ws) ∧ OgR w1 (some g2) og3 ∧ Bx wz ps [vc, .int .i64 ((aq : Nat) : Int), .int .u64 sq] ∧ ((k : Int) ≤ N) ∧ (ws.length = k) ∧ (∀ x ∈ ws, 0 ≤ x ∧ x ≤ L - 1) ∧ (aq ≤ at_ + k ∧ 0 ≤ sq ∧ sq < 18446744073709551616)) (ρ₀ := [(2, _), (7, _)]) (m₀ := _) ⟨rfl, rfl, rfl, rfl, trivial⟩ ⟨v2, (some g2), 0, [], at_, sd, (by simp), rfl, (UpdL.refl _ _), osE ho2 (by rfl), OgR.refl _ _, bxE hb1 (by rfl), (by first | omega | rfl | (simp; done) | assumption | (simp_all; done)), (by rfl), (by intro x hx; cases hx), (by exact ⟨by omega, hsd⟩)⟩ ?_
  rintro _ wl1 _ ⟨v3, og3, k, ws, aq, sq, rfl, rfl, hU0, ho3, ha3, hb1, hk, hl, hw, hs⟩
  have hUB := hUB.trans hU0 ⟨hkB_2, hkB_1, trivial⟩
  have hl3 := Lo.ogr hl2 hB ha3
  have hg0_3 := ha3
  have hk0_3 : OkB [(some g2), (some ps.block)] w1 og3 := OkB.ogr (OkB.mem (by simp)) (Nat.le_refl _) ha3
  have hkB_3 := OkB.ogr hkB_2 (by first | assumption | exact UpdL.size (by assumption)) ha3
  have hgB_3 := OgR.trans hgB_2 (by first | assumption | exact UpdL.size (by assumption)) ha3
  have hd1_3 := Dj.ogr hd1_2 hlt1 ha3
  have hk0_1 : OkB [(some g2), (some ps.block)] w1 (some ps.block) := OkB.mem (by simp)
  have hB := hB.loop hU0 ⟨hl2, hl1, trivial⟩
  refine CW.seq ?_
  refine CW.seq ?_
  refine CW.reg ?_
  refine WL.mv rfl rfl ?_
  refine WL.pure rfl rfl rfl (PV.gtr rfl rfl) ?_
  refine WL.nilS ?_
  refine CW.cond rfl (fun hc1 => ?_) (fun hc1 => ?_)
  · skip
    try simp only [nq] at hc1
    refine CW.skipS ?_
    refine CW.seq ?_
    refine CW.block ?_
    refine CW.reg ?_
    refine WL.mv rfl rfl ?_
    refine WL.mv rfl rfl ?_
    refine WL.mv rfl rfl ?_
    refine WL.op rfl (OpK.call rfl T.cf109 rfl (c_spec_l00Src_pick hB (by first | assumption | exact Lo.nl _) (by first | assumption | exact Lo.nl _) (by first | assumption | exact Rd.up (by assumption) hB | exact Osl.rd (by assumption) | exact Osn.rdR (by assumption) | exact NL.rd (by assumption) | exact rdII (by assumption) (by assumption) | exact Inn.rd (by assumption) (by omega)) (by first | assumption | omega | (simp only [marks_len, marksB_len, marksR_len, sumL_marksS]; omega)) (by first | assumption | omega | (simp only [marks_len, marksB_len, marksR_len, sumL_marksS]; omega)) (by first | assumption | omega | (simp only [marks_len, marksB_len, marksR_len, sumL_marksS]; omega)) (by first | assumption | omega | (simp only [marks_len, marksB_len, marksR_len, sumL_marksS]; omega))) (fun rv1 w2 hR => ?_))
    obtain ⟨hUC5, r6, at27, sd28, rfl, hm9, hm10, hbn1⟩ := hR
    have hUB := hUB.trans hUC5 ⟨hkB_1, trivial⟩
    have hU0 := hU0.trans hUC5 ⟨hk0_1, trivial⟩
    have ho3 := ho3.loop hUC5 ⟨(Dj.symm hd1_3), trivial⟩
    have hB := hB.loop hUC5 ⟨hl1, trivial⟩
    have hb1 := hbn1
    refine WL.op rfl (OpK.buildS VI (os := [.tmp 16]) [_] rfl T.sl28 rfl rfl T.zv2 rfl (by intro z hz; first | rfl | (simp only [List.mem_cons, List.not_mem_nil, or_false] at hz; subst hz; exact (by first | exact Rd.cells1 (by assumption) | exact Osl.cells1 (by assumption) | exact Osn.cells1 (by assumption) | exact Rd.cells1 (NL.rd (by assumption)) | exact Inn.cell1 (by assumption) (by omega) | assumption | rfl))) rfl (fun v11 g11 w3 hXw3 ho11 hge11 => ?_))
    have hl11 := Lo.new hB hge11
    have hd1_11 := Dj.new hb1.ltO hge11
    have hd3_11 := Dj.new ho3.ltO hge11
    have hkB_11 := OkN.new hUB hge11
    have hgB_11 := OgR.new hUB.size hge11
    have hk0_11 := OkN.new hU0 hge11
    have hg0_11 := OgR.new hU0.size hge11
    have hB := hB.trans hXw3
    have hb1 := hb1.up hXw3
    have ho3 := ho3.up hXw3
    have hUB := hUB.ext hXw3
    have hU0 := hU0.ext hXw3
    refine WL.op rfl (OpK.appendS (f := VI) rfl T.sl28 T.zv2 rfl rfl ho3 rfl (Osl.src ho11 (fun _ => rfl)) (by first | (simp only [List.length_cons, List.length_nil]; omega) | (simp_all; omega)) (fun v12 og12 w4 hXw4 ho12 hap12 => ?_))
    have hl12 := Lo.app hl3 hB hap12
    have hd1_12 := Dj.app hd1_3 hb1.ltO hap12
    have hd11_12 := Dj.app (Dj.symm hd3_11) ho11.ltO hap12
    have hkB_12 := OkN.app hUB hkB_3 hap12
    have hgB_12 := OgR.app hgB_3 hUB.size hap12
    have hk0_12 := OkN.app hU0 hk0_3 hap12
    have hg0_12 := OgR.app hg0_3 hU0.size hap12
    have hB := hB.updL hXw4 hl3
    have hb1 := hb1.updD hXw4 hd1_3
    have ho11 := ho11.updD hXw4 (Dj.symm hd3_11)
    have hUB := hUB.step hXw4 hkB_3
    have hU0 := hU0.step hXw4 hk0_3
    refine WL.asg rfl rfl ?_
    refine WL.nil ?_
    refine NQ.block ?_
    refine NQ.then ?_
    refine CW.reg ?_
    refine WL.mv rfl rfl ?_
    refine WL.pure rfl rfl rfl (PV.sub rfl rfl (by constructor <;> omega)) ?_
    refine WL.asg rfl rfl ?_
    refine WL.nil ?_
    refine NQ.next (ρ := [(2, _), (7, _)]) ⟨rfl, rfl, rfl, rfl, trivial⟩ ?_
    exact ⟨_, ⟨v12, og12, k + 1, ws ++ [r6], at27, sd28, (by simp; omega), rfl, hU0, osE ho12 (by first | rfl | (simp_all; done) | (simp_all; omega)), (by first | exact hg0_12 | exact OgR.weak hg0_12), bxE hb1 (by first | rfl | (simp_all; done) | (simp_all; omega)), (by first | omega | assumption | (simp_all; done) | (simp_all; omega)), (by simp [hl]), (by intro x hx; rcases List.mem_append.1 hx with hx | hx; exact hw x hx; simp at hx; subst hx; assumption), (by omega)⟩, by omega⟩
  try simp only [nq] at hc1
  refine CW.exit ?_
  refine XQ.then ?_
  refine XQ.then ?_
  refine XQ.here ?_
  refine NQ.then ?_
  refine CW.seq ?_
  refine CW.reg ?_
  obtain rfl : k = N.toNat := by omega
  refine WL.mv rfl rfl ?_
  refine WL.asg rfl rfl ?_
  refine WL.nilS ?_
  refine CW.ret ?_
  refine RQ.r1 rfl ?_
  refine ⟨hUB, ws, aq, sq, v3, og3, rfl, ?_, ?_, hb1, osE ho3 ?_, (by first | exact hl3 | exact Lo.ogn hgB_3)⟩
  · skip
    first | exact ⟨by omega, hw⟩ | omega
  · skip
    omega
  · skip
    rfl
theorem c_spec_B10Word {w : World} {b : World} {vc : Value} {bs : List Int} {N L : Int} (hB0 : Ext b w) (ha : Rd EU8 b vc bs) (hg : ∀ x ∈ bs, 0 ≤ x ∧ x ≤ 255) (hN : 0 ≤ N ∧ N ≤ 100) (hL2 : 2 ≤ L ∧ L ≤ 4) : Calls Try.prog 62 #[vc, .int .i64 L, .int .i64 N] w (Ret1 (fun v w' => UpdL [] w w' ∧ ∃ (ws : List Int) (u : Value) (og_u : Option Nat), v = u ∧ ((ws.length : Int) = N ∧ ∀ x ∈ ws, 0 ≤ x ∧ x ≤ L - 1) ∧ Osl VI w' og_u u (ws) ∧ Lo w og_u)) := by
  have hB := hB0
  refine callsOf (vs := [_, _, _]) Try.func62 rfl Try.ntmps62 rfl rfl ?_
  have hUB : UpdL [] w w := UpdL.refl _ _
  refine CW.seq ?_
  refine CW.reg ?_
  refine WL.asg rfl rfl ?_
  refine WL.nilS ?_
  refine CW.seq ?_
  refine CW.reg ?_
  refine WL.mv rfl rfl ?_
  refine WL.op rfl (OpK.call rfl T.cf107 rfl (c_spec_l00From (by first | assumption | exact Rd.up (by assumption) hB | exact Osl.rd (by assumption) | exact Osn.rdR (by assumption) | exact NL.rd (by assumption) | exact rdII (by assumption) (by assumption) | exact Inn.rd (by assumption) (by omega))) (fun rv1 w1 hR => ?_))
  obtain ⟨hXw1, b1, rfl, hb1, hge1⟩ := hR
  have hl1 := Lo.new hB hge1
  have hkB_1 := OkN.new hUB hge1
  have hgB_1 := OgR.new hUB.size hge1
  have hB := hB.trans hXw1
  have hUB := hUB.ext hXw1
  refine WL.asg rfl rfl ?_
  refine WL.nilS ?_
  refine CW.seq ?_
  refine CW.reg ?_
  refine WL.mv rfl rfl ?_
  refine WL.mv rfl rfl ?_
  refine WL.mv rfl rfl ?_
  refine WL.op rfl (OpK.call rfl T.cf147 rfl (c_spec_l07DrawWord hB (by first | assumption | exact Lo.nl _) (by first | assumption | exact Lo.nl _) (by first | assumption | exact Rd.up (by assumption) hB | exact Osl.rd (by assumption) | exact Osn.rdR (by assumption) | exact NL.rd (by assumption) | exact rdII (by assumption) (by assumption) | exact Inn.rd (by assumption) (by omega)) (by first | assumption | omega | (simp only [marks_len, marksB_len, marksR_len, sumL_marksS]; omega)) (by first | assumption | omega | (simp only [marks_len, marksB_len, marksR_len, sumL_marksS]; omega)) (by first | assumption | omega | (simp only [marks_len, marksB_len, marksR_len, sumL_marksS]; omega)) (by first | assumption | omega | (simp only [marks_len, marksB_len, marksR_len, sumL_marksS]; omega)) (by first | assumption | omega | (simp only [marks_len, marksB_len, marksR_len, sumL_marksS]; omega))) (fun rv2 w2 hR => ?_))
  obtain ⟨hUC2, ws3, at24, sd25, v6, og6, rfl, hm7, hm8, hbn1, ho6, hq6⟩ := hR
  have hl6 := Lo.up hq6 hB
  have hd1_6 := Dj.lo hb1.ltO hq6
  have hkB_6 := OkN.lo hUB hq6
  have hgB_6 := OgR.lo hUB.size hq6
  have hUB := hUB.trans hUC2 ⟨hkB_1, trivial⟩
  have hB := hB.loop hUC2 ⟨hl1, trivial⟩
  have hb1 := hbn1
  refine WL.asg rfl rfl ?_
  refine WL.nilS ?_
  refine CW.ret ?_
  refine RQ.r1 rfl ?_
  refine ⟨hUB, ws3, rv2, og6, rfl, ?_, osE ho6 ?_, (by first | exact hl6 | exact Lo.ogn hgB_6)⟩
  · skip
    assumption
  · skip
    rfl
theorem c_impl_within {w : World} {n lo hi : Int} : Calls Try.prog 104 #[.int .i64 n, .int .i64 lo, .int .i64 hi] w (Ret1 (RQt (.bool (decide (lo ≤ n ∧ n ≤ hi))) w)) := by
  have hB : Ext w w := Ext.refl w
  refine callsOf (vs := [_, _, _]) Try.func104 rfl Try.ntmps104 rfl rfl ?_
  refine CW.seq ?_
  refine CW.reg ?_
  refine WL.asg rfl rfl ?_
  refine WL.nilS ?_
  refine CW.seq ?_
  refine CW.reg ?_
  refine WL.mv rfl rfl ?_
  refine WL.mv rfl rfl ?_
  refine WL.pure rfl rfl rfl (PV.geq rfl rfl) ?_
  refine WL.mv rfl rfl ?_
  refine WL.split (t := 10) rfl (fun hc1 => ?_) (fun hc1 => ?_)
  rotate_left
  · skip
    try simp only [nq] at hc1
    refine WL.skip rfl rfl rfl rfl rfl ?_
    refine WL.skip rfl rfl rfl rfl rfl ?_
    refine WL.skip rfl rfl rfl rfl rfl ?_
    refine WL.pure rfl rfl rfl (PV.pickF rfl rfl) ?_
    refine WL.asg rfl rfl ?_
    refine WL.nilS ?_
    refine CW.ret ?_
    refine RQ.r1 rfl ?_
    refine ⟨?_, hB⟩
    first | rfl | exact bT (by omega) | exact bF (by omega) | exact bD (by omega) | exact iE (by omega) | (simp_all; done) | (simp_all; omega) | (simp_all; intros; omega)
  try simp only [nq] at hc1
  refine WL.pureG rfl rfl rfl rfl rfl (PV.move rfl) ?_
  refine WL.pureG rfl rfl rfl rfl rfl (PV.move rfl) ?_
  refine WL.pureG rfl rfl rfl rfl rfl (PV.leq rfl rfl) ?_
  refine WL.pure rfl rfl rfl (PV.pickT rfl rfl) ?_
  refine WL.asg rfl rfl ?_
  refine WL.nilS ?_
  refine CW.ret ?_
  refine RQ.r1 rfl ?_
  refine ⟨?_, hB⟩
  first | rfl | exact bT (by omega) | exact bF (by omega) | exact bD (by omega) | exact iE (by omega) | (simp_all; done) | (simp_all; omega) | (simp_all; intros; omega)
theorem c_impl_ValidSided {w : World} {a0 : Int} {a1 : Int} {va2 : Value} {xa2 : List R4} {va3 : Value} {xa3 : List Bool}  (ha2 : Rd ER w va2 xa2) (ha3 : Rd EB w va3 xa3) : Calls Try.prog 71 #[.agg #[.int .i64 a0, .int .i64 a1, va2, va3]] w (Ret1 (RQt (.bool (decide (sidedV a0 a1 xa2 xa3))) w)) := by
  have hB : Ext w w := Ext.refl w
  have hla2 := ha2.leI; have hla3 := ha3.leI
  refine callsOf (vs := [_]) Try.func71 rfl Try.ntmps71 rfl rfl ?_
  refine CW.seq ?_
  refine CW.reg ?_
  refine WL.op rfl (OpK.box rfl rfl (by first | exact Rd.cells1 (by assumption) | exact Osl.cells1 (by assumption) | exact Osn.cells1 (by assumption) | exact Rd.cells1 (NL.rd (by assumption)) | exact Inn.cell1 (by assumption) (by omega) | assumption | rfl) (fun b1 w1 hXw1 hb1 hge1 => ?_))
  have hl1 := Lo.new hB hge1
  have hB := hB.trans hXw1
  refine WL.asg rfl rfl ?_
  refine WL.nilS ?_
  refine CW.seq ?_
  refine CW.seq ?_
  refine CW.reg ?_
  refine WL.pure rfl rfl rfl (PV.fieldAddr T.fl88_0 rfl hb1.cells) ?_
  refine WL.pure rfl rfl rfl (PV.load1 T.na2 rfl hb1.cells (Ext.refl _) rfl) ?_
  refine WL.op rfl (OpK.callR rfl T.cf104 rfl (c_impl_within) (fun w2 hXw2 => ?_))
  have hB := hB.trans hXw2
  have hb1 := hb1.up hXw2
  refine WL.pure rfl rfl rfl (PV.not rfl) ?_
  refine WL.mv rfl rfl ?_
  refine WL.split (t := 9) rfl (fun hc1 => ?_) (fun hc1 => ?_)
  · skip
    try simp only [nq] at hc1
    refine WL.skip rfl rfl rfl rfl rfl ?_
    refine WL.skip rfl rfl rfl rfl rfl ?_
    refine WL.skip rfl rfl rfl rfl rfl ?_
    refine WL.skip rfl rfl rfl rfl rfl ?_
    refine WL.pure rfl rfl rfl (PV.pickT rfl rfl) ?_
    refine WL.mv rfl rfl ?_
    refine WL.skip rfl rfl rfl rfl rfl ?_
    refine WL.skip rfl rfl rfl rfl rfl ?_
    refine WL.skip rfl rfl rfl rfl rfl ?_
    refine WL.skip rfl rfl rfl rfl rfl ?_
    refine WL.pure rfl rfl rfl (PV.pickT rfl rfl) ?_
    refine WL.mv rfl rfl ?_
    refine WL.skip rfl rfl rfl rfl rfl ?_
    refine WL.skip rfl rfl rfl rfl rfl ?_
    refine WL.skip rfl rfl rfl rfl rfl ?_
    refine WL.skip rfl rfl rfl rfl rfl ?_
    refine WL.skip rfl rfl rfl rfl rfl ?_
    refine WL.skip rfl rfl rfl rfl rfl ?_
    refine WL.pure rfl rfl rfl (PV.pickT rfl rfl) ?_
    refine WL.nilS ?_
    refine CW.condT rfl ?_
    refine CW.seq ?_
    refine CW.reg ?_
    refine WL.asg rfl rfl ?_
    refine WL.nilS ?_
    refine CW.ret ?_
    refine RQ.then ?_
    refine RQ.r1 rfl ?_
    refine ⟨?_, hB⟩
    first | exact bT ⟨by omega, by omega, by omega, by omega, fun q h => hq q (by omega)⟩ | exact bF (by rintro ⟨h1, h2, h3, h4, h5⟩; first | omega | (have h6 := h5 k (by omega); simp only [okArc] at h6; omega))
  try simp only [nq] at hc1
  refine WL.pureG rfl rfl rfl rfl rfl (PV.fieldAddr T.fl88_1 rfl hb1.cells) ?_
  refine WL.pureG rfl rfl rfl rfl rfl (PV.load1 T.na2 rfl hb1.cells (Ext.refl _) rfl) ?_
  refine WL.opG rfl rfl rfl (OpK.callR rfl T.cf104 rfl (c_impl_within) (fun w3 hXw3 => ?_))
  have hB := hB.trans hXw3
  have hb1 := hb1.up hXw3
  refine WL.pureG rfl rfl rfl rfl rfl (PV.not rfl) ?_
  refine WL.pure rfl rfl rfl (PV.pickF rfl rfl) ?_
  refine WL.mv rfl rfl ?_
  refine WL.split (t := 15) rfl (fun hc2 => ?_) (fun hc2 => ?_)
  · skip
    try simp only [nq] at hc2
    refine WL.skip rfl rfl rfl rfl rfl ?_
    refine WL.skip rfl rfl rfl rfl rfl ?_
    refine WL.skip rfl rfl rfl rfl rfl ?_
    refine WL.skip rfl rfl rfl rfl rfl ?_
    refine WL.pure rfl rfl rfl (PV.pickT rfl rfl) ?_
    refine WL.mv rfl rfl ?_
    refine WL.skip rfl rfl rfl rfl rfl ?_
    refine WL.skip rfl rfl rfl rfl rfl ?_
    refine WL.skip rfl rfl rfl rfl rfl ?_
    refine WL.skip rfl rfl rfl rfl rfl ?_
    refine WL.skip rfl rfl rfl rfl rfl ?_
    refine WL.skip rfl rfl rfl rfl rfl ?_
    refine WL.pure rfl rfl rfl (PV.pickT rfl rfl) ?_
    refine WL.nilS ?_
    refine CW.condT rfl ?_
    refine CW.seq ?_
    refine CW.reg ?_
    refine WL.asg rfl rfl ?_
    refine WL.nilS ?_
    refine CW.ret ?_
    refine RQ.then ?_
    refine RQ.r1 rfl ?_
    refine ⟨?_, hB⟩
    first | exact bT ⟨by omega, by omega, by omega, by omega, fun q h => hq q (by omega)⟩ | exact bF (by rintro ⟨h1, h2, h3, h4, h5⟩; first | omega | (have h6 := h5 k (by omega); simp only [okArc] at h6; omega))
  try simp only [nq] at hc2
  refine WL.pureG rfl rfl rfl rfl rfl (PV.fieldAddr T.fl88_2 rfl hb1.cells) ?_
  refine WL.pureG rfl rfl rfl rfl rfl (PV.load1 T.na86 rfl hb1.cells (Ext.refl _) rfl) ?_
  refine WL.pureG rfl rfl rfl rfl rfl ((by first | exact PV.len rfl (by assumption) T.sl86 | exact PV.lenOs rfl (by assumption) T.sl86 | exact PV.len rfl (NL.rd (by assumption)) T.sl86 | exact PV.len rfl (Inn.rd (by assumption) (by omega)) T.sl86)) ?_
  refine WL.pureG rfl rfl rfl rfl rfl (PV.gtr rfl rfl) ?_
  refine WL.pure rfl rfl rfl (PV.pickF rfl rfl) ?_
  refine WL.mv rfl rfl ?_
  refine WL.split (t := 21) rfl (fun hc3 => ?_) (fun hc3 => ?_)
  · skip
    try simp only [nq] at hc3
    refine WL.skip rfl rfl rfl rfl rfl ?_
    refine WL.skip rfl rfl rfl rfl rfl ?_
    refine WL.skip rfl rfl rfl rfl rfl ?_
    refine WL.skip rfl rfl rfl rfl rfl ?_
    refine WL.skip rfl rfl rfl rfl rfl ?_
    refine WL.skip rfl rfl rfl rfl rfl ?_
    refine WL.pure rfl rfl rfl (PV.pickT rfl rfl) ?_
    refine WL.nilS ?_
    refine CW.condT rfl ?_
    refine CW.seq ?_
    refine CW.reg ?_
    refine WL.asg rfl rfl ?_
    refine WL.nilS ?_
    refine CW.ret ?_
    refine RQ.then ?_
    refine RQ.r1 rfl ?_
    refine ⟨?_, hB⟩
    first | exact bT ⟨by omega, by omega, by omega, by omega, fun q h => hq q (by omega)⟩ | exact bF (by rintro ⟨h1, h2, h3, h4, h5⟩; first | omega | (have h6 := h5 k (by omega); simp only [okArc] at h6; omega))
  try simp only [nq] at hc3
  refine WL.pureG rfl rfl rfl rfl rfl (PV.fieldAddr T.fl88_3 rfl hb1.cells) ?_
  refine WL.pureG rfl rfl rfl rfl rfl (PV.load1 T.na62 rfl hb1.cells (Ext.refl _) rfl) ?_
  refine WL.pureG rfl rfl rfl rfl rfl ((by first | exact PV.len rfl (by assumption) T.sl62 | exact PV.lenOs rfl (by assumption) T.sl62 | exact PV.len rfl (NL.rd (by assumption)) T.sl62 | exact PV.len rfl (Inn.rd (by assumption) (by omega)) T.sl62)) ?_
  refine WL.pureG rfl rfl rfl rfl rfl (PV.fieldAddr T.fl88_0 rfl hb1.cells) ?_
  refine WL.pureG rfl rfl rfl rfl rfl (PV.load1 T.na2 rfl hb1.cells (Ext.refl _) rfl) ?_
  refine WL.pureG rfl rfl rfl rfl rfl (PV.neq rfl rfl) ?_
  refine WL.pure rfl rfl rfl (PV.pickF rfl rfl) ?_
  refine WL.nilS ?_
  refine CW.cond rfl (fun hc4 => ?_) (fun hc4 => ?_)
  · skip
    try simp only [nq] at hc4
    refine CW.seq ?_
    refine CW.reg ?_
    refine WL.asg rfl rfl ?_
    refine WL.nilS ?_
    refine CW.ret ?_
    refine RQ.then ?_
    refine RQ.r1 rfl ?_
    refine ⟨?_, hB⟩
    first | exact bT ⟨by omega, by omega, by omega, by omega, fun q h => hq q (by omega)⟩ | exact bF (by rintro ⟨h1, h2, h3, h4, h5⟩; first | omega | (have h6 := h5 k (by omega); simp only [okArc] at h6; omega))
  try simp only [nq] at hc4
  refine CW.skipS ?_
  refine CW.seq ?_
  refine CW.seq ?_
  refine CW.reg ?_
  refine WL.pure rfl rfl rfl (PV.fieldAddr T.fl88_2 rfl hb1.cells) ?_
  refine WL.pure rfl rfl rfl (PV.load1 T.na86 rfl hb1.cells (Ext.refl _) rfl) ?_
  refine WL.pure rfl rfl rfl ((by first | exact PV.len rfl (by assumption) T.sl86 | exact PV.lenOs rfl (by assumption) T.sl86 | exact PV.len rfl (NL.rd (by assumption)) T.sl86 | exact PV.len rfl (Inn.rd (by assumption) (by omega)) T.sl86)) ?_
  refine WL.mv rfl rfl ?_
  refine WL.nilS ?_
  refine CW.block ?_
  refine CW.loop (σk := [(1, _), (30, _), (31, _)]) (fun ρ wz m => ∃ (k : Nat), ρ = [(32, .int .i64 (k : Nat))] ∧ m = xa2.length - k ∧ UpdL [] w3 wz ∧ (k ≤ xa2.length) ∧ (∀ q : Nat, q < k → okArc a0 a1 (xa2.getD q (0, 0, 0, 0)))) (ρ₀ := [(32, _)]) (m₀ := _) ⟨rfl, rfl, rfl, rfl, trivial⟩ ⟨0, rfl, rfl, (UpdL.refl _ _), (by first | omega | rfl | (simp; done) | assumption | (simp_all; done)), (by intro q h1; exact absurd h1 (by omega))⟩ ?_
  rintro _ wl1 _ ⟨k, rfl, rfl, hU0, hk, hq⟩
  have hb1 := hb1.loop hU0 trivial
  have hB := hB.loop hU0 trivial
  refine CW.seq ?_
  refine CW.reg ?_
  refine WL.pure rfl rfl rfl (PV.lss rfl rfl) ?_
  refine WL.nilS ?_
  refine CW.seq ?_
  refine CW.cond rfl (fun hc5 => ?_) (fun hc5 => ?_)
  · skip
    try simp only [nq] at hc5
    refine CW.skipS ?_
    refine CW.seq ?_
    refine CW.block ?_
    refine CW.seq ?_
    refine CW.reg ?_
    first
      | refine WL.at (x := .tmp 30) (y := .tmp 32) (E := ER) ((0, 0, 0, 0)) rfl rfl (by first | assumption | exact Inn.rd (by assumption) (by omega)) (by first | omega | (simp only [List.length_set]; omega) | (simp only [List.length_append, List.length_take, List.length_replicate, List.length_drop]; omega)) (fun p1 csp1 hpp1 hcp1 hq => ?_)
      | refine WL.atZ (x := .tmp 30) (y := .tmp 32) (E := ER) ((0, 0, 0, 0)) rfl rfl (by first | assumption | exact Inn.rd (by assumption) (by omega)) (by first | omega | (simp only [List.length_set]; omega) | (simp only [List.length_append, List.length_take, List.length_replicate, List.length_drop]; omega)) (fun p1 csp1 hpp1 hzp1 hcp1 hq => ?_)
    cases hq
    refine WL.pure rfl rfl rfl ((by first | exact PV.indexAddr hpp1 rfl rfl T.sl86 | exact PV.indexAddr hpp1 rfl (by rw [← hzp1]; rfl) T.sl86)) ?_
    refine WL.pure rfl rfl rfl ((by first | exact PV.loadA T.ag178 rfl (by first | exact Cells.up (by assumption) hB | exact Bx.cells (by assumption) | assumption) (Ext.refl _) rfl | exact PV.loadP (ds := [_, _, _, _]) T.ag178 rfl (by first | exact Cells.up (by assumption) hB | exact Bx.cells (by assumption) | assumption) (Ext.refl _) rfl rfl)) ?_
    refine WL.op rfl (OpK.alloc rfl T.zv178 rfl (fun b2 w4 hXw4 hb2 hge2 => ?_))
    have hl2 := Lo.new hB hge2
    have hd1_2 := Dj.new hb1.ltO hge2
    have hk0_2 := OkN.new hU0 hge2
    have hg0_2 := OgR.new hU0.size hge2
    have hB := hB.trans hXw4
    have hb1 := hb1.up hXw4
    have hU0 := hU0.ext hXw4
    refine WL.op rfl (OpK.storeA T.sz178 rfl rfl rfl rfl (by simp [Value.oneCell'] <;> first | done | (repeat' apply And.intro) <;> first | rfl | exact Inn.one1 (by assumption) (by omega) | exact Osl.oneCell (by assumption) | exact Osn.oneCell (by assumption) | exact Rd.oneCell (by assumption) | exact Rd.oneCell (NL.rd (by assumption)) | assumption) hb2 (fun w5 hXw5 hb2 => ?_))
    have hB := hB.updL hXw5 hl2
    have hb1 := hb1.updD hXw5 hd1_2
    have hU0 := hU0.step hXw5 hk0_2
    refine WL.nilS ?_
    refine CW.seq ?_
    refine CW.reg ?_
    refine WL.pure rfl rfl rfl (PV.fieldAddr T.fl178_0 rfl hb2.cells) ?_
    refine WL.pure rfl rfl rfl (PV.load1 T.na2 rfl hb2.cells (Ext.refl _) rfl) ?_
    refine WL.pure rfl rfl rfl (PV.fieldAddr T.fl88_0 rfl hb1.cells) ?_
    refine WL.pure rfl rfl rfl (PV.load1 T.na2 rfl hb1.cells (Ext.refl _) rfl) ?_
    refine WL.pure rfl rfl rfl (PV.sub rfl rfl (by constructor <;> omega)) ?_
    refine WL.op rfl (OpK.callR rfl T.cf104 rfl (c_impl_within) (fun w6 hXw6 => ?_))
    have hB := hB.trans hXw6
    have hb1 := hb1.up hXw6
    have hb2 := hb2.up hXw6
    have hU0 := hU0.ext hXw6
    refine WL.pure rfl rfl rfl (PV.not rfl) ?_
    refine WL.mv rfl rfl ?_
    refine WL.split (t := 43) rfl (fun hc6 => ?_) (fun hc6 => ?_)
    · skip
      try simp only [nq] at hc6
      refine WL.skip rfl rfl rfl rfl rfl ?_
      refine WL.skip rfl rfl rfl rfl rfl ?_
      refine WL.skip rfl rfl rfl rfl rfl ?_
      refine WL.skip rfl rfl rfl rfl rfl ?_
      refine WL.skip rfl rfl rfl rfl rfl ?_
      refine WL.skip rfl rfl rfl rfl rfl ?_
      refine WL.skip rfl rfl rfl rfl rfl ?_
      refine WL.pure rfl rfl rfl (PV.pickT rfl rfl) ?_
      refine WL.mv rfl rfl ?_
      refine WL.skip rfl rfl rfl rfl rfl ?_
      refine WL.skip rfl rfl rfl rfl rfl ?_
      refine WL.skip rfl rfl rfl rfl rfl ?_
      refine WL.skip rfl rfl rfl rfl rfl ?_
      refine WL.skip rfl rfl rfl rfl rfl ?_
      refine WL.skip rfl rfl rfl rfl rfl ?_
      refine WL.skip rfl rfl rfl rfl rfl ?_
      refine WL.pure rfl rfl rfl (PV.pickT rfl rfl) ?_
      refine WL.mv rfl rfl ?_
      refine WL.skip rfl rfl rfl rfl rfl ?_
      refine WL.skip rfl rfl rfl rfl rfl ?_
      refine WL.skip rfl rfl rfl rfl rfl ?_
      refine WL.skip rfl rfl rfl rfl rfl ?_
      refine WL.skip rfl rfl rfl rfl rfl ?_
      refine WL.skip rfl rfl rfl rfl rfl ?_
      refine WL.skip rfl rfl rfl rfl rfl ?_
      refine WL.pure rfl rfl rfl (PV.pickT rfl rfl) ?_
      refine WL.nilS ?_
      refine CW.condT rfl ?_
      refine CW.seq ?_
      refine CW.reg ?_
      refine WL.asg rfl rfl ?_
      refine WL.nilS ?_
      refine CW.ret ?_
      refine RQ.block ?_
      refine RQ.then ?_
      refine RQ.then ?_
      refine RQ.block ?_
      refine RQ.then ?_
      refine RQ.r1 rfl ?_
      refine ⟨?_, hB⟩
      first | exact bT ⟨by omega, by omega, by omega, by omega, fun q h => hq q (by omega)⟩ | exact bF (by rintro ⟨h1, h2, h3, h4, h5⟩; first | omega | (have h6 := h5 k (by omega); simp only [okArc] at h6; omega))
    try simp only [nq] at hc6
    refine WL.pureG rfl rfl rfl rfl rfl (PV.fieldAddr T.fl178_1 rfl hb2.cells) ?_
    refine WL.pureG rfl rfl rfl rfl rfl (PV.load1 T.na2 rfl hb2.cells (Ext.refl _) rfl) ?_
    refine WL.pureG rfl rfl rfl rfl rfl (PV.fieldAddr T.fl88_0 rfl hb1.cells) ?_
    refine WL.pureG rfl rfl rfl rfl rfl (PV.load1 T.na2 rfl hb1.cells (Ext.refl _) rfl) ?_
    refine WL.pureG rfl rfl rfl rfl rfl (PV.sub rfl rfl (by constructor <;> omega)) ?_
    refine WL.opG rfl rfl rfl (OpK.callR rfl T.cf104 rfl (c_impl_within) (fun w7 hXw7 => ?_))
    have hB := hB.trans hXw7
    have hb1 := hb1.up hXw7
    have hb2 := hb2.up hXw7
    have hU0 := hU0.ext hXw7
    refine WL.pureG rfl rfl rfl rfl rfl (PV.not rfl) ?_
    refine WL.pure rfl rfl rfl (PV.pickF rfl rfl) ?_
    refine WL.mv rfl rfl ?_
    refine WL.split (t := 52) rfl (fun hc7 => ?_) (fun hc7 => ?_)
    · skip
      try simp only [nq] at hc7
      refine WL.skip rfl rfl rfl rfl rfl ?_
      refine WL.skip rfl rfl rfl rfl rfl ?_
      refine WL.skip rfl rfl rfl rfl rfl ?_
      refine WL.skip rfl rfl rfl rfl rfl ?_
      refine WL.skip rfl rfl rfl rfl rfl ?_
      refine WL.skip rfl rfl rfl rfl rfl ?_
      refine WL.skip rfl rfl rfl rfl rfl ?_
      refine WL.pure rfl rfl rfl (PV.pickT rfl rfl) ?_
      refine WL.mv rfl rfl ?_
      refine WL.skip rfl rfl rfl rfl rfl ?_
      refine WL.skip rfl rfl rfl rfl rfl ?_
      refine WL.skip rfl rfl rfl rfl rfl ?_
      refine WL.skip rfl rfl rfl rfl rfl ?_
      refine WL.skip rfl rfl rfl rfl rfl ?_
      refine WL.skip rfl rfl rfl rfl rfl ?_
      refine WL.skip rfl rfl rfl rfl rfl ?_
      refine WL.pure rfl rfl rfl (PV.pickT rfl rfl) ?_
      refine WL.nilS ?_
      refine CW.condT rfl ?_
      refine CW.seq ?_
      refine CW.reg ?_
      refine WL.asg rfl rfl ?_
      refine WL.nilS ?_
      refine CW.ret ?_
      refine RQ.block ?_
      refine RQ.then ?_
      refine RQ.then ?_
      refine RQ.block ?_
      refine RQ.then ?_
      refine RQ.r1 rfl ?_
      refine ⟨?_, hB⟩
      first | exact bT ⟨by omega, by omega, by omega, by omega, fun q h => hq q (by omega)⟩ | exact bF (by rintro ⟨h1, h2, h3, h4, h5⟩; first | omega | (have h6 := h5 k (by omega); simp only [okArc] at h6; omega))
    try simp only [nq] at hc7
    refine WL.pureG rfl rfl rfl rfl rfl (PV.fieldAddr T.fl178_2 rfl hb2.cells) ?_
    refine WL.pureG rfl rfl rfl rfl rfl (PV.load1 T.na2 rfl hb2.cells (Ext.refl _) rfl) ?_
    refine WL.pureG rfl rfl rfl rfl rfl (PV.fieldAddr T.fl88_1 rfl hb1.cells) ?_
    refine WL.pureG rfl rfl rfl rfl rfl (PV.load1 T.na2 rfl hb1.cells (Ext.refl _) rfl) ?_
    refine WL.pureG rfl rfl rfl rfl rfl (PV.sub rfl rfl (by constructor <;> omega)) ?_
    refine WL.opG rfl rfl rfl (OpK.callR rfl T.cf104 rfl (c_impl_within) (fun w8 hXw8 => ?_))
    have hB := hB.trans hXw8
    have hb1 := hb1.up hXw8
    have hb2 := hb2.up hXw8
    have hU0 := hU0.ext hXw8
    refine WL.pureG rfl rfl rfl rfl rfl (PV.not rfl) ?_
    refine WL.pure rfl rfl rfl (PV.pickF rfl rfl) ?_
    refine WL.mv rfl rfl ?_
    refine WL.split (t := 61) rfl (fun hc8 => ?_) (fun hc8 => ?_)
    · skip
      try simp only [nq] at hc8
      refine WL.skip rfl rfl rfl rfl rfl ?_
      refine WL.skip rfl rfl rfl rfl rfl ?_
      refine WL.skip rfl rfl rfl rfl rfl ?_
      refine WL.skip rfl rfl rfl rfl rfl ?_
      refine WL.skip rfl rfl rfl rfl rfl ?_
      refine WL.skip rfl rfl rfl rfl rfl ?_
      refine WL.skip rfl rfl rfl rfl rfl ?_
      refine WL.pure rfl rfl rfl (PV.pickT rfl rfl) ?_
      refine WL.nilS ?_
      refine CW.condT rfl ?_
      refine CW.seq ?_
      refine CW.reg ?_
      refine WL.asg rfl rfl ?_
      refine WL.nilS ?_
      refine CW.ret ?_
      refine RQ.block ?_
      refine RQ.then ?_
      refine RQ.then ?_
      refine RQ.block ?_
      refine RQ.then ?_
      refine RQ.r1 rfl ?_
      refine ⟨?_, hB⟩
      first | exact bT ⟨by omega, by omega, by omega, by omega, fun q h => hq q (by omega)⟩ | exact bF (by rintro ⟨h1, h2, h3, h4, h5⟩; first | omega | (have h6 := h5 k (by omega); simp only [okArc] at h6; omega))
    try simp only [nq] at hc8
    refine WL.pureG rfl rfl rfl rfl rfl (PV.fieldAddr T.fl178_3 rfl hb2.cells) ?_
    refine WL.pureG rfl rfl rfl rfl rfl (PV.load1 T.na2 rfl hb2.cells (Ext.refl _) rfl) ?_
    refine WL.pureG rfl rfl rfl rfl rfl (PV.fieldAddr T.fl88_1 rfl hb1.cells) ?_
    refine WL.pureG rfl rfl rfl rfl rfl (PV.load1 T.na2 rfl hb1.cells (Ext.refl _) rfl) ?_
    refine WL.pureG rfl rfl rfl rfl rfl (PV.sub rfl rfl (by constructor <;> omega)) ?_
    refine WL.opG rfl rfl rfl (OpK.callR rfl T.cf104 rfl (c_impl_within) (fun w9 hXw9 => ?_))
    have hB := hB.trans hXw9
    have hb1 := hb1.up hXw9
    have hb2 := hb2.up hXw9
    have hU0 := hU0.ext hXw9
    refine WL.pureG rfl rfl rfl rfl rfl (PV.not rfl) ?_
    refine WL.pure rfl rfl rfl (PV.pickF rfl rfl) ?_
    refine WL.nilS ?_
    refine CW.cond rfl (fun hc9 => ?_) (fun hc9 => ?_)
    · skip
      try simp only [nq] at hc9
      refine CW.seq ?_
      refine CW.reg ?_
      refine WL.asg rfl rfl ?_
      refine WL.nilS ?_
      refine CW.ret ?_
      refine RQ.block ?_
      refine RQ.then ?_
      refine RQ.then ?_
      refine RQ.block ?_
      refine RQ.then ?_
      refine RQ.r1 rfl ?_
      refine ⟨?_, hB⟩
      first | exact bT ⟨by omega, by omega, by omega, by omega, fun q h => hq q (by omega)⟩ | exact bF (by rintro ⟨h1, h2, h3, h4, h5⟩; first | omega | (have h6 := h5 k (by omega); simp only [okArc] at h6; omega))
    try simp only [nq] at hc9
    refine CW.skip ?_
    refine NQ.block ?_
    refine NQ.then ?_
    refine CW.reg ?_
    refine WL.pure rfl rfl rfl (PV.add rfl rfl (by constructor <;> omega)) ?_
    refine WL.mv rfl rfl ?_
    refine WL.nil ?_
    refine NQ.next (ρ := [(32, _)]) ⟨rfl, rfl, rfl, rfl, trivial⟩ ?_
    exact ⟨_, ⟨k + 1, rfl, rfl, hU0, (by first | omega | assumption | (simp_all; done) | (simp_all; omega)), (by intro q h1; by_cases h : q < k; exact hq q h; obtain rfl : q = k := (by omega); simp only [okArc]; omega)⟩, by omega⟩
  try simp only [nq] at hc5
  refine CW.exit ?_
  refine XQ.then ?_
  refine XQ.then ?_
  refine XQ.here ?_
  refine NQ.then ?_
  refine CW.seq ?_
  refine CW.reg ?_
  refine WL.asg rfl rfl ?_
  refine WL.nilS ?_
  refine CW.ret ?_
  refine RQ.r1 rfl ?_
  refine ⟨?_, hB⟩
  first | exact bT ⟨by omega, by omega, by omega, by omega, fun q h => hq q (by omega)⟩ | exact bF (by rintro ⟨h1, h2, h3, h4, h5⟩; first | omega | (have h6 := h5 k (by omega); simp only [okArc] at h6; omega))
theorem c_slices_Clone_bool_bool {w : World} {va : Value} {xs : List Bool} (ha : Rd EB w va xs) (hN : xs.length ≤ 1048576) : Calls Try.prog 148 #[va] w (Ret1 (fun v w' => Ext w w' ∧ ∃ v1 og_v1, v = v1 ∧ Osl VB w' og_v1 v1 (xs) ∧ Lo w og_v1)) := by
  have hB : Ext w w := Ext.refl w
  have hla := ha.leI
  refine callsOf (vs := [_]) Try.func148 rfl Try.ntmps148 rfl rfl ?_
  refine CW.seq ?_
  refine CW.reg ?_
  refine WL.asg rfl rfl ?_
  refine WL.nilS ?_
  refine CW.seq ?_
  refine CW.seq ?_
  refine CW.reg ?_
  refine WL.mv rfl rfl ?_
  refine WL.pure rfl rfl rfl ((by first | exact PV.eqlNil T.sl62 rfl (by assumption) rfl | exact PV.eqlNil T.sl62 rfl (Osl.rd (by assumption)) rfl)) ?_
  refine WL.nilS ?_
  refine CW.cond rfl (fun hc1 => ?_) (fun hc1 => ?_)
  · skip
    try simp only [nq] at hc1
    refine CW.seq ?_
    refine CW.reg ?_
    refine WL.asg rfl rfl ?_
    refine WL.nilS ?_
    refine CW.ret ?_
    refine RQ.then ?_
    refine RQ.r1 rfl ?_
    refine ⟨hB, (.slice none 0 0), none, ?_, osE (Osl.nil _ _) ?_, Lo.nl _⟩
    · skip
      rfl
    · skip
      first | rfl | (simp; done) | exact ((Rd.nil_of ha (by assumption)).1).symm
  try simp only [nq] at hc1
  refine CW.skipS ?_
  refine CW.seq ?_
  refine CW.reg ?_
  refine WL.op rfl (OpK.buildS VB (os := []) [] rfl T.sl62 rfl rfl T.zv4 rfl (by intro z hz; cases hz) rfl (fun v1 g1 w1 hXw1 ho1 hge1 => ?_))
  have hl1 := Lo.new hB hge1
  have hB := hB.trans hXw1
  refine WL.mv rfl rfl ?_
  refine WL.op rfl (OpK.appendS (f := VB) rfl T.sl62 T.zv4 rfl rfl ho1 rfl (Rd.src (by first | assumption | exact Rd.up (by assumption) hB | exact Inn.rd (by assumption) (by omega)) (fun _ => rfl)) (by first | (simp only [List.length_cons, List.length_nil]; omega) | (simp_all; omega)) (fun v2 og2 w2 hXw2 ho2 hap2 => ?_))
  have hl2 := Lo.app hl1 hB hap2
  have hB := hB.updL hXw2 hl1
  refine WL.asg rfl rfl ?_
  refine WL.nilS ?_
  refine CW.ret ?_
  refine RQ.r1 rfl ?_
  refine ⟨hB, v2, og2, ?_, osE ho2 ?_, hl2⟩
  · skip
    rfl
  · skip
    first | rfl | (simp; done) | exact ((Rd.nil_of ha (by assumption)).1).symm
theorem c_impl_TurnSided {w : World} {a0 : Int} {a1 : Int} {va2 : Value} {xa2 : List R4} {va3 : Value} {xa3 : List Bool}  (ha2 : Rd ER w va2 xa2) (ha3 : Rd EB w va3 xa3) (hv : sidedV a0 a1 xa2 xa3) : Calls Try.prog 64 #[.agg #[.int .i64 a0, .int .i64 a1, va2, va3]] w (Ret1 (fun v w' => Ext w w' ∧ ∃ u2 og_u2 u3 og_u3, v = .tuple #[.agg #[.int .i64 a0, .int .i64 a1, u2, u3], .bool true] ∧ Osn 4 gR w' og_u2 u2 (turnL xa2) ∧ Lo w og_u2 ∧ Osl VB w' og_u3 u3 (xa3) ∧ Lo w og_u3 ∧ Dj og_u2 og_u3)) := by
  have hB : Ext w w := Ext.refl w
  have hla2 := ha2.leI; have hla3 := ha3.leI; have hv48 := hv.2.2.1; have hve8 := hv.2.2.2.1; have hva := hv.2.2.2.2; have hv8 := hv.1
  refine callsOf (vs := [_]) Try.func64 rfl Try.ntmps64 rfl rfl ?_
  refine CW.seq ?_
  refine CW.reg ?_
  refine WL.op rfl (OpK.box rfl rfl (by first | exact Rd.cells1 (by assumption) | exact Osl.cells1 (by assumption) | exact Osn.cells1 (by assumption) | exact Rd.cells1 (NL.rd (by assumption)) | exact Inn.cell1 (by assumption) (by omega) | assumption | rfl) (fun b1 w1 hXw1 hb1 hge1 => ?_))
  have hl1 := Lo.new hB hge1
  have hB := hB.trans hXw1
  refine WL.op rfl (OpK.alloc rfl T.zv88 rfl (fun b2 w2 hXw2 hb2 hge2 => ?_))
  have hl2 := Lo.new hB hge2
  have hd1_2 := Dj.new hb1.ltO hge2
  have hB := hB.trans hXw2
  have hb1 := hb1.up hXw2
  refine WL.asg rfl rfl ?_
  refine WL.nilS ?_
  refine CW.seq ?_
  refine CW.seq ?_
  refine CW.reg ?_
  refine WL.pure rfl rfl rfl (PV.loadA T.ag88 rfl hb1.cells (Ext.refl _) rfl) ?_
  refine WL.op rfl (OpK.callR rfl T.cf71 rfl (c_impl_ValidSided (by first | assumption | exact Rd.up (by assumption) hB | exact Osl.rd (by assumption) | exact Osn.rdR (by assumption) | exact NL.rd (by assumption) | exact rdII (by assumption) (by assumption) | exact Inn.rd (by assumption) (by omega)) (by first | assumption | exact Rd.up (by assumption) hB | exact Osl.rd (by assumption) | exact Osn.rdR (by assumption) | exact NL.rd (by assumption) | exact rdII (by assumption) (by assumption) | exact Inn.rd (by assumption) (by omega))) (fun w3 hXw3 => ?_))
  have hB := hB.trans hXw3
  have hb1 := hb1.up hXw3
  have hb2 := hb2.up hXw3
  refine WL.pure rfl rfl rfl (PV.not rfl) ?_
  refine WL.nilS ?_
  refine CW.cond rfl (fun hc1 => ?_) (fun hc1 => ?_)
  · skip
    try simp only [nq] at hc1
    exact absurd hv (by assumption)
  try simp only [nq] at hc1
  refine CW.skipS ?_
  refine CW.seq ?_
  refine CW.draw T.mixed (by kernel_rfl) (fun _ _ _ _ _ h => h) (fun w8 w9 => Upd none w8 w9) 10 (.take 0 (.take 1 (.take 2 (.take 3 (.take 4 (.take 5 (.fork 6 8 (.take 7 (.must 8 (.must 9 .done))) (.must 6 (.take 7 (.must 9 .done)))))))))) (by kernel_rfl) (fun w4 hXd => ?_)
  have hB := hB.trans hXd
  have hb1 := hb1.up hXd
  have hb2 := hb2.up hXd
  have hBr := hB
  have hS : Upd none w4 w4 := Ext.toUpd (Ext.refl _)
  refine HP.take rfl rfl rfl rfl hS (fun wS hS1 => PV.fieldAddr T.fl88_0 rfl hb1.cells) ?_
  refine HP.take rfl rfl rfl rfl hS (fun wS hS1 => PV.load1 T.na2 rfl (Bx.cells (Bx.updD (by assumption) hS1 (Dj.nlR _))) (Ext.refl _) rfl) ?_
  refine HP.take rfl rfl rfl rfl hS (fun wS hS1 => PV.fieldAddr T.fl88_1 rfl hb1.cells) ?_
  refine HP.take rfl rfl rfl rfl hS (fun wS hS1 => PV.load1 T.na2 rfl (Bx.cells (Bx.updD (by assumption) hS1 (Dj.nlR _))) (Ext.refl _) rfl) ?_
  refine HP.take rfl rfl rfl rfl hS (fun wS hS1 => PV.fieldAddr T.fl88_3 rfl hb1.cells) ?_
  refine HP.take rfl rfl rfl rfl hS (fun wS hS1 => PV.load1 T.na62 rfl (Bx.cells (Bx.updD (by assumption) hS1 (Dj.nlR _))) (Ext.refl _) rfl) ?_
  refine HP.fork rfl rfl rfl rfl ?_ ?_
  · skip
    refine (OpK.call rfl T.cf148 rfl (c_slices_Clone_bool_bool (by first | assumption | exact Rd.up (by assumption) hB | exact Osl.rd (by assumption) | exact Osn.rdR (by assumption) | exact NL.rd (by assumption) | exact rdII (by assumption) (by assumption) | exact Inn.rd (by assumption) (by omega)) (by first | assumption | omega | (simp only [marks_len, marksB_len, marksR_len, sumL_marksS]; omega))) (fun rv1 w5 hR => ?_))
    obtain ⟨hXw5, v3, og3, rfl, ho3, hq3⟩ := hR
    have hl3 := Lo.up hq3 hB
    have hv3 := Lo.up hq3 hS
    have hd1_3 := Dj.lo hb1.ltO hq3
    have hd2_3 := Dj.lo hb2.ltO hq3
    refine ⟨Upd.trans hS hXw5, ?_⟩
    have hS := Upd.trans hS hXw5
    have hB := hB.trans hXw5
    have hb1 := hb1.up hXw5
    have hb2 := hb2.up hXw5
    refine HP.take rfl rfl rfl rfl hS (fun wS hS1 => PV.build (ks := [0, 1, 3]) (os := [.tmp 12, .tmp 14, .tmp 17]) (css := [[_], [_], [_]]) (ds := [_, _, _, _]) T.bu88 rfl rfl ⟨rfl, rfl, (by first | exact Rd.cells1 (by assumption) | exact Osl.cells1 (by assumption) | exact Osn.cells1 (by assumption) | exact Rd.cells1 (NL.rd (by assumption)) | exact Inn.cell1 (by assumption) (by omega) | assumption | rfl), trivial⟩ rfl) ?_
    refine HP.must rfl rfl (OpK.alloc rfl T.zv88 rfl (fun b4 w6 hXw6 hb4 hge4 => ?_))
    have hl4 := Lo.new hB hge4
    have hv4 := Lo.new hS hge4
    have hd1_4 := Dj.new hb1.ltO hge4
    have hd2_4 := Dj.new hb2.ltO hge4
    have hd3_4 := Dj.new ho3.ltO hge4
    refine ⟨Upd.trans hS hXw6, ?_⟩
    have hS := Upd.trans hS hXw6
    have hB := hB.trans hXw6
    have hb1 := hb1.up hXw6
    have hb2 := hb2.up hXw6
    have ho3 := ho3.up hXw6
    refine HP.must rfl rfl (OpK.storeA T.sz88 rfl rfl rfl rfl (by simp [Value.oneCell'] <;> first | done | (repeat' apply And.intro) <;> first | rfl | exact Inn.one1 (by assumption) (by omega) | exact Osl.oneCell (by assumption) | exact Osn.oneCell (by assumption) | exact Rd.oneCell (by assumption) | exact Rd.oneCell (NL.rd (by assumption)) | assumption) hb4 (fun w7 hXw7 hb4 => ?_))
    refine ⟨Ext.updL hS hXw7 hv4, ?_⟩
    have hS := Ext.updL hS hXw7 hv4
    have hB := hB.updL hXw7 hl4
    have hb1 := hb1.updD hXw7 hd1_4
    have hb2 := hb2.updD hXw7 hd2_4
    have ho3 := ho3.updD hXw7 hd3_4
    refine HP.doneS ?_
    refine CW.seq ?_
    refine CW.seq ?_
    refine CW.reg ?_
    refine WL.pure rfl rfl rfl (PV.fieldAddr T.fl88_2 rfl hb1.cells) ?_
    refine WL.pure rfl rfl rfl (PV.load1 T.na86 rfl hb1.cells (Ext.refl _) rfl) ?_
    refine WL.pure rfl rfl rfl ((by first | exact PV.len rfl (by assumption) T.sl86 | exact PV.lenOs rfl (by assumption) T.sl86 | exact PV.len rfl (NL.rd (by assumption)) T.sl86 | exact PV.len rfl (Inn.rd (by assumption) (by omega)) T.sl86)) ?_
    refine WL.mv rfl rfl ?_
    refine WL.nilS ?_
    refine CW.block ?_
    have ho5 : Osn 4 gR w7 none (.slice none 0 0) [] := (Osn.nil gR_ok _)
    have hl5 : Lo w none := Lo.nl _
    have hd1_5 : Dj (some b1.block) none := Dj.nlR _
    have hd2_5 : Dj (some b2.block) none := Dj.nlR _
    have hd3_5 : Dj og3 none := Dj.nlR _
    have hd4_5 : Dj (some b4.block) none := Dj.nlR _
    have hlt1 := hb1.ltO
    have hlt2 := hb2.ltO
    have hlt3 := ho3.ltO
    have hlt4 := hb4.ltO
    have hlt5 := ho5.ltO
    refine CW.loop (σk := [(2, _), (4, _), (20, _), (21, _)]) (fun ρ wz m => ∃ (v6 : Value) (og6 : Option Nat) (v7 : Value) (og7 : Option Nat) (k : Nat), ρ = [(22, .int .i64 (k : Nat))] ∧ m = xa2.length - k ∧ UpdL [none, og3, (some b4.block)] w7 wz ∧ Osn 4 gR wz og6 v6 (turnL (xa2.take k)) ∧ OgR w7 none og6 ∧ Osl VB wz og7 v7 (xa3) ∧ OgR w7 og3 og7 ∧ Bx wz b4 [.int .i64 a0, .int .i64 a1, v6, v7] ∧ Dj og6 og7 ∧ (k ≤ xa2.length)) (ρ₀ := [(22, _)]) (m₀ := _) ⟨rfl, rfl, rfl, rfl, rfl, trivial⟩ ⟨(.slice none 0 0), none, rv1, og3, 0, rfl, rfl, (UpdL.refl _ _), osnE ho5 (by rfl), OgR.refl _ _, osE ho3 (by rfl), OgR.refl _ _, bxE hb4 (by first | rfl | (simp_all; done) | (simp_all; omega)), (Dj.symm hd3_5), (by first | omega | rfl | (simp; done) | assumption | (simp_all; done))⟩ ?_
    rintro _ wl1 _ ⟨v6, og6, v7, og7, k, rfl, rfl, hU0, ho6, ha6, ho7, ha7, hb4, hd6_7, hk⟩
    have hb1 := hb1.loop hU0 ⟨hd1_5, hd1_3, hd1_4, trivial⟩
    have hb2 := hb2.loop hU0 ⟨hd2_5, hd2_3, hd2_4, trivial⟩
    have hl6 := Lo.ogr hl5 hB ha6
    have hg0_6 := ha6
    have hk0_6 : OkB [none, og3, (some b4.block)] w7 og6 := OkB.ogr (OkB.mem (by simp)) (Nat.le_refl _) ha6
    have hd1_6 := Dj.ogr hd1_5 hlt1 ha6
    have hd2_6 := Dj.ogr hd2_5 hlt2 ha6
    have hd4_6 := Dj.ogr hd4_5 hlt4 ha6
    have hl7 := Lo.ogr hl3 hB ha7
    have hg0_7 := ha7
    have hk0_7 : OkB [none, og3, (some b4.block)] w7 og7 := OkB.ogr (OkB.mem (by simp)) (Nat.le_refl _) ha7
    have hd1_7 := Dj.ogr hd1_3 hlt1 ha7
    have hd2_7 := Dj.ogr hd2_3 hlt2 ha7
    have hd4_7 := Dj.ogr (Dj.symm hd3_4) hlt4 ha7
    have hk0_4 : OkB [none, og3, (some b4.block)] w7 (some b4.block) := OkB.mem (by simp)
    have hB := hB.loop hU0 ⟨hl5, hl3, hl4, trivial⟩
    have htl := turnL_len xa2 k
    refine CW.seq ?_
    refine CW.reg ?_
    refine WL.pure rfl rfl rfl (PV.lss rfl rfl) ?_
    refine WL.nilS ?_
    refine CW.seq ?_
    refine CW.cond rfl (fun hc2 => ?_) (fun hc2 => ?_)
    · skip
      try simp only [nq] at hc2
      refine CW.skipS ?_
      refine CW.seq ?_
      refine CW.block ?_
      refine CW.seq ?_
      refine CW.reg ?_
      first
        | refine WL.at (x := .tmp 20) (y := .tmp 22) (E := ER) ((0, 0, 0, 0)) rfl rfl (by first | assumption | exact Inn.rd (by assumption) (by omega)) (by first | omega | (simp only [List.length_set]; omega) | (simp only [List.length_append, List.length_take, List.length_replicate, List.length_drop]; omega)) (fun p1 csp1 hpp1 hcp1 hq => ?_)
        | refine WL.atZ (x := .tmp 20) (y := .tmp 22) (E := ER) ((0, 0, 0, 0)) rfl rfl (by first | assumption | exact Inn.rd (by assumption) (by omega)) (by first | omega | (simp only [List.length_set]; omega) | (simp only [List.length_append, List.length_take, List.length_replicate, List.length_drop]; omega)) (fun p1 csp1 hpp1 hzp1 hcp1 hq => ?_)
      cases hq
      refine WL.pure rfl rfl rfl ((by first | exact PV.indexAddr hpp1 rfl rfl T.sl86 | exact PV.indexAddr hpp1 rfl (by rw [← hzp1]; rfl) T.sl86)) ?_
      refine WL.pure rfl rfl rfl ((by first | exact PV.loadA T.ag178 rfl (by first | exact Cells.up (by assumption) hB | exact Bx.cells (by assumption) | assumption) (Ext.refl _) rfl | exact PV.loadP (ds := [_, _, _, _]) T.ag178 rfl (by first | exact Cells.up (by assumption) hB | exact Bx.cells (by assumption) | assumption) (Ext.refl _) rfl rfl)) ?_
      refine WL.op rfl (OpK.alloc rfl T.zv178 rfl (fun b9 w8 hXw8 hb9 hge9 => ?_))
      have hl9 := Lo.new hB hge9
      have hd1_9 := Dj.new hb1.ltO hge9
      have hd2_9 := Dj.new hb2.ltO hge9
      have hd4_9 := Dj.new hb4.ltO hge9
      have hd6_9 := Dj.new ho6.ltO hge9
      have hd7_9 := Dj.new ho7.ltO hge9
      have hk0_9 := OkN.new hU0 hge9
      have hg0_9 := OgR.new hU0.size hge9
      have hB := hB.trans hXw8
      have hb1 := hb1.up hXw8
      have hb2 := hb2.up hXw8
      have hb4 := hb4.up hXw8
      have ho6 := ho6.up hXw8
      have ho7 := ho7.up hXw8
      have hU0 := hU0.ext hXw8
      refine WL.op rfl (OpK.storeA T.sz178 rfl rfl rfl rfl (by simp [Value.oneCell'] <;> first | done | (repeat' apply And.intro) <;> first | rfl | exact Inn.one1 (by assumption) (by omega) | exact Osl.oneCell (by assumption) | exact Osn.oneCell (by assumption) | exact Rd.oneCell (by assumption) | exact Rd.oneCell (NL.rd (by assumption)) | assumption) hb9 (fun w9 hXw9 hb9 => ?_))
      have hB := hB.updL hXw9 hl9
      have hb1 := hb1.updD hXw9 hd1_9
      have hb2 := hb2.updD hXw9 hd2_9
      have hb4 := hb4.updD hXw9 hd4_9
      have ho6 := ho6.updD hXw9 hd6_9
      have ho7 := ho7.updD hXw9 hd7_9
      have hU0 := hU0.step hXw9 hk0_9
      refine WL.nilS ?_
      refine CW.reg ?_
      refine WL.pure rfl rfl rfl (PV.fieldAddr T.fl88_2 rfl hb4.cells) ?_
      refine WL.pure rfl rfl rfl (PV.load1 T.na86 rfl hb4.cells (Ext.refl _) rfl) ?_
      refine WL.pure rfl rfl rfl (PV.fieldAddr T.fl178_0 rfl hb9.cells) ?_
      refine WL.pure rfl rfl rfl (PV.load1 T.na2 rfl hb9.cells (Ext.refl _) rfl) ?_
      refine WL.pure rfl rfl rfl (PV.fieldAddr T.fl178_1 rfl hb9.cells) ?_
      refine WL.pure rfl rfl rfl (PV.load1 T.na2 rfl hb9.cells (Ext.refl _) rfl) ?_
      refine WL.pure rfl rfl rfl (PV.fieldAddr T.fl178_3 rfl hb9.cells) ?_
      refine WL.pure rfl rfl rfl (PV.load1 T.na2 rfl hb9.cells (Ext.refl _) rfl) ?_
      refine WL.pure rfl rfl rfl (PV.fieldAddr T.fl178_2 rfl hb9.cells) ?_
      refine WL.pure rfl rfl rfl (PV.load1 T.na2 rfl hb9.cells (Ext.refl _) rfl) ?_
      refine WL.pure rfl rfl rfl (PV.build (ks := [0, 1, 2, 3]) (os := [.tmp 29, .tmp 31, .tmp 33, .tmp 35]) (css := [[_], [_], [_], [_]]) (ds := [_, _, _, _]) T.bu178 rfl rfl ⟨rfl, rfl, rfl, rfl, trivial⟩ rfl) ?_
      refine WL.op rfl (OpK.build4 (os := [.tmp 36]) rfl T.sl86 rfl rfl T.zv178 rfl rfl (fun v10 g10 w10 hXw10 ho10 hge10 => ?_))
      have hl10 := Lo.new hB hge10
      have hd1_10 := Dj.new hb1.ltO hge10
      have hd2_10 := Dj.new hb2.ltO hge10
      have hd4_10 := Dj.new hb4.ltO hge10
      have hd6_10 := Dj.new ho6.ltO hge10
      have hd7_10 := Dj.new ho7.ltO hge10
      have hd9_10 := Dj.new hb9.ltO hge10
      have hk0_10 := OkN.new hU0 hge10
      have hg0_10 := OgR.new hU0.size hge10
      have hB := hB.trans hXw10
      have hb1 := hb1.up hXw10
      have hb2 := hb2.up hXw10
      have hb4 := hb4.up hXw10
      have ho6 := ho6.up hXw10
      have ho7 := ho7.up hXw10
      have hb9 := hb9.up hXw10
      have hU0 := hU0.ext hXw10
      refine WL.op rfl (OpK.appendN (g := gR) rfl T.sl86 T.zv178 rfl rfl ho6 rfl (Osn.src ho10) (by first | (simp only [List.length_cons, List.length_nil]; omega) | (simp_all; omega)) (fun v11 og11 w11 hXw11 ho11 hap11 => ?_))
      have hl11 := Lo.app hl6 hB hap11
      have hd1_11 := Dj.app hd1_6 hb1.ltO hap11
      have hd2_11 := Dj.app hd2_6 hb2.ltO hap11
      have hd4_11 := Dj.app hd4_6 hb4.ltO hap11
      have hd7_11 := Dj.app (Dj.symm hd6_7) ho7.ltO hap11
      have hd9_11 := Dj.app (Dj.symm hd6_9) hb9.ltO hap11
      have hd10_11 := Dj.app (Dj.symm hd6_10) ho10.ltO hap11
      have hk0_11 := OkN.app hU0 hk0_6 hap11
      have hg0_11 := OgR.app hg0_6 hU0.size hap11
      have hB := hB.updL hXw11 hl6
      have hb1 := hb1.updD hXw11 hd1_6
      have hb2 := hb2.updD hXw11 hd2_6
      have hb4 := hb4.updD hXw11 hd4_6
      have ho7 := ho7.updD hXw11 (Dj.symm hd6_7)
      have hb9 := hb9.updD hXw11 (Dj.symm hd6_9)
      have ho10 := ho10.updD hXw11 (Dj.symm hd6_10)
      have hU0 := hU0.step hXw11 hk0_6
      refine WL.pure rfl rfl rfl (PV.fieldAddr T.fl88_2 rfl hb4.cells) ?_
      refine WL.op rfl (OpK.storeB T.sz86 rfl rfl (by first | rfl | exact Inn.one1 (by assumption) (by omega) | exact Osl.oneCell (by assumption) | exact Osn.oneCell (by assumption) | exact Rd.oneCell (by assumption) | exact Rd.oneCell (NL.rd (by assumption)) | assumption) hb4 rfl (fun w12 hXw12 hb4 => ?_))
      have hB := hB.updL hXw12 hl4
      have hb1 := hb1.updD hXw12 hd1_4
      have hb2 := hb2.updD hXw12 hd2_4
      have ho7 := ho7.updD hXw12 (Dj.symm hd4_7)
      have hb9 := hb9.updD hXw12 (Dj.symm hd4_9)
      have ho10 := ho10.updD hXw12 (Dj.symm hd4_10)
      have ho11 := ho11.updD hXw12 (Dj.symm hd4_11)
      have hU0 := hU0.step hXw12 hk0_4
      refine WL.nil ?_
      refine NQ.block ?_
      refine NQ.then ?_
      refine CW.reg ?_
      refine WL.pure rfl rfl rfl (PV.add rfl rfl (by constructor <;> omega)) ?_
      refine WL.mv rfl rfl ?_
      refine WL.nil ?_
      refine NQ.next (ρ := [(22, _)]) ⟨rfl, rfl, rfl, rfl, rfl, trivial⟩ ?_
      exact ⟨_, ⟨v11, og11, v7, og7, k + 1, rfl, rfl, hU0, osnE ho11 (by exact turnL_put (by omega)), (by first | exact hg0_11 | exact OgR.weak hg0_11), osE ho7 (by rfl), (by first | exact hg0_7 | exact OgR.weak hg0_7), bxE hb4 (by first | rfl | (simp_all; done) | (simp_all; omega)), (Dj.symm hd7_11), (by first | omega | assumption | (simp_all; done) | (simp_all; omega))⟩, by omega⟩
    try simp only [nq] at hc2
    refine CW.exit ?_
    refine XQ.then ?_
    refine XQ.then ?_
    refine XQ.here ?_
    refine NQ.then ?_
    refine CW.seq ?_
    refine CW.reg ?_
    refine WL.pure rfl rfl rfl (PV.loadA T.ag88 rfl hb4.cells (Ext.refl _) rfl) ?_
    refine WL.op rfl (OpK.storeA T.sz88 rfl rfl rfl rfl (by simp [Value.oneCell'] <;> first | done | (repeat' apply And.intro) <;> first | rfl | exact Inn.one1 (by assumption) (by omega) | exact Osl.oneCell (by assumption) | exact Osn.oneCell (by assumption) | exact Rd.oneCell (by assumption) | exact Rd.oneCell (NL.rd (by assumption)) | assumption) hb2 (fun w13 hXw13 hb2 => ?_))
    have hB := hB.updL hXw13 hl2
    have hb1 := hb1.updD hXw13 hd1_2
    have hb4 := hb4.updD hXw13 (Dj.symm hd2_4)
    have ho6 := ho6.updD hXw13 (Dj.symm hd2_6)
    have ho7 := ho7.updD hXw13 (Dj.symm hd2_7)
    refine WL.asg rfl rfl ?_
    refine WL.nilS ?_
    refine CW.ret ?_
    refine RQ.rc1 T.ag88 rfl (by first | exact Cells.up (by assumption) hB | exact Bx.cells (by assumption) | assumption) rfl rfl ?_
    refine ⟨hB, v6, og6, v7, og7, ?_, osnE ho6 ?_, hl6, osE ho7 ?_, hl7, hd6_7⟩
    · skip
      rfl
    · skip
      exact turnL_all (by omega)
    · skip
      rfl
  · skip
    refine (OpK.alloc rfl T.zv88 rfl (fun b12 w14 hXw14 hb12 hge12 => ?_))
    have hl12 := Lo.new hB hge12
    have hv12 := Lo.new hS hge12
    have hd1_12 := Dj.new hb1.ltO hge12
    have hd2_12 := Dj.new hb2.ltO hge12
    refine ⟨Upd.trans hS hXw14, ?_⟩
    have hS := Upd.trans hS hXw14
    have hB := hB.trans hXw14
    have hb1 := hb1.up hXw14
    have hb2 := hb2.up hXw14
    refine HP.must rfl rfl (OpK.call rfl T.cf148 rfl (c_slices_Clone_bool_bool (by first | assumption | exact Rd.up (by assumption) hB | exact Osl.rd (by assumption) | exact Osn.rdR (by assumption) | exact NL.rd (by assumption) | exact rdII (by assumption) (by assumption) | exact Inn.rd (by assumption) (by omega)) (by first | assumption | omega | (simp only [marks_len, marksB_len, marksR_len, sumL_marksS]; omega))) (fun rv2 w15 hR => ?_))
    obtain ⟨hXw15, v13, og13, rfl, ho13, hq13⟩ := hR
    have hl13 := Lo.up hq13 hB
    have hv13 := Lo.up hq13 hS
    have hd1_13 := Dj.lo hb1.ltO hq13
    have hd2_13 := Dj.lo hb2.ltO hq13
    have hd12_13 := Dj.lo hb12.ltO hq13
    refine ⟨Upd.trans hS hXw15, ?_⟩
    have hS := Upd.trans hS hXw15
    have hB := hB.trans hXw15
    have hb1 := hb1.up hXw15
    have hb2 := hb2.up hXw15
    have hb12 := hb12.up hXw15
    refine HP.take rfl rfl rfl rfl hS (fun wS hS1 => PV.build (ks := [0, 1, 3]) (os := [.tmp 12, .tmp 14, .tmp 17]) (css := [[_], [_], [_]]) (ds := [_, _, _, _]) T.bu88 rfl rfl ⟨rfl, rfl, (by first | exact Rd.cells1 (by assumption) | exact Osl.cells1 (by assumption) | exact Osn.cells1 (by assumption) | exact Rd.cells1 (NL.rd (by assumption)) | exact Inn.cell1 (by assumption) (by omega) | assumption | rfl), trivial⟩ rfl) ?_
    refine HP.must rfl rfl (OpK.storeA T.sz88 rfl rfl rfl rfl (by simp [Value.oneCell'] <;> first | done | (repeat' apply And.intro) <;> first | rfl | exact Inn.one1 (by assumption) (by omega) | exact Osl.oneCell (by assumption) | exact Osn.oneCell (by assumption) | exact Rd.oneCell (by assumption) | exact Rd.oneCell (NL.rd (by assumption)) | assumption) hb12 (fun w16 hXw16 hb12 => ?_))
    refine ⟨Ext.updL hS hXw16 hv12, ?_⟩
    have hS := Ext.updL hS hXw16 hv12
    have hB := hB.updL hXw16 hl12
    have hb1 := hb1.updD hXw16 hd1_12
    have hb2 := hb2.updD hXw16 hd2_12
    have ho13 := ho13.updD hXw16 (Dj.symm hd12_13)
    refine HP.doneS ?_
    refine CW.seq ?_
    refine CW.seq ?_
    refine CW.reg ?_
    refine WL.pure rfl rfl rfl (PV.fieldAddr T.fl88_2 rfl hb1.cells) ?_
    refine WL.pure rfl rfl rfl (PV.load1 T.na86 rfl hb1.cells (Ext.refl _) rfl) ?_
    refine WL.pure rfl rfl rfl ((by first | exact PV.len rfl (by assumption) T.sl86 | exact PV.lenOs rfl (by assumption) T.sl86 | exact PV.len rfl (NL.rd (by assumption)) T.sl86 | exact PV.len rfl (Inn.rd (by assumption) (by omega)) T.sl86)) ?_
    refine WL.mv rfl rfl ?_
    refine WL.nilS ?_
    refine CW.block ?_
    have ho14 : Osn 4 gR w16 none (.slice none 0 0) [] := (Osn.nil gR_ok _)
    have hl14 : Lo w none := Lo.nl _
    have hd1_14 : Dj (some b1.block) none := Dj.nlR _
    have hd2_14 : Dj (some b2.block) none := Dj.nlR _
    have hd12_14 : Dj (some b12.block) none := Dj.nlR _
    have hd13_14 : Dj og13 none := Dj.nlR _
    have hlt1 := hb1.ltO
    have hlt2 := hb2.ltO
    have hlt12 := hb12.ltO
    have hlt13 := ho13.ltO
    have hlt14 := ho14.ltO
    refine CW.loop (σk := [(2, _), (4, _), (20, _), (21, _)]) (fun ρ wz m => ∃ (v15 : Value) (og15 : Option Nat) (v16 : Value) (og16 : Option Nat) (k : Nat), ρ = [(22, .int .i64 (k : Nat))] ∧ m = xa2.length - k ∧ UpdL [none, og13, (some b12.block)] w16 wz ∧ Osn 4 gR wz og15 v15 (turnL (xa2.take k)) ∧ OgR w16 none og15 ∧ Osl VB wz og16 v16 (xa3) ∧ OgR w16 og13 og16 ∧ Bx wz b12 [.int .i64 a0, .int .i64 a1, v15, v16] ∧ Dj og15 og16 ∧ (k ≤ xa2.length)) (ρ₀ := [(22, _)]) (m₀ := _) ⟨rfl, rfl, rfl, rfl, rfl, trivial⟩ ⟨(.slice none 0 0), none, rv2, og13, 0, rfl, rfl, (UpdL.refl _ _), osnE ho14 (by rfl), OgR.refl _ _, osE ho13 (by rfl), OgR.refl _ _, bxE hb12 (by first | rfl | (simp_all; done) | (simp_all; omega)), (Dj.symm hd13_14), (by first | omega | rfl | (simp; done) | assumption | (simp_all; done))⟩ ?_
    rintro _ wl2 _ ⟨v15, og15, v16, og16, k, rfl, rfl, hU0, ho15, ha15, ho16, ha16, hb12, hd15_16, hk⟩
    have hb1 := hb1.loop hU0 ⟨hd1_14, hd1_13, hd1_12, trivial⟩
    have hb2 := hb2.loop hU0 ⟨hd2_14, hd2_13, hd2_12, trivial⟩
    have hl15 := Lo.ogr hl14 hB ha15
    have hg0_15 := ha15
    have hk0_15 : OkB [none, og13, (some b12.block)] w16 og15 := OkB.ogr (OkB.mem (by simp)) (Nat.le_refl _) ha15
    have hd1_15 := Dj.ogr hd1_14 hlt1 ha15
    have hd2_15 := Dj.ogr hd2_14 hlt2 ha15
    have hd12_15 := Dj.ogr hd12_14 hlt12 ha15
    have hl16 := Lo.ogr hl13 hB ha16
    have hg0_16 := ha16
    have hk0_16 : OkB [none, og13, (some b12.block)] w16 og16 := OkB.ogr (OkB.mem (by simp)) (Nat.le_refl _) ha16
    have hd1_16 := Dj.ogr hd1_13 hlt1 ha16
    have hd2_16 := Dj.ogr hd2_13 hlt2 ha16
    have hd12_16 := Dj.ogr hd12_13 hlt12 ha16
    have hk0_12 : OkB [none, og13, (some b12.block)] w16 (some b12.block) := OkB.mem (by simp)
    have hB := hB.loop hU0 ⟨hl14, hl13, hl12, trivial⟩
    have htl := turnL_len xa2 k
    refine CW.seq ?_
    refine CW.reg ?_
    refine WL.pure rfl rfl rfl (PV.lss rfl rfl) ?_
    refine WL.nilS ?_
    refine CW.seq ?_
    refine CW.cond rfl (fun hc3 => ?_) (fun hc3 => ?_)
    · skip
      try simp only [nq] at hc3
      refine CW.skipS ?_
      refine CW.seq ?_
      refine CW.block ?_
      refine CW.seq ?_
      refine CW.reg ?_
      first
        | refine WL.at (x := .tmp 20) (y := .tmp 22) (E := ER) ((0, 0, 0, 0)) rfl rfl (by first | assumption | exact Inn.rd (by assumption) (by omega)) (by first | omega | (simp only [List.length_set]; omega) | (simp only [List.length_append, List.length_take, List.length_replicate, List.length_drop]; omega)) (fun p2 csp2 hpp2 hcp2 hq => ?_)
        | refine WL.atZ (x := .tmp 20) (y := .tmp 22) (E := ER) ((0, 0, 0, 0)) rfl rfl (by first | assumption | exact Inn.rd (by assumption) (by omega)) (by first | omega | (simp only [List.length_set]; omega) | (simp only [List.length_append, List.length_take, List.length_replicate, List.length_drop]; omega)) (fun p2 csp2 hpp2 hzp2 hcp2 hq => ?_)
      cases hq
      refine WL.pure rfl rfl rfl ((by first | exact PV.indexAddr hpp2 rfl rfl T.sl86 | exact PV.indexAddr hpp2 rfl (by rw [← hzp2]; rfl) T.sl86)) ?_
      refine WL.pure rfl rfl rfl ((by first | exact PV.loadA T.ag178 rfl (by first | exact Cells.up (by assumption) hB | exact Bx.cells (by assumption) | assumption) (Ext.refl _) rfl | exact PV.loadP (ds := [_, _, _, _]) T.ag178 rfl (by first | exact Cells.up (by assumption) hB | exact Bx.cells (by assumption) | assumption) (Ext.refl _) rfl rfl)) ?_
      refine WL.op rfl (OpK.alloc rfl T.zv178 rfl (fun b18 w17 hXw17 hb18 hge18 => ?_))
      have hl18 := Lo.new hB hge18
      have hd1_18 := Dj.new hb1.ltO hge18
      have hd2_18 := Dj.new hb2.ltO hge18
      have hd12_18 := Dj.new hb12.ltO hge18
      have hd15_18 := Dj.new ho15.ltO hge18
      have hd16_18 := Dj.new ho16.ltO hge18
      have hk0_18 := OkN.new hU0 hge18
      have hg0_18 := OgR.new hU0.size hge18
      have hB := hB.trans hXw17
      have hb1 := hb1.up hXw17
      have hb2 := hb2.up hXw17
      have hb12 := hb12.up hXw17
      have ho15 := ho15.up hXw17
      have ho16 := ho16.up hXw17
      have hU0 := hU0.ext hXw17
      refine WL.op rfl (OpK.storeA T.sz178 rfl rfl rfl rfl (by simp [Value.oneCell'] <;> first | done | (repeat' apply And.intro) <;> first | rfl | exact Inn.one1 (by assumption) (by omega) | exact Osl.oneCell (by assumption) | exact Osn.oneCell (by assumption) | exact Rd.oneCell (by assumption) | exact Rd.oneCell (NL.rd (by assumption)) | assumption) hb18 (fun w18 hXw18 hb18 => ?_))
      have hB := hB.updL hXw18 hl18
      have hb1 := hb1.updD hXw18 hd1_18
      have hb2 := hb2.updD hXw18 hd2_18
      have hb12 := hb12.updD hXw18 hd12_18
      have ho15 := ho15.updD hXw18 hd15_18
      have ho16 := ho16.updD hXw18 hd16_18
      have hU0 := hU0.step hXw18 hk0_18
      refine WL.nilS ?_
      refine CW.reg ?_
      refine WL.pure rfl rfl rfl (PV.fieldAddr T.fl88_2 rfl hb12.cells) ?_
      refine WL.pure rfl rfl rfl (PV.load1 T.na86 rfl hb12.cells (Ext.refl _) rfl) ?_
      refine WL.pure rfl rfl rfl (PV.fieldAddr T.fl178_0 rfl hb18.cells) ?_
      refine WL.pure rfl rfl rfl (PV.load1 T.na2 rfl hb18.cells (Ext.refl _) rfl) ?_
      refine WL.pure rfl rfl rfl (PV.fieldAddr T.fl178_1 rfl hb18.cells) ?_
      refine WL.pure rfl rfl rfl (PV.load1 T.na2 rfl hb18.cells (Ext.refl _) rfl) ?_
      refine WL.pure rfl rfl rfl (PV.fieldAddr T.fl178_3 rfl hb18.cells) ?_
      refine WL.pure rfl rfl rfl (PV.load1 T.na2 rfl hb18.cells (Ext.refl _) rfl) ?_
      refine WL.pure rfl rfl rfl (PV.fieldAddr T.fl178_2 rfl hb18.cells) ?_
      refine WL.pure rfl rfl rfl (PV.load1 T.na2 rfl hb18.cells (Ext.refl _) rfl) ?_
      refine WL.pure rfl rfl rfl (PV.build (ks := [0, 1, 2, 3]) (os := [.tmp 29, .tmp 31, .tmp 33, .tmp 35]) (css := [[_], [_], [_], [_]]) (ds := [_, _, _, _]) T.bu178 rfl rfl ⟨rfl, rfl, rfl, rfl, trivial⟩ rfl) ?_
      refine WL.op rfl (OpK.build4 (os := [.tmp 36]) rfl T.sl86 rfl rfl T.zv178 rfl rfl (fun v19 g19 w19 hXw19 ho19 hge19 => ?_))
      have hl19 := Lo.new hB hge19
      have hd1_19 := Dj.new hb1.ltO hge19
      have hd2_19 := Dj.new hb2.ltO hge19
      have hd12_19 := Dj.new hb12.ltO hge19
      have hd15_19 := Dj.new ho15.ltO hge19
      have hd16_19 := Dj.new ho16.ltO hge19
      have hd18_19 := Dj.new hb18.ltO hge19
      have hk0_19 := OkN.new hU0 hge19
      have hg0_19 := OgR.new hU0.size hge19
      have hB := hB.trans hXw19
      have hb1 := hb1.up hXw19
      have hb2 := hb2.up hXw19
      have hb12 := hb12.up hXw19
      have ho15 := ho15.up hXw19
      have ho16 := ho16.up hXw19
      have hb18 := hb18.up hXw19
      have hU0 := hU0.ext hXw19
      refine WL.op rfl (OpK.appendN (g := gR) rfl T.sl86 T.zv178 rfl rfl ho15 rfl (Osn.src ho19) (by first | (simp only [List.length_cons, List.length_nil]; omega) | (simp_all; omega)) (fun v20 og20 w20 hXw20 ho20 hap20 => ?_))
      have hl20 := Lo.app hl15 hB hap20
      have hd1_20 := Dj.app hd1_15 hb1.ltO hap20
      have hd2_20 := Dj.app hd2_15 hb2.ltO hap20
      have hd12_20 := Dj.app hd12_15 hb12.ltO hap20
      have hd16_20 := Dj.app (Dj.symm hd15_16) ho16.ltO hap20
      have hd18_20 := Dj.app (Dj.symm hd15_18) hb18.ltO hap20
      have hd19_20 := Dj.app (Dj.symm hd15_19) ho19.ltO hap20
      have hk0_20 := OkN.app hU0 hk0_15 hap20
      have hg0_20 := OgR.app hg0_15 hU0.size hap20
      have hB := hB.updL hXw20 hl15
      have hb1 := hb1.updD hXw20 hd1_15
      have hb2 := hb2.updD hXw20 hd2_15
      have hb12 := hb12.updD hXw20 hd12_15
      have ho16 := ho16.updD hXw20 (Dj.symm hd15_16)
      have hb18 := hb18.updD hXw20 (Dj.symm hd15_18)
      have ho19 := ho19.updD hXw20 (Dj.symm hd15_19)
      have hU0 := hU0.step hXw20 hk0_15
      refine WL.pure rfl rfl rfl (PV.fieldAddr T.fl88_2 rfl hb12.cells) ?_
      refine WL.op rfl (OpK.storeB T.sz86 rfl rfl (by first | rfl | exact Inn.one1 (by assumption) (by omega) | exact Osl.oneCell (by assumption) | exact Osn.oneCell (by assumption) | exact Rd.oneCell (by assumption) | exact Rd.oneCell (NL.rd (by assumption)) | assumption) hb12 rfl (fun w21 hXw21 hb12 => ?_))
      have hB := hB.updL hXw21 hl12
      have hb1 := hb1.updD hXw21 hd1_12
      have hb2 := hb2.updD hXw21 hd2_12
      have ho16 := ho16.updD hXw21 (Dj.symm hd12_16)
      have hb18 := hb18.updD hXw21 (Dj.symm hd12_18)
      have ho19 := ho19.updD hXw21 (Dj.symm hd12_19)
      have ho20 := ho20.updD hXw21 (Dj.symm hd12_20)
      have hU0 := hU0.step hXw21 hk0_12
      refine WL.nil ?_
      refine NQ.block ?_
      refine NQ.then ?_
      refine CW.reg ?_
      refine WL.pure rfl rfl rfl (PV.add rfl rfl (by constructor <;> omega)) ?_
      refine WL.mv rfl rfl ?_
      refine WL.nil ?_
      refine NQ.next (ρ := [(22, _)]) ⟨rfl, rfl, rfl, rfl, rfl, trivial⟩ ?_
      exact ⟨_, ⟨v20, og20, v16, og16, k + 1, rfl, rfl, hU0, osnE ho20 (by exact turnL_put (by omega)), (by first | exact hg0_20 | exact OgR.weak hg0_20), osE ho16 (by rfl), (by first | exact hg0_16 | exact OgR.weak hg0_16), bxE hb12 (by first | rfl | (simp_all; done) | (simp_all; omega)), (Dj.symm hd16_20), (by first | omega | assumption | (simp_all; done) | (simp_all; omega))⟩, by omega⟩
    try simp only [nq] at hc3
    refine CW.exit ?_
    refine XQ.then ?_
    refine XQ.then ?_
    refine XQ.here ?_
    refine NQ.then ?_
    refine CW.seq ?_
    refine CW.reg ?_
    refine WL.pure rfl rfl rfl (PV.loadA T.ag88 rfl hb12.cells (Ext.refl _) rfl) ?_
    refine WL.op rfl (OpK.storeA T.sz88 rfl rfl rfl rfl (by simp [Value.oneCell'] <;> first | done | (repeat' apply And.intro) <;> first | rfl | exact Inn.one1 (by assumption) (by omega) | exact Osl.oneCell (by assumption) | exact Osn.oneCell (by assumption) | exact Rd.oneCell (by assumption) | exact Rd.oneCell (NL.rd (by assumption)) | assumption) hb2 (fun w22 hXw22 hb2 => ?_))
    have hB := hB.updL hXw22 hl2
    have hb1 := hb1.updD hXw22 hd1_2
    have hb12 := hb12.updD hXw22 (Dj.symm hd2_12)
    have ho15 := ho15.updD hXw22 (Dj.symm hd2_15)
    have ho16 := ho16.updD hXw22 (Dj.symm hd2_16)
    refine WL.asg rfl rfl ?_
    refine WL.nilS ?_
    refine CW.ret ?_
    refine RQ.rc1 T.ag88 rfl (by first | exact Cells.up (by assumption) hB | exact Bx.cells (by assumption) | assumption) rfl rfl ?_
    refine ⟨hB, v15, og15, v16, og16, ?_, osnE ho15 ?_, hl15, osE ho16 ?_, hl16, hd15_16⟩
    · skip
      rfl
    · skip
      exact turnL_all (by omega)
    · skip
      rfl
theorem c_impl_validSided {w : World} {a0 : Int} {a1 : Int} {va2 : Value} {xa2 : List R4} {va3 : Value} {xa3 : List Bool}  (ha2 : Rd ER w va2 xa2) (ha3 : Rd EB w va3 xa3) : Calls Try.prog 149 #[.agg #[.int .i64 a0, .int .i64 a1, va2, va3]] w (Ret1 (fun v w' => Ext w w' ∧ (((sidedV a0 a1 xa2 xa3) ∧ v = .tuple #[.agg #[.int .i64 a0, .int .i64 a1, va2, va3], .bool true]) ∨ ((¬ sidedV a0 a1 xa2 xa3) ∧ v = .tuple #[.agg #[.int .i64 0, .int .i64 0, .slice none 0 0, .slice none 0 0], .bool false])))) := by
  have hB : Ext w w := Ext.refl w
  have hla2 := ha2.leI; have hla3 := ha3.leI
  refine callsOf (vs := [_]) Try.func149 rfl Try.ntmps149 rfl rfl ?_
  refine CW.seq ?_
  refine CW.reg ?_
  refine WL.op rfl (OpK.box rfl rfl (by first | exact Rd.cells1 (by assumption) | exact Osl.cells1 (by assumption) | exact Osn.cells1 (by assumption) | exact Rd.cells1 (NL.rd (by assumption)) | exact Inn.cell1 (by assumption) (by omega) | assumption | rfl) (fun b1 w1 hXw1 hb1 hge1 => ?_))
  have hl1 := Lo.new hB hge1
  have hB := hB.trans hXw1
  refine WL.op rfl (OpK.alloc rfl T.zv88 rfl (fun b2 w2 hXw2 hb2 hge2 => ?_))
  have hl2 := Lo.new hB hge2
  have hd1_2 := Dj.new hb1.ltO hge2
  have hB := hB.trans hXw2
  have hb1 := hb1.up hXw2
  refine WL.asg rfl rfl ?_
  refine WL.nilS ?_
  refine CW.seq ?_
  refine CW.seq ?_
  refine CW.reg ?_
  refine WL.pure rfl rfl rfl (PV.loadA T.ag88 rfl hb1.cells (Ext.refl _) rfl) ?_
  refine WL.op rfl (OpK.callR rfl T.cf71 rfl (c_impl_ValidSided (by first | assumption | exact Rd.up (by assumption) hB | exact Osl.rd (by assumption) | exact Osn.rdR (by assumption) | exact NL.rd (by assumption) | exact rdII (by assumption) (by assumption) | exact Inn.rd (by assumption) (by omega)) (by first | assumption | exact Rd.up (by assumption) hB | exact Osl.rd (by assumption) | exact Osn.rdR (by assumption) | exact NL.rd (by assumption) | exact rdII (by assumption) (by assumption) | exact Inn.rd (by assumption) (by omega))) (fun w3 hXw3 => ?_))
  have hB := hB.trans hXw3
  have hb1 := hb1.up hXw3
  have hb2 := hb2.up hXw3
  refine WL.pure rfl rfl rfl (PV.not rfl) ?_
  refine WL.nilS ?_
  refine CW.cond rfl (fun hc1 => ?_) (fun hc1 => ?_)
  · skip
    try simp only [nq] at hc1
    refine CW.seq ?_
    refine CW.reg ?_
    refine WL.pure rfl rfl rfl (PV.build (ks := []) (os := []) (css := []) (ds := [_, _, _, _]) T.bu88 rfl rfl trivial rfl) ?_
    refine WL.op rfl (OpK.storeA T.sz88 rfl rfl rfl rfl (by simp [Value.oneCell'] <;> first | done | (repeat' apply And.intro) <;> first | rfl | exact Inn.one1 (by assumption) (by omega) | exact Osl.oneCell (by assumption) | exact Osn.oneCell (by assumption) | exact Rd.oneCell (by assumption) | exact Rd.oneCell (NL.rd (by assumption)) | assumption) hb2 (fun w4 hXw4 hb2 => ?_))
    have hB := hB.updL hXw4 hl2
    have hb1 := hb1.updD hXw4 hd1_2
    refine WL.asg rfl rfl ?_
    refine WL.nilS ?_
    refine CW.ret ?_
    refine RQ.then ?_
    refine RQ.rc1 T.ag88 rfl (by first | exact Cells.up (by assumption) hB | exact Bx.cells (by assumption) | assumption) rfl rfl ?_
    first | exact ⟨hB, .inl ⟨by assumption, rfl⟩⟩ | exact ⟨hB, .inr ⟨by assumption, rfl⟩⟩
  try simp only [nq] at hc1
  refine CW.skipS ?_
  refine CW.seq ?_
  refine CW.reg ?_
  refine WL.pure rfl rfl rfl (PV.loadA T.ag88 rfl hb1.cells (Ext.refl _) rfl) ?_
  refine WL.op rfl (OpK.storeA T.sz88 rfl rfl rfl rfl (by simp [Value.oneCell'] <;> first | done | (repeat' apply And.intro) <;> first | rfl | exact Inn.one1 (by assumption) (by omega) | exact Osl.oneCell (by assumption) | exact Osn.oneCell (by assumption) | exact Rd.oneCell (by assumption) | exact Rd.oneCell (NL.rd (by assumption)) | assumption) hb2 (fun w5 hXw5 hb2 => ?_))
  have hB := hB.updL hXw5 hl2
  have hb1 := hb1.updD hXw5 hd1_2
  refine WL.asg rfl rfl ?_
  refine WL.nilS ?_
  refine CW.ret ?_
  refine RQ.rc1 T.ag88 rfl (by first | exact Cells.up (by assumption) hB | exact Bx.cells (by assumption) | assumption) rfl rfl ?_
  first | exact ⟨hB, .inl ⟨by assumption, rfl⟩⟩ | exact ⟨hB, .inr ⟨by assumption, rfl⟩⟩

end Go.Proofs.Ythemmoceomdccaa
