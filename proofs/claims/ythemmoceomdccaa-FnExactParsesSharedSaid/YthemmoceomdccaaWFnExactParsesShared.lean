/- Walks of the functions that the law FnExactParsesShared reaches: each says what its function computes. No condition. -/
import Derived.Test.YthemmoceomdccaaProg
import Derived.Test.YthemmoceomdccaaLibM
import Derived.Test.YthemmoceomdccaaPlA
import Derived.Test.YthemmoceomdccaaLibV
import Derived.Test.YthemmoceomdccaaPlG
import Derived.Test.YthemmoceomdccaaPlX
import Derived.Test.YthemmoceomdccaaLibR
import Derived.Test.YthemmoceomdccaaPlD
import Derived.Test.YthemmoceomdccaaPlB
import Derived.Test.YthemmoceomdccaaPlY
import Derived.Test.YthemmoceomdccaaWFnExactParsesSharedb
namespace Go.Proofs.Ythemmoceomdccaa
open Go Go.WX Go.Proofs
set_option linter.unusedSimpArgs false
set_option linter.unusedVariables false

theorem c_impl_ParsesShared {w : World} {a0 : Int} {a1 : Int} {va2 : Value} {xa2 : List R4} {vb : Value} {wss : List (List Int)} {wk : Int} (ha2 : Rd ER w va2 xa2) (hb : Rd (ESl EI) w vb wss) : Calls Try.prog 14 #[.agg #[.int .i64 a0, .int .i64 a1, va2], vb, .int .i64 wk] w (Ret1 (fun v w' => Ext w w' ∧ ∃ u og_u, v = .tuple #[u, .bool (psB a0 a1 xa2 wss wk)] ∧ Osl VI w' og_u u (onT (psB a0 a1 xa2 wss wk) (wss.map fun w => leastC xa2 w 0 w.length 0)) ∧ Lo w og_u)) := by
  have hB : Ext w w := Ext.refl w
  have hla2 := ha2.leI; have hlb9 := hb.leI
  refine callsOf (vs := [_, _, _]) Try.func14 rfl Try.ntmps14 rfl rfl ?_
  refine CW.seq ?_
  refine CW.reg ?_
  refine WL.op rfl (OpK.box rfl rfl (by first | exact Rd.cells1 (by assumption) | exact Osl.cells1 (by assumption) | exact Osn.cells1 (by assumption) | exact Rd.cells1 (NL.rd (by assumption)) | exact Inn.cell1 (by assumption) (by omega) | rfl) (fun b1 w1 hXw1 hb1 hge1 => ?_))
  have hl1 := Lo.new hB hge1
  have hB := hB.trans hXw1
  refine WL.pure rfl rfl rfl (PV.assign rfl) ?_
  refine WL.pure rfl rfl rfl (PV.assign rfl) ?_
  refine WL.nilS ?_
  refine CW.seq ?_
  refine CW.seq ?_
  refine CW.reg ?_
  refine WL.pure rfl rfl rfl ((by first | exact PV.loadA T.ag33 rfl (by first | exact Cells.up (by assumption) hB | exact Bx.cells (by assumption) | assumption) (Ext.refl _) rfl | exact PV.loadP (ds := [_, _, _]) T.ag33 rfl (by first | exact Cells.up (by assumption) hB | exact Bx.cells (by assumption) | assumption) (Ext.refl _) rfl rfl)) ?_
  refine WL.op rfl (OpK.callR rfl T.cf103 rfl (c_impl_ValidGrammar (by first | assumption | exact Rd.up (by assumption) hB | exact Osl.rd (by assumption) | exact Osn.rdR (by assumption) | exact NL.rd (by assumption) | exact rdII (by assumption) (by assumption) | exact Inn.rd (by assumption) (by omega))) (fun w2 hXw2 => ?_))
  have hB := hB.trans hXw2
  have hb1 := hb1.up hXw2
  refine WL.pure rfl rfl rfl (PV.not rfl) ?_
  refine WL.pure rfl rfl rfl (PV.move rfl) ?_
  refine WL.split (t := 16) rfl (fun hc1 => ?_) (fun hc1 => ?_)
  · skip
    try simp only [decide_eq_true_eq, decide_eq_false_iff_not, Bool.not_eq_true', Bool.not_eq_false', Bool.not_eq_eq_eq_not, Bool.not_true, Bool.not_false, Int.not_lt, Int.not_le, Classical.not_not, beq_iff_eq, beq_eq_false_iff_ne] at hc1
    refine WL.skip rfl rfl rfl rfl rfl ?_
    refine WL.skip rfl rfl rfl rfl rfl ?_
    refine WL.skip rfl rfl rfl rfl rfl ?_
    refine WL.pure rfl rfl rfl (PV.pickT rfl rfl) ?_
    refine WL.pure rfl rfl rfl (PV.move rfl) ?_
    refine WL.skip rfl rfl rfl rfl rfl ?_
    refine WL.skip rfl rfl rfl rfl rfl ?_
    refine WL.skip rfl rfl rfl rfl rfl ?_
    refine WL.pure rfl rfl rfl (PV.pickT rfl rfl) ?_
    refine WL.nilS ?_
    refine CW.condT rfl ?_
    refine CW.seq ?_
    refine CW.reg ?_
    refine WL.pure rfl rfl rfl (PV.assign rfl) ?_
    refine WL.pure rfl rfl rfl (PV.assign rfl) ?_
    refine WL.nilS ?_
    refine CW.ret ?_
    refine RQ.then ?_
    refine RQ.r2 rfl rfl ?_
    refine ⟨hB, (.slice none 0 0), none, ?_, osE (Osl.nil _ _) ?_, Lo.nl _⟩
    · skip
      first | exact tE2 rfl (bE (by first | exact ps_n1 (by assumption) | exact ps_n2 (by omega) | exact ps_n3 (by omega) | exact ps_n4 (k := k) (by omega) (by assumption))) | exact tE2 rfl (bE (ps_y (by assumption) (by omega) (by omega) (fun j h => he j (by omega))))
    · skip
      first | (have hS9 : false = (psB a0 a1 xa2 wss wk) := (by first | exact ps_n1 (by assumption) | exact ps_n2 (by omega) | exact ps_n3 (by omega) | exact ps_n4 (k := k) (by omega) (by assumption)); rw [← hS9]; rfl) | (have hS9 : true = (psB a0 a1 xa2 wss wk) := (ps_y (by assumption) (by omega) (by omega) (fun j h => he j (by omega))); rw [onT_yes hS9.symm, List.take_of_length_le (by omega)])
  try simp only [decide_eq_true_eq, decide_eq_false_iff_not, Bool.not_eq_true', Bool.not_eq_false', Bool.not_eq_eq_eq_not, Bool.not_true, Bool.not_false, Int.not_lt, Int.not_le, Classical.not_not, beq_iff_eq, beq_eq_false_iff_ne] at hc1
  refine WL.pureG rfl rfl rfl rfl rfl (PV.move rfl) ?_
  refine WL.pureG rfl rfl rfl rfl rfl ((by first | exact PV.len rfl (by assumption) T.sl25 | exact PV.lenOs rfl (by assumption) T.sl25 | exact PV.len rfl (NL.rd (by assumption)) T.sl25 | exact PV.len rfl (Inn.rd (by assumption) (by omega)) T.sl25)) ?_
  refine WL.pureG rfl rfl rfl rfl rfl (PV.gtr rfl rfl) ?_
  refine WL.pure rfl rfl rfl (PV.pickF rfl rfl) ?_
  refine WL.pure rfl rfl rfl (PV.move rfl) ?_
  refine WL.split (t := 21) rfl (fun hc2 => ?_) (fun hc2 => ?_)
  · skip
    try simp only [decide_eq_true_eq, decide_eq_false_iff_not, Bool.not_eq_true', Bool.not_eq_false', Bool.not_eq_eq_eq_not, Bool.not_true, Bool.not_false, Int.not_lt, Int.not_le, Classical.not_not, beq_iff_eq, beq_eq_false_iff_ne] at hc2
    refine WL.skip rfl rfl rfl rfl rfl ?_
    refine WL.skip rfl rfl rfl rfl rfl ?_
    refine WL.skip rfl rfl rfl rfl rfl ?_
    refine WL.pure rfl rfl rfl (PV.pickT rfl rfl) ?_
    refine WL.nilS ?_
    refine CW.condT rfl ?_
    refine CW.seq ?_
    refine CW.reg ?_
    refine WL.pure rfl rfl rfl (PV.assign rfl) ?_
    refine WL.pure rfl rfl rfl (PV.assign rfl) ?_
    refine WL.nilS ?_
    refine CW.ret ?_
    refine RQ.then ?_
    refine RQ.r2 rfl rfl ?_
    refine ⟨hB, (.slice none 0 0), none, ?_, osE (Osl.nil _ _) ?_, Lo.nl _⟩
    · skip
      first | exact tE2 rfl (bE (by first | exact ps_n1 (by assumption) | exact ps_n2 (by omega) | exact ps_n3 (by omega) | exact ps_n4 (k := k) (by omega) (by assumption))) | exact tE2 rfl (bE (ps_y (by assumption) (by omega) (by omega) (fun j h => he j (by omega))))
    · skip
      first | (have hS9 : false = (psB a0 a1 xa2 wss wk) := (by first | exact ps_n1 (by assumption) | exact ps_n2 (by omega) | exact ps_n3 (by omega) | exact ps_n4 (k := k) (by omega) (by assumption)); rw [← hS9]; rfl) | (have hS9 : true = (psB a0 a1 xa2 wss wk) := (ps_y (by assumption) (by omega) (by omega) (fun j h => he j (by omega))); rw [onT_yes hS9.symm, List.take_of_length_le (by omega)])
  try simp only [decide_eq_true_eq, decide_eq_false_iff_not, Bool.not_eq_true', Bool.not_eq_false', Bool.not_eq_eq_eq_not, Bool.not_true, Bool.not_false, Int.not_lt, Int.not_le, Classical.not_not, beq_iff_eq, beq_eq_false_iff_ne] at hc2
  refine WL.pureG rfl rfl rfl rfl rfl (PV.move rfl) ?_
  refine WL.opG rfl rfl rfl (OpK.callR rfl T.cf104 rfl (c_impl_within) (fun w3 hXw3 => ?_))
  have hB := hB.trans hXw3
  have hb1 := hb1.up hXw3
  refine WL.pureG rfl rfl rfl rfl rfl (PV.not rfl) ?_
  refine WL.pure rfl rfl rfl (PV.pickF rfl rfl) ?_
  refine WL.nilS ?_
  refine CW.cond rfl (fun hc3 => ?_) (fun hc3 => ?_)
  · skip
    try simp only [decide_eq_true_eq, decide_eq_false_iff_not, Bool.not_eq_true', Bool.not_eq_false', Bool.not_eq_eq_eq_not, Bool.not_true, Bool.not_false, Int.not_lt, Int.not_le, Classical.not_not, beq_iff_eq, beq_eq_false_iff_ne] at hc3
    refine CW.seq ?_
    refine CW.reg ?_
    refine WL.pure rfl rfl rfl (PV.assign rfl) ?_
    refine WL.pure rfl rfl rfl (PV.assign rfl) ?_
    refine WL.nilS ?_
    refine CW.ret ?_
    refine RQ.then ?_
    refine RQ.r2 rfl rfl ?_
    refine ⟨hB, (.slice none 0 0), none, ?_, osE (Osl.nil _ _) ?_, Lo.nl _⟩
    · skip
      first | exact tE2 rfl (bE (by first | exact ps_n1 (by assumption) | exact ps_n2 (by omega) | exact ps_n3 (by omega) | exact ps_n4 (k := k) (by omega) (by assumption))) | exact tE2 rfl (bE (ps_y (by assumption) (by omega) (by omega) (fun j h => he j (by omega))))
    · skip
      first | (have hS9 : false = (psB a0 a1 xa2 wss wk) := (by first | exact ps_n1 (by assumption) | exact ps_n2 (by omega) | exact ps_n3 (by omega) | exact ps_n4 (k := k) (by omega) (by assumption)); rw [← hS9]; rfl) | (have hS9 : true = (psB a0 a1 xa2 wss wk) := (ps_y (by assumption) (by omega) (by omega) (fun j h => he j (by omega))); rw [onT_yes hS9.symm, List.take_of_length_le (by omega)])
  try simp only [decide_eq_true_eq, decide_eq_false_iff_not, Bool.not_eq_true', Bool.not_eq_false', Bool.not_eq_eq_eq_not, Bool.not_true, Bool.not_false, Int.not_lt, Int.not_le, Classical.not_not, beq_iff_eq, beq_eq_false_iff_ne] at hc3
  refine CW.skipS ?_
  refine CW.seq ?_
  refine CW.reg ?_
  refine WL.op rfl (OpK.buildS VI (os := []) [] rfl T.sl28 rfl rfl T.zv2 rfl (by intro z hz; cases hz) rfl (fun v2 g2 w4 hXw4 ho2 hge2 => ?_))
  have hl2 := Lo.new hB hge2
  have hd1_2 := Dj.new hb1.ltO hge2
  have hB := hB.trans hXw4
  have hb1 := hb1.up hXw4
  refine WL.pure rfl rfl rfl (PV.assign rfl) ?_
  refine WL.nilS ?_
  refine CW.seq ?_
  refine CW.seq ?_
  refine CW.reg ?_
  refine WL.pure rfl rfl rfl (PV.move rfl) ?_
  refine WL.pure rfl rfl rfl ((by first | exact PV.len rfl (by assumption) T.sl25 | exact PV.lenOs rfl (by assumption) T.sl25 | exact PV.len rfl (NL.rd (by assumption)) T.sl25 | exact PV.len rfl (Inn.rd (by assumption) (by omega)) T.sl25)) ?_
  refine WL.pure rfl rfl rfl (PV.move rfl) ?_
  refine WL.nilS ?_
  refine CW.block ?_
  have hlt1 := hb1.ltO
  have hlt2 := ho2.ltO
  refine CW.loop (σk := [(3, _), (27, _), (28, _)]) (fun ρ wz m => ∃ (v3 : Value) (og3 : Option Nat) (k : Nat), ρ = [(8, v3), (29, .int .i64 (k : Nat))] ∧ m = wss.length - k ∧ UpdL [(some g2)] w4 wz ∧ Osl VI wz og3 v3 ((wss.take k).map fun w => leastC xa2 w 0 w.length 0) ∧ OgR w4 (some g2) og3 ∧ (k ≤ wss.length) ∧ (∀ j : Nat, j < k → canB a0 a1 xa2 (wss.getD j []) = true)) (ρ₀ := [(8, _), (29, _)]) (m₀ := _) ⟨rfl, rfl, rfl, rfl, rfl, trivial⟩ ⟨v2, (some g2), 0, rfl, rfl, (UpdL.refl _ _), osE ho2 (by rfl), OgR.refl _ _, (by first | omega | rfl | (simp; done) | assumption | (simp_all; done)), (by intro j h; omega)⟩ ?_
  rintro _ wl1 _ ⟨v3, og3, k, rfl, rfl, hU0, ho3, ha3, hk, he⟩
  have hb1 := hb1.loop hU0 ⟨hd1_2, trivial⟩
  have hl3 := Lo.ogr hl2 hB ha3
  have hg0_3 := ha3
  have hk0_3 : OkB [(some g2)] w4 og3 := OkB.ogr (OkB.mem (by simp)) (Nat.le_refl _) ha3
  have hd1_3 := Dj.ogr hd1_2 hlt1 ha3
  have hB := hB.loop hU0 ⟨hl2, trivial⟩
  have hmk : ((wss.take k).map fun w => leastC xa2 w 0 w.length 0).length = k := (by simp; omega)
  refine CW.seq ?_
  refine CW.reg ?_
  refine WL.pure rfl rfl rfl (PV.lss rfl rfl) ?_
  refine WL.nilS ?_
  refine CW.seq ?_
  refine CW.cond rfl (fun hc4 => ?_) (fun hc4 => ?_)
  · skip
    try simp only [decide_eq_true_eq, decide_eq_false_iff_not, Bool.not_eq_true', Bool.not_eq_false', Bool.not_eq_eq_eq_not, Bool.not_true, Bool.not_false, Int.not_lt, Int.not_le, Classical.not_not, beq_iff_eq, beq_eq_false_iff_ne] at hc4
    refine CW.skipS ?_
    refine CW.seq ?_
    refine CW.block ?_
    refine CW.seq ?_
    refine CW.reg ?_
    first
      | refine WL.at (x := .tmp 27) (y := .tmp 29) (E := ESl EI) ([]) rfl rfl (by first | assumption | exact Inn.rd (by assumption) (by omega)) (by first | omega | (simp only [List.length_set]; omega) | (simp only [List.length_append, List.length_take, List.length_replicate, List.length_drop]; omega)) (fun p1 csp1 hpp1 hcp1 hq => ?_)
      | refine WL.atZ (x := .tmp 27) (y := .tmp 29) (E := ESl EI) ([]) rfl rfl (by first | assumption | exact Inn.rd (by assumption) (by omega)) (by first | omega | (simp only [List.length_set]; omega) | (simp only [List.length_append, List.length_take, List.length_replicate, List.length_drop]; omega)) (fun p1 csp1 hpp1 hzp1 hcp1 hq => ?_)
    obtain ⟨vq, rfl, hrq⟩ := hq; have hrql := hrq.leI
    refine WL.pure rfl rfl rfl ((by first | exact PV.indexAddr hpp1 rfl rfl T.sl25 | exact PV.indexAddr hpp1 rfl (by rw [← hzp1]; rfl) T.sl25)) ?_
    refine WL.pure rfl rfl rfl ((by first | exact PV.load0 T.na28 rfl (by first | exact Cells.up (by assumption) hB | exact Bx.cells (by assumption) | assumption) (Ext.refl _) rfl | exact PV.load1 T.na28 rfl (by first | exact Cells.up (by assumption) hB | exact Bx.cells (by assumption) | assumption) (Ext.refl _) rfl)) ?_
    refine WL.pure rfl rfl rfl (PV.assign rfl) ?_
    refine WL.nilS ?_
    refine CW.seq ?_
    refine CW.reg ?_
    refine WL.pure rfl rfl rfl ((by first | exact PV.loadA T.ag33 rfl (by first | exact Cells.up (by assumption) hB | exact Bx.cells (by assumption) | assumption) (Ext.refl _) rfl | exact PV.loadP (ds := [_, _, _]) T.ag33 rfl (by first | exact Cells.up (by assumption) hB | exact Bx.cells (by assumption) | assumption) (Ext.refl _) rfl rfl)) ?_
    refine WL.pure rfl rfl rfl (PV.move rfl) ?_
    refine WL.op rfl (OpK.callR rfl T.cf26 rfl (c_impl_ParseCost (by first | assumption | exact Rd.up (by assumption) hB | exact Osl.rd (by assumption) | exact Osn.rdR (by assumption) | exact NL.rd (by assumption) | exact rdII (by assumption) (by assumption) | exact Inn.rd (by assumption) (by omega)) (by first | assumption | exact Rd.up (by assumption) hB | exact Osl.rd (by assumption) | exact Osn.rdR (by assumption) | exact NL.rd (by assumption) | exact rdII (by assumption) (by assumption) | exact Inn.rd (by assumption) (by omega))) (fun w5 hXw5 => ?_))
    have hB := hB.trans hXw5
    have hb1 := hb1.up hXw5
    have ho3 := ho3.up hXw5
    have hU0 := hU0.ext hXw5
    refine WL.pure rfl rfl rfl (PV.move rfl) ?_
    refine WL.pure rfl rfl rfl (PV.extract rfl rfl) ?_
    refine WL.pure rfl rfl rfl (PV.extract rfl rfl) ?_
    refine WL.pure rfl rfl rfl (PV.assign rfl) ?_
    refine WL.pure rfl rfl rfl (PV.assign rfl) ?_
    refine WL.nilS ?_
    refine CW.seq ?_
    refine CW.seq ?_
    refine CW.reg ?_
    refine WL.pure rfl rfl rfl (PV.move rfl) ?_
    refine WL.pure rfl rfl rfl (PV.not rfl) ?_
    refine WL.nilS ?_
    refine CW.cond rfl (fun hc5 => ?_) (fun hc5 => ?_)
    · skip
      try simp only [decide_eq_true_eq, decide_eq_false_iff_not, Bool.not_eq_true', Bool.not_eq_false', Bool.not_eq_eq_eq_not, Bool.not_true, Bool.not_false, Int.not_lt, Int.not_le, Classical.not_not, beq_iff_eq, beq_eq_false_iff_ne] at hc5
      refine CW.seq ?_
      refine CW.reg ?_
      refine WL.pure rfl rfl rfl (PV.assign rfl) ?_
      refine WL.pure rfl rfl rfl (PV.assign rfl) ?_
      refine WL.nilS ?_
      refine CW.ret ?_
      refine RQ.then ?_
      refine RQ.block ?_
      refine RQ.then ?_
      refine RQ.then ?_
      refine RQ.block ?_
      refine RQ.then ?_
      refine RQ.r2 rfl rfl ?_
      refine ⟨hB, (.slice none 0 0), none, ?_, osE (Osl.nil _ _) ?_, Lo.nl _⟩
      · skip
        first | exact tE2 rfl (bE (by first | exact ps_n1 (by assumption) | exact ps_n2 (by omega) | exact ps_n3 (by omega) | exact ps_n4 (k := k) (by omega) (by assumption))) | exact tE2 rfl (bE (ps_y (by assumption) (by omega) (by omega) (fun j h => he j (by omega))))
      · skip
        first | (have hS9 : false = (psB a0 a1 xa2 wss wk) := (by first | exact ps_n1 (by assumption) | exact ps_n2 (by omega) | exact ps_n3 (by omega) | exact ps_n4 (k := k) (by omega) (by assumption)); rw [← hS9]; rfl) | (have hS9 : true = (psB a0 a1 xa2 wss wk) := (ps_y (by assumption) (by omega) (by omega) (fun j h => he j (by omega))); rw [onT_yes hS9.symm, List.take_of_length_le (by omega)])
    try simp only [decide_eq_true_eq, decide_eq_false_iff_not, Bool.not_eq_true', Bool.not_eq_false', Bool.not_eq_eq_eq_not, Bool.not_true, Bool.not_false, Int.not_lt, Int.not_le, Classical.not_not, beq_iff_eq, beq_eq_false_iff_ne] at hc5
    refine CW.skipS ?_
    refine CW.reg ?_
    refine WL.pure rfl rfl rfl (PV.move rfl) ?_
    refine WL.pure rfl rfl rfl (PV.move rfl) ?_
    refine WL.op rfl (OpK.buildS VI (os := [.tmp 42]) [_] rfl T.sl28 rfl rfl T.zv2 rfl (by intro z hz; first | rfl | (simp only [List.mem_cons, List.not_mem_nil, or_false] at hz; subst hz; exact (by first | exact Rd.cells1 (by assumption) | exact Osl.cells1 (by assumption) | exact Osn.cells1 (by assumption) | exact Rd.cells1 (NL.rd (by assumption)) | exact Inn.cell1 (by assumption) (by omega) | rfl))) rfl (fun v4 g4 w6 hXw6 ho4 hge4 => ?_))
    have hl4 := Lo.new hB hge4
    have hd1_4 := Dj.new hb1.ltO hge4
    have hd3_4 := Dj.new ho3.ltO hge4
    have hk0_4 := OkN.new hU0 hge4
    have hg0_4 := OgR.new hU0.size hge4
    have hB := hB.trans hXw6
    have hb1 := hb1.up hXw6
    have ho3 := ho3.up hXw6
    have hU0 := hU0.ext hXw6
    refine WL.op rfl (OpK.appendS (f := VI) rfl T.sl28 T.zv2 rfl rfl ho3 rfl (Osl.src ho4 (fun _ => rfl)) (by first | (simp only [List.length_cons, List.length_nil]; omega) | (simp_all; omega)) (fun v5 og5 w7 hXw7 ho5 hap5 => ?_))
    have hl5 := Lo.app hl3 hB hap5
    have hd1_5 := Dj.app hd1_3 hb1.ltO hap5
    have hd4_5 := Dj.app (Dj.symm hd3_4) ho4.ltO hap5
    have hk0_5 := OkN.app hU0 hk0_3 hap5
    have hg0_5 := OgR.app hg0_3 hU0.size hap5
    have hB := hB.updL hXw7 hl3
    have hb1 := hb1.updD hXw7 hd1_3
    have ho4 := ho4.updD hXw7 (Dj.symm hd3_4)
    have hU0 := hU0.step hXw7 hk0_3
    refine WL.pure rfl rfl rfl (PV.assign rfl) ?_
    refine WL.nil ?_
    refine NQ.block ?_
    refine NQ.then ?_
    refine CW.reg ?_
    refine WL.pure rfl rfl rfl (PV.add rfl rfl (by constructor <;> omega)) ?_
    refine WL.pure rfl rfl rfl (PV.move rfl) ?_
    refine WL.nil ?_
    refine NQ.next (ρ := [(8, _), (29, _)]) ⟨rfl, rfl, rfl, rfl, rfl, trivial⟩ ?_
    exact ⟨_, ⟨v5, og5, k + 1, rfl, rfl, hU0, osE ho5 (by first | exact mapI_put (by omega) rfl | exact mapI_put (by omega) (onI_yes (by assumption))), (by first | exact hg0_5 | exact OgR.weak hg0_5), (by first | omega | assumption | (simp_all; done) | (simp_all; omega)), (by intro j h; rcases Nat.lt_succ_iff_lt_or_eq.1 h with h | rfl; exact he j h; assumption)⟩, by omega⟩
  try simp only [decide_eq_true_eq, decide_eq_false_iff_not, Bool.not_eq_true', Bool.not_eq_false', Bool.not_eq_eq_eq_not, Bool.not_true, Bool.not_false, Int.not_lt, Int.not_le, Classical.not_not, beq_iff_eq, beq_eq_false_iff_ne] at hc4
  refine CW.exit ?_
  refine XQ.then ?_
  refine XQ.then ?_
  refine XQ.here ?_
  refine NQ.then ?_
  refine CW.seq ?_
  refine CW.reg ?_
  refine WL.pure rfl rfl rfl (PV.move rfl) ?_
  refine WL.pure rfl rfl rfl (PV.assign rfl) ?_
  refine WL.pure rfl rfl rfl (PV.assign rfl) ?_
  refine WL.nilS ?_
  refine CW.ret ?_
  refine RQ.r2 rfl rfl ?_
  refine ⟨hB, v3, og3, ?_, osE ho3 ?_, hl3⟩
  · skip
    first | exact tE2 rfl (bE (by first | exact ps_n1 (by assumption) | exact ps_n2 (by omega) | exact ps_n3 (by omega) | exact ps_n4 (k := k) (by omega) (by assumption))) | exact tE2 rfl (bE (ps_y (by assumption) (by omega) (by omega) (fun j h => he j (by omega))))
  · skip
    first | (have hS9 : false = (psB a0 a1 xa2 wss wk) := (by first | exact ps_n1 (by assumption) | exact ps_n2 (by omega) | exact ps_n3 (by omega) | exact ps_n4 (k := k) (by omega) (by assumption)); rw [← hS9]; rfl) | (have hS9 : true = (psB a0 a1 xa2 wss wk) := (ps_y (by assumption) (by omega) (by omega) (fun j h => he j (by omega))); rw [onT_yes hS9.symm, List.take_of_length_le (by omega)])
theorem c_laws_eqInt64S {w : World} {va vb : Value} {xs ys : List Int} (ha : Rd EI w va xs) (hb : Rd EI w vb ys) : Calls Try.prog 15 #[va, vb] w (Ret1 (RQt (.bool (decide (xs = ys))) w)) := by
  have hB : Ext w w := Ext.refl w
  have hla := ha.leI; have hlb := hb.leI
  refine callsOf (vs := [_, _]) Try.func15 rfl Try.ntmps15 rfl rfl ?_
  refine CW.seq ?_
  refine CW.reg ?_
  refine WL.pure rfl rfl rfl (PV.assign rfl) ?_
  refine WL.nilS ?_
  refine CW.seq ?_
  refine CW.seq ?_
  refine CW.reg ?_
  refine WL.pure rfl rfl rfl (PV.move rfl) ?_
  refine WL.pure rfl rfl rfl ((by first | exact PV.len rfl (by assumption) T.sl28 | exact PV.lenOs rfl (by assumption) T.sl28 | exact PV.len rfl (NL.rd (by assumption)) T.sl28 | exact PV.len rfl (Inn.rd (by assumption) (by omega)) T.sl28)) ?_
  refine WL.pure rfl rfl rfl (PV.move rfl) ?_
  refine WL.pure rfl rfl rfl ((by first | exact PV.len rfl (by assumption) T.sl28 | exact PV.lenOs rfl (by assumption) T.sl28 | exact PV.len rfl (NL.rd (by assumption)) T.sl28 | exact PV.len rfl (Inn.rd (by assumption) (by omega)) T.sl28)) ?_
  refine WL.pure rfl rfl rfl (PV.neq rfl rfl) ?_
  refine WL.nilS ?_
  refine CW.cond rfl (fun hc1 => ?_) (fun hc1 => ?_)
  · skip
    try simp only [decide_eq_true_eq, decide_eq_false_iff_not, Bool.not_eq_true', Bool.not_eq_false', Bool.not_eq_eq_eq_not, Bool.not_true, Bool.not_false, Int.not_lt, Int.not_le, Classical.not_not, beq_iff_eq, beq_eq_false_iff_ne] at hc1
    refine CW.seq ?_
    refine CW.reg ?_
    refine WL.pure rfl rfl rfl (PV.assign rfl) ?_
    refine WL.nilS ?_
    refine CW.ret ?_
    refine RQ.then ?_
    refine RQ.r1 rfl ?_
    refine ⟨?_, hB⟩
    first | exact bT (eq_of_takes (by omega) (by omega) he) | exact bF (by rintro rfl; simp_all)
  try simp only [decide_eq_true_eq, decide_eq_false_iff_not, Bool.not_eq_true', Bool.not_eq_false', Bool.not_eq_eq_eq_not, Bool.not_true, Bool.not_false, Int.not_lt, Int.not_le, Classical.not_not, beq_iff_eq, beq_eq_false_iff_ne] at hc1
  refine CW.skipS ?_
  refine CW.seq ?_
  refine CW.seq ?_
  refine CW.reg ?_
  refine WL.pure rfl rfl rfl (PV.assign rfl) ?_
  refine WL.nilS ?_
  refine CW.block ?_
  refine CW.loop (σk := [(0, _), (1, _)]) (fun ρ wz m => ∃ (k : Nat), ρ = [(5, .int .i64 (k : Nat))] ∧ m = xs.length - k ∧ UpdL [] w wz ∧ (k ≤ xs.length) ∧ (xs.take k = ys.take k)) (ρ₀ := [(5, _)]) (m₀ := _) ⟨rfl, rfl, rfl, trivial⟩ ⟨0, rfl, rfl, (UpdL.refl _ _), (by first | omega | rfl | (simp; done) | assumption | (simp_all; done)), (by first | omega | rfl | (simp; done) | assumption | (simp_all; done))⟩ ?_
  rintro _ wl1 _ ⟨k, rfl, rfl, hU0, hk, he⟩
  have hB := hB.loop hU0 trivial
  refine CW.seq ?_
  refine CW.seq ?_
  refine CW.reg ?_
  refine WL.pure rfl rfl rfl (PV.move rfl) ?_
  refine WL.pure rfl rfl rfl (PV.move rfl) ?_
  refine WL.pure rfl rfl rfl ((by first | exact PV.len rfl (by assumption) T.sl28 | exact PV.lenOs rfl (by assumption) T.sl28 | exact PV.len rfl (NL.rd (by assumption)) T.sl28 | exact PV.len rfl (Inn.rd (by assumption) (by omega)) T.sl28)) ?_
  refine WL.pure rfl rfl rfl (PV.lss rfl rfl) ?_
  refine WL.nilS ?_
  refine CW.cond rfl (fun hc2 => ?_) (fun hc2 => ?_)
  · skip
    try simp only [decide_eq_true_eq, decide_eq_false_iff_not, Bool.not_eq_true', Bool.not_eq_false', Bool.not_eq_eq_eq_not, Bool.not_true, Bool.not_false, Int.not_lt, Int.not_le, Classical.not_not, beq_iff_eq, beq_eq_false_iff_ne] at hc2
    refine CW.skipS ?_
    refine CW.seq ?_
    refine CW.block ?_
    refine CW.seq ?_
    refine CW.draw T.mixed (by kernel_rfl) (fun _ _ _ _ _ h => h) (fun w8 w9 => Upd none w8 w9) 9 (.take 0 (.take 1 (.take 2 (.take 3 (.take 4 (.take 5 (.take 6 (.take 7 (.take 8 .done))))))))) (by kernel_rfl) (fun w1 hXd => ?_)
    have hB := hB.trans hXd
    have hU0 := hU0.ext hXd
    have hBr := hB
    have hS : Upd none w1 w1 := Ext.toUpd (Ext.refl _)
    refine HP.take rfl rfl rfl rfl hS (fun wS hS1 => PV.move rfl) ?_
    refine HP.take rfl rfl rfl rfl hS (fun wS hS1 => PV.move rfl) ?_
    first
      | refine HP.at (x := .tmp 17) (y := .tmp 18) (E := EI) (0) rfl rfl (by first | assumption | exact Inn.rd (by assumption) (by omega)) (by first | omega | (simp only [List.length_set]; omega) | (simp only [List.length_append, List.length_take, List.length_replicate, List.length_drop]; omega)) (fun p1 csp1 hpp1 hcp1 hq => ?_)
      | refine HP.atZ (x := .tmp 17) (y := .tmp 18) (E := EI) (0) rfl rfl (by first | assumption | exact Inn.rd (by assumption) (by omega)) (by first | omega | (simp only [List.length_set]; omega) | (simp only [List.length_append, List.length_take, List.length_replicate, List.length_drop]; omega)) (fun p1 csp1 hpp1 hzp1 hcp1 hq => ?_)
    cases hq
    refine HP.take rfl rfl rfl rfl hS (fun wS hS1 => (by first | exact PV.indexAddr hpp1 rfl rfl T.sl28 | exact PV.indexAddr hpp1 rfl (by rw [← hzp1]; rfl) T.sl28)) ?_
    refine HP.take rfl rfl rfl rfl hS (fun wS hS1 => (by first | exact PV.load0 T.na2 rfl (by first | exact Cells.up (by assumption) (hBr.trans hS1) | exact Bx.cells (Bx.updD (by assumption) hS1 (Dj.nlR _)) | exact Cells.upd (by assumption) hS1 (by simp)) (Ext.refl _) rfl | exact PV.load1 T.na2 rfl (by first | exact Cells.up (by assumption) (hBr.trans hS1) | exact Bx.cells (Bx.updD (by assumption) hS1 (Dj.nlR _)) | exact Cells.upd (by assumption) hS1 (by simp)) (Ext.refl _) rfl)) ?_
    refine HP.take rfl rfl rfl rfl hS (fun wS hS1 => PV.move rfl) ?_
    refine HP.take rfl rfl rfl rfl hS (fun wS hS1 => PV.move rfl) ?_
    first
      | refine HP.at (x := .tmp 21) (y := .tmp 22) (E := EI) (0) rfl rfl (by first | assumption | exact Inn.rd (by assumption) (by omega)) (by first | omega | (simp only [List.length_set]; omega) | (simp only [List.length_append, List.length_take, List.length_replicate, List.length_drop]; omega)) (fun p2 csp2 hpp2 hcp2 hq => ?_)
      | refine HP.atZ (x := .tmp 21) (y := .tmp 22) (E := EI) (0) rfl rfl (by first | assumption | exact Inn.rd (by assumption) (by omega)) (by first | omega | (simp only [List.length_set]; omega) | (simp only [List.length_append, List.length_take, List.length_replicate, List.length_drop]; omega)) (fun p2 csp2 hpp2 hzp2 hcp2 hq => ?_)
    cases hq
    refine HP.take rfl rfl rfl rfl hS (fun wS hS1 => (by first | exact PV.indexAddr hpp2 rfl rfl T.sl28 | exact PV.indexAddr hpp2 rfl (by rw [← hzp2]; rfl) T.sl28)) ?_
    refine HP.take rfl rfl rfl rfl hS (fun wS hS1 => (by first | exact PV.load0 T.na2 rfl (by first | exact Cells.up (by assumption) (hBr.trans hS1) | exact Bx.cells (Bx.updD (by assumption) hS1 (Dj.nlR _)) | exact Cells.upd (by assumption) hS1 (by simp)) (Ext.refl _) rfl | exact PV.load1 T.na2 rfl (by first | exact Cells.up (by assumption) (hBr.trans hS1) | exact Bx.cells (Bx.updD (by assumption) hS1 (Dj.nlR _)) | exact Cells.upd (by assumption) hS1 (by simp)) (Ext.refl _) rfl)) ?_
    refine HP.take rfl rfl rfl rfl hS (fun wS hS1 => PV.neq rfl rfl) ?_
    refine HP.doneS ?_
    refine CW.cond rfl (fun hc3 => ?_) (fun hc3 => ?_)
    · skip
      try simp only [decide_eq_true_eq, decide_eq_false_iff_not, Bool.not_eq_true', Bool.not_eq_false', Bool.not_eq_eq_eq_not, Bool.not_true, Bool.not_false, Int.not_lt, Int.not_le, Classical.not_not, beq_iff_eq, beq_eq_false_iff_ne] at hc3
      refine CW.seq ?_
      refine CW.reg ?_
      refine WL.pure rfl rfl rfl (PV.assign rfl) ?_
      refine WL.nilS ?_
      refine CW.ret ?_
      refine RQ.block ?_
      refine RQ.then ?_
      refine RQ.then ?_
      refine RQ.block ?_
      refine RQ.then ?_
      refine RQ.r1 rfl ?_
      refine ⟨?_, hB⟩
      first | exact bT (eq_of_takes (by omega) (by omega) he) | exact bF (by rintro rfl; simp_all)
    try simp only [decide_eq_true_eq, decide_eq_false_iff_not, Bool.not_eq_true', Bool.not_eq_false', Bool.not_eq_eq_eq_not, Bool.not_true, Bool.not_false, Int.not_lt, Int.not_le, Classical.not_not, beq_iff_eq, beq_eq_false_iff_ne] at hc3
    refine CW.skip ?_
    refine NQ.block ?_
    refine NQ.then ?_
    refine CW.reg ?_
    refine WL.pure rfl rfl rfl (PV.move rfl) ?_
    refine WL.pure rfl rfl rfl (PV.add rfl rfl (by constructor <;> omega)) ?_
    refine WL.pure rfl rfl rfl (PV.assign rfl) ?_
    refine WL.nil ?_
    refine NQ.next (ρ := [(5, _)]) ⟨rfl, rfl, rfl, trivial⟩ ?_
    exact ⟨_, ⟨k + 1, rfl, rfl, hU0, (by first | omega | assumption | (simp_all; done) | (simp_all; omega)), (by exact take_eq_succ (by omega) (by omega) he (by assumption))⟩, by omega⟩
  try simp only [decide_eq_true_eq, decide_eq_false_iff_not, Bool.not_eq_true', Bool.not_eq_false', Bool.not_eq_eq_eq_not, Bool.not_true, Bool.not_false, Int.not_lt, Int.not_le, Classical.not_not, beq_iff_eq, beq_eq_false_iff_ne] at hc2
  refine CW.exit ?_
  refine XQ.then ?_
  refine XQ.then ?_
  refine XQ.here ?_
  refine NQ.then ?_
  refine CW.seq ?_
  refine CW.reg ?_
  refine WL.pure rfl rfl rfl (PV.assign rfl) ?_
  refine WL.nilS ?_
  refine CW.ret ?_
  refine RQ.r1 rfl ?_
  refine ⟨?_, hB⟩
  first | exact bT (eq_of_takes (by omega) (by omega) he) | exact bF (by rintro rfl; simp_all)
theorem c_laws_eqRule {w : World} {a0 a1 a2 a3 b0 b1 b2 b3 : Int} : Calls Try.prog 193 #[.agg #[.int .i64 a0, .int .i64 a1, .int .i64 a2, .int .i64 a3], .agg #[.int .i64 b0, .int .i64 b1, .int .i64 b2, .int .i64 b3]] w (Ret1 (RQt (.bool (decide (a0 = b0 ∧ a1 = b1 ∧ a2 = b2 ∧ a3 = b3))) w)) := by
  have hB : Ext w w := Ext.refl w
  refine callsOf (vs := [_, _]) Try.func193 rfl Try.ntmps193 rfl rfl ?_
  refine CW.seq ?_
  refine CW.reg ?_
  refine WL.op rfl (OpK.box rfl rfl (by first | exact Rd.cells1 (by assumption) | exact Osl.cells1 (by assumption) | exact Osn.cells1 (by assumption) | exact Rd.cells1 (NL.rd (by assumption)) | exact Inn.cell1 (by assumption) (by omega) | rfl) (fun b1 w1 hXw1 hb1 hge1 => ?_))
  have hl1 := Lo.new hB hge1
  have hB := hB.trans hXw1
  refine WL.op rfl (OpK.box rfl rfl (by first | exact Rd.cells1 (by assumption) | exact Osl.cells1 (by assumption) | exact Osn.cells1 (by assumption) | exact Rd.cells1 (NL.rd (by assumption)) | exact Inn.cell1 (by assumption) (by omega) | rfl) (fun b2 w2 hXw2 hb2 hge2 => ?_))
  have hl2 := Lo.new hB hge2
  have hd1_2 := Dj.new hb1.ltO hge2
  have hB := hB.trans hXw2
  have hb1 := hb1.up hXw2
  refine WL.pure rfl rfl rfl (PV.assign rfl) ?_
  refine WL.nilS ?_
  refine CW.seq ?_
  refine CW.seq ?_
  refine CW.reg ?_
  refine WL.pure rfl rfl rfl ((by first | exact PV.fieldAddr T.fl56_0 rfl (by first | assumption | exact Bx.cells (by assumption)) | exact PV.fieldAddrP T.fl56_0 rfl rfl)) ?_
  refine WL.pure rfl rfl rfl ((by first | exact PV.load0 T.na2 rfl (by first | exact Cells.up (by assumption) hB | exact Bx.cells (by assumption) | assumption) (Ext.refl _) rfl | exact PV.load1 T.na2 rfl (by first | exact Cells.up (by assumption) hB | exact Bx.cells (by assumption) | assumption) (Ext.refl _) rfl)) ?_
  refine WL.pure rfl rfl rfl ((by first | exact PV.fieldAddr T.fl56_0 rfl (by first | assumption | exact Bx.cells (by assumption)) | exact PV.fieldAddrP T.fl56_0 rfl rfl)) ?_
  refine WL.pure rfl rfl rfl ((by first | exact PV.load0 T.na2 rfl (by first | exact Cells.up (by assumption) hB | exact Bx.cells (by assumption) | assumption) (Ext.refl _) rfl | exact PV.load1 T.na2 rfl (by first | exact Cells.up (by assumption) hB | exact Bx.cells (by assumption) | assumption) (Ext.refl _) rfl)) ?_
  refine WL.pure rfl rfl rfl (PV.neq rfl rfl) ?_
  refine WL.nilS ?_
  refine CW.cond rfl (fun hc1 => ?_) (fun hc1 => ?_)
  · skip
    try simp only [decide_eq_true_eq, decide_eq_false_iff_not, Bool.not_eq_true', Bool.not_eq_false', Bool.not_eq_eq_eq_not, Bool.not_true, Bool.not_false, Int.not_lt, Int.not_le, Classical.not_not, beq_iff_eq, beq_eq_false_iff_ne] at hc1
    refine CW.seq ?_
    refine CW.reg ?_
    refine WL.pure rfl rfl rfl (PV.assign rfl) ?_
    refine WL.nilS ?_
    refine CW.ret ?_
    refine RQ.then ?_
    refine RQ.r1 rfl ?_
    refine ⟨?_, hB⟩
    first | rfl | exact bT (by omega) | exact bF (by omega) | exact bD (by omega) | exact iE (by omega) | (simp_all; done) | (simp_all; omega) | (simp_all; intros; omega)
  try simp only [decide_eq_true_eq, decide_eq_false_iff_not, Bool.not_eq_true', Bool.not_eq_false', Bool.not_eq_eq_eq_not, Bool.not_true, Bool.not_false, Int.not_lt, Int.not_le, Classical.not_not, beq_iff_eq, beq_eq_false_iff_ne] at hc1
  refine CW.skipS ?_
  refine CW.seq ?_
  refine CW.seq ?_
  refine CW.reg ?_
  refine WL.pure rfl rfl rfl ((by first | exact PV.fieldAddr T.fl56_1 rfl (by first | assumption | exact Bx.cells (by assumption)) | exact PV.fieldAddrP T.fl56_1 rfl rfl)) ?_
  refine WL.pure rfl rfl rfl ((by first | exact PV.load0 T.na2 rfl (by first | exact Cells.up (by assumption) hB | exact Bx.cells (by assumption) | assumption) (Ext.refl _) rfl | exact PV.load1 T.na2 rfl (by first | exact Cells.up (by assumption) hB | exact Bx.cells (by assumption) | assumption) (Ext.refl _) rfl)) ?_
  refine WL.pure rfl rfl rfl ((by first | exact PV.fieldAddr T.fl56_1 rfl (by first | assumption | exact Bx.cells (by assumption)) | exact PV.fieldAddrP T.fl56_1 rfl rfl)) ?_
  refine WL.pure rfl rfl rfl ((by first | exact PV.load0 T.na2 rfl (by first | exact Cells.up (by assumption) hB | exact Bx.cells (by assumption) | assumption) (Ext.refl _) rfl | exact PV.load1 T.na2 rfl (by first | exact Cells.up (by assumption) hB | exact Bx.cells (by assumption) | assumption) (Ext.refl _) rfl)) ?_
  refine WL.pure rfl rfl rfl (PV.neq rfl rfl) ?_
  refine WL.nilS ?_
  refine CW.cond rfl (fun hc2 => ?_) (fun hc2 => ?_)
  · skip
    try simp only [decide_eq_true_eq, decide_eq_false_iff_not, Bool.not_eq_true', Bool.not_eq_false', Bool.not_eq_eq_eq_not, Bool.not_true, Bool.not_false, Int.not_lt, Int.not_le, Classical.not_not, beq_iff_eq, beq_eq_false_iff_ne] at hc2
    refine CW.seq ?_
    refine CW.reg ?_
    refine WL.pure rfl rfl rfl (PV.assign rfl) ?_
    refine WL.nilS ?_
    refine CW.ret ?_
    refine RQ.then ?_
    refine RQ.r1 rfl ?_
    refine ⟨?_, hB⟩
    first | rfl | exact bT (by omega) | exact bF (by omega) | exact bD (by omega) | exact iE (by omega) | (simp_all; done) | (simp_all; omega) | (simp_all; intros; omega)
  try simp only [decide_eq_true_eq, decide_eq_false_iff_not, Bool.not_eq_true', Bool.not_eq_false', Bool.not_eq_eq_eq_not, Bool.not_true, Bool.not_false, Int.not_lt, Int.not_le, Classical.not_not, beq_iff_eq, beq_eq_false_iff_ne] at hc2
  refine CW.skipS ?_
  refine CW.seq ?_
  refine CW.seq ?_
  refine CW.reg ?_
  refine WL.pure rfl rfl rfl ((by first | exact PV.fieldAddr T.fl56_2 rfl (by first | assumption | exact Bx.cells (by assumption)) | exact PV.fieldAddrP T.fl56_2 rfl rfl)) ?_
  refine WL.pure rfl rfl rfl ((by first | exact PV.load0 T.na2 rfl (by first | exact Cells.up (by assumption) hB | exact Bx.cells (by assumption) | assumption) (Ext.refl _) rfl | exact PV.load1 T.na2 rfl (by first | exact Cells.up (by assumption) hB | exact Bx.cells (by assumption) | assumption) (Ext.refl _) rfl)) ?_
  refine WL.pure rfl rfl rfl ((by first | exact PV.fieldAddr T.fl56_2 rfl (by first | assumption | exact Bx.cells (by assumption)) | exact PV.fieldAddrP T.fl56_2 rfl rfl)) ?_
  refine WL.pure rfl rfl rfl ((by first | exact PV.load0 T.na2 rfl (by first | exact Cells.up (by assumption) hB | exact Bx.cells (by assumption) | assumption) (Ext.refl _) rfl | exact PV.load1 T.na2 rfl (by first | exact Cells.up (by assumption) hB | exact Bx.cells (by assumption) | assumption) (Ext.refl _) rfl)) ?_
  refine WL.pure rfl rfl rfl (PV.neq rfl rfl) ?_
  refine WL.nilS ?_
  refine CW.cond rfl (fun hc3 => ?_) (fun hc3 => ?_)
  · skip
    try simp only [decide_eq_true_eq, decide_eq_false_iff_not, Bool.not_eq_true', Bool.not_eq_false', Bool.not_eq_eq_eq_not, Bool.not_true, Bool.not_false, Int.not_lt, Int.not_le, Classical.not_not, beq_iff_eq, beq_eq_false_iff_ne] at hc3
    refine CW.seq ?_
    refine CW.reg ?_
    refine WL.pure rfl rfl rfl (PV.assign rfl) ?_
    refine WL.nilS ?_
    refine CW.ret ?_
    refine RQ.then ?_
    refine RQ.r1 rfl ?_
    refine ⟨?_, hB⟩
    first | rfl | exact bT (by omega) | exact bF (by omega) | exact bD (by omega) | exact iE (by omega) | (simp_all; done) | (simp_all; omega) | (simp_all; intros; omega)
  try simp only [decide_eq_true_eq, decide_eq_false_iff_not, Bool.not_eq_true', Bool.not_eq_false', Bool.not_eq_eq_eq_not, Bool.not_true, Bool.not_false, Int.not_lt, Int.not_le, Classical.not_not, beq_iff_eq, beq_eq_false_iff_ne] at hc3
  refine CW.skipS ?_
  refine CW.seq ?_
  refine CW.seq ?_
  refine CW.reg ?_
  refine WL.pure rfl rfl rfl ((by first | exact PV.fieldAddr T.fl56_3 rfl (by first | assumption | exact Bx.cells (by assumption)) | exact PV.fieldAddrP T.fl56_3 rfl rfl)) ?_
  refine WL.pure rfl rfl rfl ((by first | exact PV.load0 T.na2 rfl (by first | exact Cells.up (by assumption) hB | exact Bx.cells (by assumption) | assumption) (Ext.refl _) rfl | exact PV.load1 T.na2 rfl (by first | exact Cells.up (by assumption) hB | exact Bx.cells (by assumption) | assumption) (Ext.refl _) rfl)) ?_
  refine WL.pure rfl rfl rfl ((by first | exact PV.fieldAddr T.fl56_3 rfl (by first | assumption | exact Bx.cells (by assumption)) | exact PV.fieldAddrP T.fl56_3 rfl rfl)) ?_
  refine WL.pure rfl rfl rfl ((by first | exact PV.load0 T.na2 rfl (by first | exact Cells.up (by assumption) hB | exact Bx.cells (by assumption) | assumption) (Ext.refl _) rfl | exact PV.load1 T.na2 rfl (by first | exact Cells.up (by assumption) hB | exact Bx.cells (by assumption) | assumption) (Ext.refl _) rfl)) ?_
  refine WL.pure rfl rfl rfl (PV.neq rfl rfl) ?_
  refine WL.nilS ?_
  refine CW.cond rfl (fun hc4 => ?_) (fun hc4 => ?_)
  · skip
    try simp only [decide_eq_true_eq, decide_eq_false_iff_not, Bool.not_eq_true', Bool.not_eq_false', Bool.not_eq_eq_eq_not, Bool.not_true, Bool.not_false, Int.not_lt, Int.not_le, Classical.not_not, beq_iff_eq, beq_eq_false_iff_ne] at hc4
    refine CW.seq ?_
    refine CW.reg ?_
    refine WL.pure rfl rfl rfl (PV.assign rfl) ?_
    refine WL.nilS ?_
    refine CW.ret ?_
    refine RQ.then ?_
    refine RQ.r1 rfl ?_
    refine ⟨?_, hB⟩
    first | rfl | exact bT (by omega) | exact bF (by omega) | exact bD (by omega) | exact iE (by omega) | (simp_all; done) | (simp_all; omega) | (simp_all; intros; omega)
  try simp only [decide_eq_true_eq, decide_eq_false_iff_not, Bool.not_eq_true', Bool.not_eq_false', Bool.not_eq_eq_eq_not, Bool.not_true, Bool.not_false, Int.not_lt, Int.not_le, Classical.not_not, beq_iff_eq, beq_eq_false_iff_ne] at hc4
  refine CW.skipS ?_
  refine CW.seq ?_
  refine CW.reg ?_
  refine WL.pure rfl rfl rfl (PV.assign rfl) ?_
  refine WL.nilS ?_
  refine CW.ret ?_
  refine RQ.r1 rfl ?_
  refine ⟨?_, hB⟩
  first | rfl | exact bT (by omega) | exact bF (by omega) | exact bD (by omega) | exact iE (by omega) | (simp_all; done) | (simp_all; omega) | (simp_all; intros; omega)
theorem c_laws_eqRuleS {w : World} {va vb : Value} {xs ys : List R4} (ha : Rd ER w va xs) (hb : Rd ER w vb ys) : Calls Try.prog 105 #[va, vb] w (Ret1 (RQt (.bool (decide (xs = ys))) w)) := by
  have hB : Ext w w := Ext.refl w
  have hla := ha.leI; have hlb := hb.leI
  refine callsOf (vs := [_, _]) Try.func105 rfl Try.ntmps105 rfl rfl ?_
  refine CW.seq ?_
  refine CW.reg ?_
  refine WL.pure rfl rfl rfl (PV.assign rfl) ?_
  refine WL.nilS ?_
  refine CW.seq ?_
  refine CW.seq ?_
  refine CW.reg ?_
  refine WL.pure rfl rfl rfl (PV.move rfl) ?_
  refine WL.pure rfl rfl rfl ((by first | exact PV.len rfl (by assumption) T.sl31 | exact PV.lenOs rfl (by assumption) T.sl31 | exact PV.len rfl (NL.rd (by assumption)) T.sl31 | exact PV.len rfl (Inn.rd (by assumption) (by omega)) T.sl31)) ?_
  refine WL.pure rfl rfl rfl (PV.move rfl) ?_
  refine WL.pure rfl rfl rfl ((by first | exact PV.len rfl (by assumption) T.sl31 | exact PV.lenOs rfl (by assumption) T.sl31 | exact PV.len rfl (NL.rd (by assumption)) T.sl31 | exact PV.len rfl (Inn.rd (by assumption) (by omega)) T.sl31)) ?_
  refine WL.pure rfl rfl rfl (PV.neq rfl rfl) ?_
  refine WL.nilS ?_
  refine CW.cond rfl (fun hc1 => ?_) (fun hc1 => ?_)
  · skip
    try simp only [decide_eq_true_eq, decide_eq_false_iff_not, Bool.not_eq_true', Bool.not_eq_false', Bool.not_eq_eq_eq_not, Bool.not_true, Bool.not_false, Int.not_lt, Int.not_le, Classical.not_not, beq_iff_eq, beq_eq_false_iff_ne] at hc1
    refine CW.seq ?_
    refine CW.reg ?_
    refine WL.pure rfl rfl rfl (PV.assign rfl) ?_
    refine WL.nilS ?_
    refine CW.ret ?_
    refine RQ.then ?_
    refine RQ.r1 rfl ?_
    refine ⟨?_, hB⟩
    first | exact bT (eq_of_takes (by omega) (by omega) he) | exact bF (by rintro rfl; first | omega | exact (r4_no (by assumption)).elim)
  try simp only [decide_eq_true_eq, decide_eq_false_iff_not, Bool.not_eq_true', Bool.not_eq_false', Bool.not_eq_eq_eq_not, Bool.not_true, Bool.not_false, Int.not_lt, Int.not_le, Classical.not_not, beq_iff_eq, beq_eq_false_iff_ne] at hc1
  refine CW.skipS ?_
  refine CW.seq ?_
  refine CW.seq ?_
  refine CW.reg ?_
  refine WL.pure rfl rfl rfl (PV.assign rfl) ?_
  refine WL.nilS ?_
  refine CW.block ?_
  refine CW.loop (σk := [(0, _), (1, _)]) (fun ρ wz m => ∃ (k : Nat), ρ = [(5, .int .i64 (k : Nat))] ∧ m = xs.length - k ∧ UpdL [] w wz ∧ (k ≤ xs.length) ∧ (xs.take k = ys.take k)) (ρ₀ := [(5, _)]) (m₀ := _) ⟨rfl, rfl, rfl, trivial⟩ ⟨0, rfl, rfl, (UpdL.refl _ _), (by first | omega | rfl | (simp; done) | assumption | (simp_all; done)), (by first | omega | rfl | (simp; done) | assumption | (simp_all; done))⟩ ?_
  rintro _ wl1 _ ⟨k, rfl, rfl, hU0, hk, he⟩
  have hB := hB.loop hU0 trivial
  refine CW.seq ?_
  refine CW.seq ?_
  refine CW.reg ?_
  refine WL.pure rfl rfl rfl (PV.move rfl) ?_
  refine WL.pure rfl rfl rfl (PV.move rfl) ?_
  refine WL.pure rfl rfl rfl ((by first | exact PV.len rfl (by assumption) T.sl31 | exact PV.lenOs rfl (by assumption) T.sl31 | exact PV.len rfl (NL.rd (by assumption)) T.sl31 | exact PV.len rfl (Inn.rd (by assumption) (by omega)) T.sl31)) ?_
  refine WL.pure rfl rfl rfl (PV.lss rfl rfl) ?_
  refine WL.nilS ?_
  refine CW.cond rfl (fun hc2 => ?_) (fun hc2 => ?_)
  · skip
    try simp only [decide_eq_true_eq, decide_eq_false_iff_not, Bool.not_eq_true', Bool.not_eq_false', Bool.not_eq_eq_eq_not, Bool.not_true, Bool.not_false, Int.not_lt, Int.not_le, Classical.not_not, beq_iff_eq, beq_eq_false_iff_ne] at hc2
    refine CW.skipS ?_
    refine CW.seq ?_
    refine CW.block ?_
    refine CW.seq ?_
    refine CW.draw T.mixed (by kernel_rfl) (fun _ _ _ _ _ h => h) (fun w8 w9 => Upd none w8 w9) 10 (.take 0 (.take 1 (.take 2 (.take 3 (.take 4 (.take 5 (.take 6 (.take 7 (.must 8 (.take 9 .done)))))))))) (by kernel_rfl) (fun w1 hXd => ?_)
    have hB := hB.trans hXd
    have hU0 := hU0.ext hXd
    have hBr := hB
    have hS : Upd none w1 w1 := Ext.toUpd (Ext.refl _)
    refine HP.take rfl rfl rfl rfl hS (fun wS hS1 => PV.move rfl) ?_
    refine HP.take rfl rfl rfl rfl hS (fun wS hS1 => PV.move rfl) ?_
    first
      | refine HP.at (x := .tmp 17) (y := .tmp 18) (E := ER) ((0, 0, 0, 0)) rfl rfl (by first | assumption | exact Inn.rd (by assumption) (by omega)) (by first | omega | (simp only [List.length_set]; omega) | (simp only [List.length_append, List.length_take, List.length_replicate, List.length_drop]; omega)) (fun p1 csp1 hpp1 hcp1 hq => ?_)
      | refine HP.atZ (x := .tmp 17) (y := .tmp 18) (E := ER) ((0, 0, 0, 0)) rfl rfl (by first | assumption | exact Inn.rd (by assumption) (by omega)) (by first | omega | (simp only [List.length_set]; omega) | (simp only [List.length_append, List.length_take, List.length_replicate, List.length_drop]; omega)) (fun p1 csp1 hpp1 hzp1 hcp1 hq => ?_)
    cases hq
    refine HP.take rfl rfl rfl rfl hS (fun wS hS1 => (by first | exact PV.indexAddr hpp1 rfl rfl T.sl31 | exact PV.indexAddr hpp1 rfl (by rw [← hzp1]; rfl) T.sl31)) ?_
    refine HP.take rfl rfl rfl rfl hS (fun wS hS1 => (by first | exact PV.loadA T.ag56 rfl (by first | exact Cells.up (by assumption) (hBr.trans hS1) | exact Bx.cells (Bx.updD (by assumption) hS1 (Dj.nlR _)) | exact Cells.upd (by assumption) hS1 (by simp)) (Ext.refl _) rfl | exact PV.loadP (ds := [_, _, _, _]) T.ag56 rfl (by first | exact Cells.up (by assumption) (hBr.trans hS1) | exact Bx.cells (Bx.updD (by assumption) hS1 (Dj.nlR _)) | exact Cells.upd (by assumption) hS1 (by simp)) (Ext.refl _) rfl rfl)) ?_
    refine HP.take rfl rfl rfl rfl hS (fun wS hS1 => PV.move rfl) ?_
    refine HP.take rfl rfl rfl rfl hS (fun wS hS1 => PV.move rfl) ?_
    first
      | refine HP.at (x := .tmp 21) (y := .tmp 22) (E := ER) ((0, 0, 0, 0)) rfl rfl (by first | assumption | exact Inn.rd (by assumption) (by omega)) (by first | omega | (simp only [List.length_set]; omega) | (simp only [List.length_append, List.length_take, List.length_replicate, List.length_drop]; omega)) (fun p2 csp2 hpp2 hcp2 hq => ?_)
      | refine HP.atZ (x := .tmp 21) (y := .tmp 22) (E := ER) ((0, 0, 0, 0)) rfl rfl (by first | assumption | exact Inn.rd (by assumption) (by omega)) (by first | omega | (simp only [List.length_set]; omega) | (simp only [List.length_append, List.length_take, List.length_replicate, List.length_drop]; omega)) (fun p2 csp2 hpp2 hzp2 hcp2 hq => ?_)
    cases hq
    refine HP.take rfl rfl rfl rfl hS (fun wS hS1 => (by first | exact PV.indexAddr hpp2 rfl rfl T.sl31 | exact PV.indexAddr hpp2 rfl (by rw [← hzp2]; rfl) T.sl31)) ?_
    refine HP.take rfl rfl rfl rfl hS (fun wS hS1 => (by first | exact PV.loadA T.ag56 rfl (by first | exact Cells.up (by assumption) (hBr.trans hS1) | exact Bx.cells (Bx.updD (by assumption) hS1 (Dj.nlR _)) | exact Cells.upd (by assumption) hS1 (by simp)) (Ext.refl _) rfl | exact PV.loadP (ds := [_, _, _, _]) T.ag56 rfl (by first | exact Cells.up (by assumption) (hBr.trans hS1) | exact Bx.cells (Bx.updD (by assumption) hS1 (Dj.nlR _)) | exact Cells.upd (by assumption) hS1 (by simp)) (Ext.refl _) rfl rfl)) ?_
    refine HP.must rfl rfl (OpK.callR rfl T.cf193 rfl (c_laws_eqRule) (fun w2 hXw2 => ?_))
    refine ⟨Upd.trans hS hXw2, ?_⟩
    have hS := Upd.trans hS hXw2
    have hB := hB.trans hXw2
    have hU0 := hU0.ext hXw2
    refine HP.take rfl rfl rfl rfl hS (fun wS hS1 => PV.not rfl) ?_
    refine HP.doneS ?_
    refine CW.cond rfl (fun hc3 => ?_) (fun hc3 => ?_)
    · skip
      try simp only [decide_eq_true_eq, decide_eq_false_iff_not, Bool.not_eq_true', Bool.not_eq_false', Bool.not_eq_eq_eq_not, Bool.not_true, Bool.not_false, Int.not_lt, Int.not_le, Classical.not_not, beq_iff_eq, beq_eq_false_iff_ne] at hc3
      refine CW.seq ?_
      refine CW.reg ?_
      refine WL.pure rfl rfl rfl (PV.assign rfl) ?_
      refine WL.nilS ?_
      refine CW.ret ?_
      refine RQ.block ?_
      refine RQ.then ?_
      refine RQ.then ?_
      refine RQ.block ?_
      refine RQ.then ?_
      refine RQ.r1 rfl ?_
      refine ⟨?_, hB⟩
      first | exact bT (eq_of_takes (by omega) (by omega) he) | exact bF (by rintro rfl; first | omega | exact (r4_no (by assumption)).elim)
    try simp only [decide_eq_true_eq, decide_eq_false_iff_not, Bool.not_eq_true', Bool.not_eq_false', Bool.not_eq_eq_eq_not, Bool.not_true, Bool.not_false, Int.not_lt, Int.not_le, Classical.not_not, beq_iff_eq, beq_eq_false_iff_ne] at hc3
    refine CW.skip ?_
    refine NQ.block ?_
    refine NQ.then ?_
    refine CW.reg ?_
    refine WL.pure rfl rfl rfl (PV.move rfl) ?_
    refine WL.pure rfl rfl rfl (PV.add rfl rfl (by constructor <;> omega)) ?_
    refine WL.pure rfl rfl rfl (PV.assign rfl) ?_
    refine WL.nil ?_
    refine NQ.next (ρ := [(5, _)]) ⟨rfl, rfl, rfl, trivial⟩ ?_
    exact ⟨_, ⟨k + 1, rfl, rfl, hU0, (by first | omega | assumption | (simp_all; done) | (simp_all; omega)), (by exact take_eq_succ (by omega) (by omega) he (r4_ext (by assumption)))⟩, by omega⟩
  try simp only [decide_eq_true_eq, decide_eq_false_iff_not, Bool.not_eq_true', Bool.not_eq_false', Bool.not_eq_eq_eq_not, Bool.not_true, Bool.not_false, Int.not_lt, Int.not_le, Classical.not_not, beq_iff_eq, beq_eq_false_iff_ne] at hc2
  refine CW.exit ?_
  refine XQ.then ?_
  refine XQ.then ?_
  refine XQ.here ?_
  refine NQ.then ?_
  refine CW.seq ?_
  refine CW.reg ?_
  refine WL.pure rfl rfl rfl (PV.assign rfl) ?_
  refine WL.nilS ?_
  refine CW.ret ?_
  refine RQ.r1 rfl ?_
  refine ⟨?_, hB⟩
  first | exact bT (eq_of_takes (by omega) (by omega) he) | exact bF (by rintro rfl; first | omega | exact (r4_no (by assumption)).elim)
theorem c_laws_eqGrammar {w : World} {a0 : Int} {a1 : Int} {va2 : Value} {xa2 : List R4} {b0 : Int} {b1 : Int} {vb2 : Value} {xb2 : List R4}  (ha2 : Rd ER w va2 xa2) (hb2 : Rd ER w vb2 xb2) : Calls Try.prog 16 #[.agg #[.int .i64 a0, .int .i64 a1, va2], .agg #[.int .i64 b0, .int .i64 b1, vb2]] w (Ret1 (RQt (.bool (decide (a0 = b0 ∧ a1 = b1 ∧ xa2 = xb2))) w)) := by
  have hB : Ext w w := Ext.refl w
  have hla2 := ha2.leI; have hlb2 := hb2.leI
  refine callsOf (vs := [_, _]) Try.func16 rfl Try.ntmps16 rfl rfl ?_
  refine CW.seq ?_
  refine CW.reg ?_
  refine WL.op rfl (OpK.box rfl rfl (by first | exact Rd.cells1 (by assumption) | exact Osl.cells1 (by assumption) | exact Osn.cells1 (by assumption) | exact Rd.cells1 (NL.rd (by assumption)) | exact Inn.cell1 (by assumption) (by omega) | rfl) (fun b1 w1 hXw1 hb1 hge1 => ?_))
  have hl1 := Lo.new hB hge1
  have hB := hB.trans hXw1
  refine WL.op rfl (OpK.box rfl rfl (by first | exact Rd.cells1 (by assumption) | exact Osl.cells1 (by assumption) | exact Osn.cells1 (by assumption) | exact Rd.cells1 (NL.rd (by assumption)) | exact Inn.cell1 (by assumption) (by omega) | rfl) (fun b2 w2 hXw2 hb2 hge2 => ?_))
  have hl2 := Lo.new hB hge2
  have hd1_2 := Dj.new hb1.ltO hge2
  have hB := hB.trans hXw2
  have hb1 := hb1.up hXw2
  refine WL.pure rfl rfl rfl (PV.assign rfl) ?_
  refine WL.nilS ?_
  refine CW.seq ?_
  refine CW.seq ?_
  refine CW.reg ?_
  refine WL.pure rfl rfl rfl ((by first | exact PV.fieldAddr T.fl33_0 rfl (by first | assumption | exact Bx.cells (by assumption)) | exact PV.fieldAddrP T.fl33_0 rfl rfl)) ?_
  refine WL.pure rfl rfl rfl ((by first | exact PV.load0 T.na2 rfl (by first | exact Cells.up (by assumption) hB | exact Bx.cells (by assumption) | assumption) (Ext.refl _) rfl | exact PV.load1 T.na2 rfl (by first | exact Cells.up (by assumption) hB | exact Bx.cells (by assumption) | assumption) (Ext.refl _) rfl)) ?_
  refine WL.pure rfl rfl rfl ((by first | exact PV.fieldAddr T.fl33_0 rfl (by first | assumption | exact Bx.cells (by assumption)) | exact PV.fieldAddrP T.fl33_0 rfl rfl)) ?_
  refine WL.pure rfl rfl rfl ((by first | exact PV.load0 T.na2 rfl (by first | exact Cells.up (by assumption) hB | exact Bx.cells (by assumption) | assumption) (Ext.refl _) rfl | exact PV.load1 T.na2 rfl (by first | exact Cells.up (by assumption) hB | exact Bx.cells (by assumption) | assumption) (Ext.refl _) rfl)) ?_
  refine WL.pure rfl rfl rfl (PV.neq rfl rfl) ?_
  refine WL.nilS ?_
  refine CW.cond rfl (fun hc1 => ?_) (fun hc1 => ?_)
  · skip
    try simp only [decide_eq_true_eq, decide_eq_false_iff_not, Bool.not_eq_true', Bool.not_eq_false', Bool.not_eq_eq_eq_not, Bool.not_true, Bool.not_false, Int.not_lt, Int.not_le, Classical.not_not, beq_iff_eq, beq_eq_false_iff_ne] at hc1
    refine CW.seq ?_
    refine CW.reg ?_
    refine WL.pure rfl rfl rfl (PV.assign rfl) ?_
    refine WL.nilS ?_
    refine CW.ret ?_
    refine RQ.then ?_
    refine RQ.r1 rfl ?_
    refine ⟨?_, hB⟩
    first | rfl | exact bT (by omega) | exact bF (by omega) | exact bD (by omega) | exact iE (by omega) | (simp_all; done) | (simp_all; omega) | (simp_all; intros; omega)
  try simp only [decide_eq_true_eq, decide_eq_false_iff_not, Bool.not_eq_true', Bool.not_eq_false', Bool.not_eq_eq_eq_not, Bool.not_true, Bool.not_false, Int.not_lt, Int.not_le, Classical.not_not, beq_iff_eq, beq_eq_false_iff_ne] at hc1
  refine CW.skipS ?_
  refine CW.seq ?_
  refine CW.seq ?_
  refine CW.reg ?_
  refine WL.pure rfl rfl rfl ((by first | exact PV.fieldAddr T.fl33_1 rfl (by first | assumption | exact Bx.cells (by assumption)) | exact PV.fieldAddrP T.fl33_1 rfl rfl)) ?_
  refine WL.pure rfl rfl rfl ((by first | exact PV.load0 T.na2 rfl (by first | exact Cells.up (by assumption) hB | exact Bx.cells (by assumption) | assumption) (Ext.refl _) rfl | exact PV.load1 T.na2 rfl (by first | exact Cells.up (by assumption) hB | exact Bx.cells (by assumption) | assumption) (Ext.refl _) rfl)) ?_
  refine WL.pure rfl rfl rfl ((by first | exact PV.fieldAddr T.fl33_1 rfl (by first | assumption | exact Bx.cells (by assumption)) | exact PV.fieldAddrP T.fl33_1 rfl rfl)) ?_
  refine WL.pure rfl rfl rfl ((by first | exact PV.load0 T.na2 rfl (by first | exact Cells.up (by assumption) hB | exact Bx.cells (by assumption) | assumption) (Ext.refl _) rfl | exact PV.load1 T.na2 rfl (by first | exact Cells.up (by assumption) hB | exact Bx.cells (by assumption) | assumption) (Ext.refl _) rfl)) ?_
  refine WL.pure rfl rfl rfl (PV.neq rfl rfl) ?_
  refine WL.nilS ?_
  refine CW.cond rfl (fun hc2 => ?_) (fun hc2 => ?_)
  · skip
    try simp only [decide_eq_true_eq, decide_eq_false_iff_not, Bool.not_eq_true', Bool.not_eq_false', Bool.not_eq_eq_eq_not, Bool.not_true, Bool.not_false, Int.not_lt, Int.not_le, Classical.not_not, beq_iff_eq, beq_eq_false_iff_ne] at hc2
    refine CW.seq ?_
    refine CW.reg ?_
    refine WL.pure rfl rfl rfl (PV.assign rfl) ?_
    refine WL.nilS ?_
    refine CW.ret ?_
    refine RQ.then ?_
    refine RQ.r1 rfl ?_
    refine ⟨?_, hB⟩
    first | rfl | exact bT (by omega) | exact bF (by omega) | exact bD (by omega) | exact iE (by omega) | (simp_all; done) | (simp_all; omega) | (simp_all; intros; omega)
  try simp only [decide_eq_true_eq, decide_eq_false_iff_not, Bool.not_eq_true', Bool.not_eq_false', Bool.not_eq_eq_eq_not, Bool.not_true, Bool.not_false, Int.not_lt, Int.not_le, Classical.not_not, beq_iff_eq, beq_eq_false_iff_ne] at hc2
  refine CW.skipS ?_
  refine CW.seq ?_
  refine CW.seq ?_
  refine CW.reg ?_
  refine WL.pure rfl rfl rfl ((by first | exact PV.fieldAddr T.fl33_2 rfl (by first | assumption | exact Bx.cells (by assumption)) | exact PV.fieldAddrP T.fl33_2 rfl rfl)) ?_
  refine WL.pure rfl rfl rfl ((by first | exact PV.load0 T.na31 rfl (by first | exact Cells.up (by assumption) hB | exact Bx.cells (by assumption) | assumption) (Ext.refl _) rfl | exact PV.load1 T.na31 rfl (by first | exact Cells.up (by assumption) hB | exact Bx.cells (by assumption) | assumption) (Ext.refl _) rfl)) ?_
  refine WL.pure rfl rfl rfl ((by first | exact PV.fieldAddr T.fl33_2 rfl (by first | assumption | exact Bx.cells (by assumption)) | exact PV.fieldAddrP T.fl33_2 rfl rfl)) ?_
  refine WL.pure rfl rfl rfl ((by first | exact PV.load0 T.na31 rfl (by first | exact Cells.up (by assumption) hB | exact Bx.cells (by assumption) | assumption) (Ext.refl _) rfl | exact PV.load1 T.na31 rfl (by first | exact Cells.up (by assumption) hB | exact Bx.cells (by assumption) | assumption) (Ext.refl _) rfl)) ?_
  refine WL.op rfl (OpK.callR rfl T.cf105 rfl (c_laws_eqRuleS (by first | assumption | exact Rd.up (by assumption) hB | exact Osl.rd (by assumption) | exact Osn.rdR (by assumption) | exact NL.rd (by assumption) | exact rdII (by assumption) (by assumption) | exact Inn.rd (by assumption) (by omega)) (by first | assumption | exact Rd.up (by assumption) hB | exact Osl.rd (by assumption) | exact Osn.rdR (by assumption) | exact NL.rd (by assumption) | exact rdII (by assumption) (by assumption) | exact Inn.rd (by assumption) (by omega))) (fun w3 hXw3 => ?_))
  have hB := hB.trans hXw3
  have hb1 := hb1.up hXw3
  have hb2 := hb2.up hXw3
  refine WL.pure rfl rfl rfl (PV.not rfl) ?_
  refine WL.nilS ?_
  refine CW.cond rfl (fun hc3 => ?_) (fun hc3 => ?_)
  · skip
    try simp only [decide_eq_true_eq, decide_eq_false_iff_not, Bool.not_eq_true', Bool.not_eq_false', Bool.not_eq_eq_eq_not, Bool.not_true, Bool.not_false, Int.not_lt, Int.not_le, Classical.not_not, beq_iff_eq, beq_eq_false_iff_ne] at hc3
    refine CW.seq ?_
    refine CW.reg ?_
    refine WL.pure rfl rfl rfl (PV.assign rfl) ?_
    refine WL.nilS ?_
    refine CW.ret ?_
    refine RQ.then ?_
    refine RQ.r1 rfl ?_
    refine ⟨?_, hB⟩
    first | rfl | exact bT (by omega) | exact bF (by omega) | exact bD (by omega) | exact iE (by omega) | (simp_all; done) | (simp_all; omega) | (simp_all; intros; omega)
  try simp only [decide_eq_true_eq, decide_eq_false_iff_not, Bool.not_eq_true', Bool.not_eq_false', Bool.not_eq_eq_eq_not, Bool.not_true, Bool.not_false, Int.not_lt, Int.not_le, Classical.not_not, beq_iff_eq, beq_eq_false_iff_ne] at hc3
  refine CW.skipS ?_
  refine CW.seq ?_
  refine CW.reg ?_
  refine WL.pure rfl rfl rfl (PV.assign rfl) ?_
  refine WL.nilS ?_
  refine CW.ret ?_
  refine RQ.r1 rfl ?_
  refine ⟨?_, hB⟩
  first | rfl | exact bT (by omega) | exact bF (by omega) | exact bD (by omega) | exact iE (by omega) | (simp_all; done) | (simp_all; omega) | (simp_all; intros; omega)
theorem c_laws_eqInt64SS {w : World} {va vb : Value} {xs ys : List (List Int)} (ha : Rd (ESl EI) w va xs) (hb : Rd (ESl EI) w vb ys) : Calls Try.prog 17 #[va, vb] w (Ret1 (RQt (.bool (decide (xs = ys))) w)) := by
  have hB : Ext w w := Ext.refl w
  have hla := ha.leI; have hlb := hb.leI
  refine callsOf (vs := [_, _]) Try.func17 rfl Try.ntmps17 rfl rfl ?_
  refine CW.seq ?_
  refine CW.reg ?_
  refine WL.pure rfl rfl rfl (PV.assign rfl) ?_
  refine WL.nilS ?_
  refine CW.seq ?_
  refine CW.seq ?_
  refine CW.reg ?_
  refine WL.pure rfl rfl rfl (PV.move rfl) ?_
  refine WL.pure rfl rfl rfl ((by first | exact PV.len rfl (by assumption) T.sl25 | exact PV.lenOs rfl (by assumption) T.sl25 | exact PV.len rfl (NL.rd (by assumption)) T.sl25 | exact PV.len rfl (Inn.rd (by assumption) (by omega)) T.sl25)) ?_
  refine WL.pure rfl rfl rfl (PV.move rfl) ?_
  refine WL.pure rfl rfl rfl ((by first | exact PV.len rfl (by assumption) T.sl25 | exact PV.lenOs rfl (by assumption) T.sl25 | exact PV.len rfl (NL.rd (by assumption)) T.sl25 | exact PV.len rfl (Inn.rd (by assumption) (by omega)) T.sl25)) ?_
  refine WL.pure rfl rfl rfl (PV.neq rfl rfl) ?_
  refine WL.nilS ?_
  refine CW.cond rfl (fun hc1 => ?_) (fun hc1 => ?_)
  · skip
    try simp only [decide_eq_true_eq, decide_eq_false_iff_not, Bool.not_eq_true', Bool.not_eq_false', Bool.not_eq_eq_eq_not, Bool.not_true, Bool.not_false, Int.not_lt, Int.not_le, Classical.not_not, beq_iff_eq, beq_eq_false_iff_ne] at hc1
    refine CW.seq ?_
    refine CW.reg ?_
    refine WL.pure rfl rfl rfl (PV.assign rfl) ?_
    refine WL.nilS ?_
    refine CW.ret ?_
    refine RQ.then ?_
    refine RQ.r1 rfl ?_
    refine ⟨?_, hB⟩
    first | exact bT (eq_of_takes (by omega) (by omega) he) | exact bF (by rintro rfl; first | omega | (rename_i h9; exact h9 rfl) | simp_all)
  try simp only [decide_eq_true_eq, decide_eq_false_iff_not, Bool.not_eq_true', Bool.not_eq_false', Bool.not_eq_eq_eq_not, Bool.not_true, Bool.not_false, Int.not_lt, Int.not_le, Classical.not_not, beq_iff_eq, beq_eq_false_iff_ne] at hc1
  refine CW.skipS ?_
  refine CW.seq ?_
  refine CW.seq ?_
  refine CW.reg ?_
  refine WL.pure rfl rfl rfl (PV.assign rfl) ?_
  refine WL.nilS ?_
  refine CW.block ?_
  refine CW.loop (σk := [(0, _), (1, _)]) (fun ρ wz m => ∃ (k : Nat), ρ = [(5, .int .i64 (k : Nat))] ∧ m = xs.length - k ∧ UpdL [] w wz ∧ (k ≤ xs.length) ∧ (xs.take k = ys.take k)) (ρ₀ := [(5, _)]) (m₀ := _) ⟨rfl, rfl, rfl, trivial⟩ ⟨0, rfl, rfl, (UpdL.refl _ _), (by first | omega | rfl | (simp; done) | assumption | (simp_all; done)), (by first | omega | rfl | (simp; done) | assumption | (simp_all; done))⟩ ?_
  rintro _ wl1 _ ⟨k, rfl, rfl, hU0, hk, he⟩
  have hB := hB.loop hU0 trivial
  refine CW.seq ?_
  refine CW.seq ?_
  refine CW.reg ?_
  refine WL.pure rfl rfl rfl (PV.move rfl) ?_
  refine WL.pure rfl rfl rfl (PV.move rfl) ?_
  refine WL.pure rfl rfl rfl ((by first | exact PV.len rfl (by assumption) T.sl25 | exact PV.lenOs rfl (by assumption) T.sl25 | exact PV.len rfl (NL.rd (by assumption)) T.sl25 | exact PV.len rfl (Inn.rd (by assumption) (by omega)) T.sl25)) ?_
  refine WL.pure rfl rfl rfl (PV.lss rfl rfl) ?_
  refine WL.nilS ?_
  refine CW.cond rfl (fun hc2 => ?_) (fun hc2 => ?_)
  · skip
    try simp only [decide_eq_true_eq, decide_eq_false_iff_not, Bool.not_eq_true', Bool.not_eq_false', Bool.not_eq_eq_eq_not, Bool.not_true, Bool.not_false, Int.not_lt, Int.not_le, Classical.not_not, beq_iff_eq, beq_eq_false_iff_ne] at hc2
    refine CW.skipS ?_
    refine CW.seq ?_
    refine CW.block ?_
    refine CW.seq ?_
    refine CW.draw T.mixed (by kernel_rfl) (fun _ _ _ _ _ h => h) (fun w8 w9 => Upd none w8 w9) 10 (.take 0 (.take 1 (.take 2 (.take 3 (.take 4 (.take 5 (.take 6 (.take 7 (.must 8 (.take 9 .done)))))))))) (by kernel_rfl) (fun w1 hXd => ?_)
    have hB := hB.trans hXd
    have hU0 := hU0.ext hXd
    have hBr := hB
    have hS : Upd none w1 w1 := Ext.toUpd (Ext.refl _)
    refine HP.take rfl rfl rfl rfl hS (fun wS hS1 => PV.move rfl) ?_
    refine HP.take rfl rfl rfl rfl hS (fun wS hS1 => PV.move rfl) ?_
    first
      | refine HP.at (x := .tmp 17) (y := .tmp 18) (E := ESl EI) ([]) rfl rfl (by first | assumption | exact Inn.rd (by assumption) (by omega)) (by first | omega | (simp only [List.length_set]; omega) | (simp only [List.length_append, List.length_take, List.length_replicate, List.length_drop]; omega)) (fun p1 csp1 hpp1 hcp1 hq => ?_)
      | refine HP.atZ (x := .tmp 17) (y := .tmp 18) (E := ESl EI) ([]) rfl rfl (by first | assumption | exact Inn.rd (by assumption) (by omega)) (by first | omega | (simp only [List.length_set]; omega) | (simp only [List.length_append, List.length_take, List.length_replicate, List.length_drop]; omega)) (fun p1 csp1 hpp1 hzp1 hcp1 hq => ?_)
    obtain ⟨vq, rfl, hrq⟩ := hq; have hrql := hrq.leI
    refine HP.take rfl rfl rfl rfl hS (fun wS hS1 => (by first | exact PV.indexAddr hpp1 rfl rfl T.sl25 | exact PV.indexAddr hpp1 rfl (by rw [← hzp1]; rfl) T.sl25)) ?_
    refine HP.take rfl rfl rfl rfl hS (fun wS hS1 => (by first | exact PV.load0 T.na28 rfl (by first | exact Cells.up (by assumption) (hBr.trans hS1) | exact Bx.cells (Bx.updD (by assumption) hS1 (Dj.nlR _)) | exact Cells.upd (by assumption) hS1 (by simp)) (Ext.refl _) rfl | exact PV.load1 T.na28 rfl (by first | exact Cells.up (by assumption) (hBr.trans hS1) | exact Bx.cells (Bx.updD (by assumption) hS1 (Dj.nlR _)) | exact Cells.upd (by assumption) hS1 (by simp)) (Ext.refl _) rfl)) ?_
    refine HP.take rfl rfl rfl rfl hS (fun wS hS1 => PV.move rfl) ?_
    refine HP.take rfl rfl rfl rfl hS (fun wS hS1 => PV.move rfl) ?_
    first
      | refine HP.at (x := .tmp 21) (y := .tmp 22) (E := ESl EI) ([]) rfl rfl (by first | assumption | exact Inn.rd (by assumption) (by omega)) (by first | omega | (simp only [List.length_set]; omega) | (simp only [List.length_append, List.length_take, List.length_replicate, List.length_drop]; omega)) (fun p2 csp2 hpp2 hcp2 hq => ?_)
      | refine HP.atZ (x := .tmp 21) (y := .tmp 22) (E := ESl EI) ([]) rfl rfl (by first | assumption | exact Inn.rd (by assumption) (by omega)) (by first | omega | (simp only [List.length_set]; omega) | (simp only [List.length_append, List.length_take, List.length_replicate, List.length_drop]; omega)) (fun p2 csp2 hpp2 hzp2 hcp2 hq => ?_)
    obtain ⟨vq, rfl, hrq⟩ := hq; have hrql := hrq.leI
    refine HP.take rfl rfl rfl rfl hS (fun wS hS1 => (by first | exact PV.indexAddr hpp2 rfl rfl T.sl25 | exact PV.indexAddr hpp2 rfl (by rw [← hzp2]; rfl) T.sl25)) ?_
    refine HP.take rfl rfl rfl rfl hS (fun wS hS1 => (by first | exact PV.load0 T.na28 rfl (by first | exact Cells.up (by assumption) (hBr.trans hS1) | exact Bx.cells (Bx.updD (by assumption) hS1 (Dj.nlR _)) | exact Cells.upd (by assumption) hS1 (by simp)) (Ext.refl _) rfl | exact PV.load1 T.na28 rfl (by first | exact Cells.up (by assumption) (hBr.trans hS1) | exact Bx.cells (Bx.updD (by assumption) hS1 (Dj.nlR _)) | exact Cells.upd (by assumption) hS1 (by simp)) (Ext.refl _) rfl)) ?_
    refine HP.must rfl rfl (OpK.callR rfl T.cf15 rfl (c_laws_eqInt64S (by first | assumption | exact Rd.up (by assumption) hB | exact Osl.rd (by assumption) | exact Osn.rdR (by assumption) | exact NL.rd (by assumption) | exact rdII (by assumption) (by assumption) | exact Inn.rd (by assumption) (by omega)) (by first | assumption | exact Rd.up (by assumption) hB | exact Osl.rd (by assumption) | exact Osn.rdR (by assumption) | exact NL.rd (by assumption) | exact rdII (by assumption) (by assumption) | exact Inn.rd (by assumption) (by omega))) (fun w2 hXw2 => ?_))
    refine ⟨Upd.trans hS hXw2, ?_⟩
    have hS := Upd.trans hS hXw2
    have hB := hB.trans hXw2
    have hU0 := hU0.ext hXw2
    refine HP.take rfl rfl rfl rfl hS (fun wS hS1 => PV.not rfl) ?_
    refine HP.doneS ?_
    refine CW.cond rfl (fun hc3 => ?_) (fun hc3 => ?_)
    · skip
      try simp only [decide_eq_true_eq, decide_eq_false_iff_not, Bool.not_eq_true', Bool.not_eq_false', Bool.not_eq_eq_eq_not, Bool.not_true, Bool.not_false, Int.not_lt, Int.not_le, Classical.not_not, beq_iff_eq, beq_eq_false_iff_ne] at hc3
      refine CW.seq ?_
      refine CW.reg ?_
      refine WL.pure rfl rfl rfl (PV.assign rfl) ?_
      refine WL.nilS ?_
      refine CW.ret ?_
      refine RQ.block ?_
      refine RQ.then ?_
      refine RQ.then ?_
      refine RQ.block ?_
      refine RQ.then ?_
      refine RQ.r1 rfl ?_
      refine ⟨?_, hB⟩
      first | exact bT (eq_of_takes (by omega) (by omega) he) | exact bF (by rintro rfl; first | omega | (rename_i h9; exact h9 rfl) | simp_all)
    try simp only [decide_eq_true_eq, decide_eq_false_iff_not, Bool.not_eq_true', Bool.not_eq_false', Bool.not_eq_eq_eq_not, Bool.not_true, Bool.not_false, Int.not_lt, Int.not_le, Classical.not_not, beq_iff_eq, beq_eq_false_iff_ne] at hc3
    refine CW.skip ?_
    refine NQ.block ?_
    refine NQ.then ?_
    refine CW.reg ?_
    refine WL.pure rfl rfl rfl (PV.move rfl) ?_
    refine WL.pure rfl rfl rfl (PV.add rfl rfl (by constructor <;> omega)) ?_
    refine WL.pure rfl rfl rfl (PV.assign rfl) ?_
    refine WL.nil ?_
    refine NQ.next (ρ := [(5, _)]) ⟨rfl, rfl, rfl, trivial⟩ ?_
    exact ⟨_, ⟨k + 1, rfl, rfl, hU0, (by first | omega | assumption | (simp_all; done) | (simp_all; omega)), (by exact take_eq_succ (d := []) (by omega) (by omega) he (by assumption))⟩, by omega⟩
  try simp only [decide_eq_true_eq, decide_eq_false_iff_not, Bool.not_eq_true', Bool.not_eq_false', Bool.not_eq_eq_eq_not, Bool.not_true, Bool.not_false, Int.not_lt, Int.not_le, Classical.not_not, beq_iff_eq, beq_eq_false_iff_ne] at hc2
  refine CW.exit ?_
  refine XQ.then ?_
  refine XQ.then ?_
  refine XQ.here ?_
  refine NQ.then ?_
  refine CW.seq ?_
  refine CW.reg ?_
  refine WL.pure rfl rfl rfl (PV.assign rfl) ?_
  refine WL.nilS ?_
  refine CW.ret ?_
  refine RQ.r1 rfl ?_
  refine ⟨?_, hB⟩
  first | exact bT (eq_of_takes (by omega) (by omega) he) | exact bF (by rintro rfl; first | omega | (rename_i h9; exact h9 rfl) | simp_all)
theorem c_laws_markRuleS {w : World} {va : Value} {og : Option Nat} {xs : List R4} {k : Int} (ho : Osn 4 gR w og va xs) (hk : 0 ≤ k ∧ k + 4 * xs.length ≤ 9223372036854775807) : Calls Try.prog 106 #[va, .int .i64 k] w (Ret1 (fun v w' => v = .int .i64 (k + 4 * xs.length) ∧ UpdL [og] w w' ∧ Osn 4 gR w' og va (marksR k xs.length))) := by
  refine callsOf (vs := [_, _]) Try.func106 rfl Try.ntmps106 rfl rfl ?_
  have hUB : UpdL [og] w w := UpdL.refl _ _
  have ho1 : Osn 4 gR w og va (xs) := by assumption
  have hkB_1 : OkB [og] w og := OkB.mem (by simp)
  have hgB_1 := OgR.refl w og
  refine CW.seq ?_
  refine CW.reg ?_
  refine WL.pure rfl rfl rfl (PV.assign rfl) ?_
  refine WL.nilS ?_
  refine CW.seq ?_
  refine CW.seq ?_
  refine CW.reg ?_
  refine WL.pure rfl rfl rfl (PV.assign rfl) ?_
  refine WL.nilS ?_
  refine CW.block ?_
  have hlt1 := ho1.ltO
  refine CW.loop (σk := [(0, _)]) (fun ρ wz m => ∃ (i : Nat), ρ = [(1, .int .i64 (k + 4 * (i : Nat))), (5, .int .i64 (i : Nat))] ∧ m = xs.length - i ∧ UpdL [og] w wz ∧ Osn 4 gR wz og va (marksR k i ++ xs.drop i) ∧ (i ≤ xs.length)) (ρ₀ := [(1, _), (5, _)]) (m₀ := _) ⟨rfl, rfl, rfl, trivial⟩ ⟨0, (by simp), rfl, (UpdL.refl _ _), osnE ho1 (by exact marksR_zero _ _), (by first | omega | rfl | (simp; done) | assumption | (simp_all; done))⟩ ?_
  rintro _ wl1 _ ⟨i, rfl, rfl, hU0, ho1, hi⟩
  have hUB := hUB.trans hU0 ⟨hkB_1, trivial⟩
  have hk0_1 : OkB [og] w og := OkB.mem (by simp)
  have hll : (marksR k i ++ xs.drop i).length = xs.length := by rw [List.length_append, marksR_len, List.length_drop]; omega
  refine CW.seq ?_
  refine CW.seq ?_
  refine CW.reg ?_
  refine WL.pure rfl rfl rfl (PV.move rfl) ?_
  refine WL.pure rfl rfl rfl (PV.move rfl) ?_
  refine WL.pure rfl rfl rfl ((PV.lenOsn rfl ho1 T.sl31)) ?_
  refine WL.pure rfl rfl rfl (PV.lss rfl rfl) ?_
  refine WL.nilS ?_
  refine CW.cond rfl (fun hc1 => ?_) (fun hc1 => ?_)
  · skip
    try simp only [decide_eq_true_eq, decide_eq_false_iff_not, Bool.not_eq_true', Bool.not_eq_false', Bool.not_eq_eq_eq_not, Bool.not_true, Bool.not_false, Int.not_lt, Int.not_le, Classical.not_not, beq_iff_eq, beq_eq_false_iff_ne] at hc1
    refine CW.skipS ?_
    refine CW.seq ?_
    refine CW.block ?_
    refine CW.seq ?_
    refine CW.reg ?_
    refine WL.pure rfl rfl rfl (PV.move rfl) ?_
    refine WL.pure rfl rfl rfl (PV.move rfl) ?_
    refine WL.pure rfl rfl rfl (PV.move rfl) ?_
    have hrdp1 := ho1.rdR
    first
      | refine WL.at (x := .tmp 12) (y := .tmp 13) (E := ER) ((0, 0, 0, 0)) rfl rfl hrdp1 (by first | omega | (simp only [List.length_set]; omega) | (simp only [List.length_append, List.length_take, List.length_replicate, List.length_drop]; omega)) (fun p1 csp1 hpp1 hcp1 hq => ?_)
      | refine WL.atZ (x := .tmp 12) (y := .tmp 13) (E := ER) ((0, 0, 0, 0)) rfl rfl hrdp1 (by first | omega | (simp only [List.length_set]; omega) | (simp only [List.length_append, List.length_take, List.length_replicate, List.length_drop]; omega)) (fun p1 csp1 hpp1 hzp1 hcp1 hq => ?_)
    cases hq
    refine WL.pure rfl rfl rfl ((by first | exact PV.indexAddr hpp1 rfl rfl T.sl31 | exact PV.indexAddr hpp1 rfl (by rw [← hzp1]; rfl) T.sl31)) ?_
    refine WL.pure rfl rfl rfl ((by first | exact PV.fieldAddr T.fl56_0 rfl (by first | assumption | exact Bx.cells (by assumption)) | exact PV.fieldAddrP T.fl56_0 rfl rfl)) ?_
    refine WL.op rfl (OpK.storeF (g := gR) (setR0 _ _) (0, 0, 0, 0) T.sz2 rfl rfl rfl rfl (gR_set0 _ _) hpp1 ho1 (fun w1 hXw1 ho1 => ?_))
    have hUB := hUB.step hXw1 hkB_1
    have hU0 := hU0.step hXw1 hk0_1
    refine WL.nilS ?_
    refine CW.seq ?_
    refine CW.reg ?_
    refine WL.pure rfl rfl rfl (PV.move rfl) ?_
    refine WL.pure rfl rfl rfl (PV.add rfl rfl (by constructor <;> omega)) ?_
    refine WL.pure rfl rfl rfl (PV.assign rfl) ?_
    refine WL.nilS ?_
    refine CW.seq ?_
    refine CW.reg ?_
    refine WL.pure rfl rfl rfl (PV.move rfl) ?_
    refine WL.pure rfl rfl rfl (PV.move rfl) ?_
    refine WL.pure rfl rfl rfl (PV.move rfl) ?_
    have hrdp2 := ho1.rdR
    first
      | refine WL.at (x := .tmp 19) (y := .tmp 20) (E := ER) ((0, 0, 0, 0)) rfl rfl hrdp2 (by rw [List.length_set]; omega) (fun p2 csp2 hpp2 hcp2 hq => ?_)
      | refine WL.atZ (x := .tmp 19) (y := .tmp 20) (E := ER) ((0, 0, 0, 0)) rfl rfl hrdp2 (by rw [List.length_set]; omega) (fun p2 csp2 hpp2 hzp2 hcp2 hq => ?_)
    cases hq
    refine WL.pure rfl rfl rfl ((by first | exact PV.indexAddr hpp2 rfl rfl T.sl31 | exact PV.indexAddr hpp2 rfl (by rw [← hzp2]; rfl) T.sl31)) ?_
    refine WL.pure rfl rfl rfl ((by first | exact PV.fieldAddr T.fl56_1 rfl (by first | assumption | exact Bx.cells (by assumption)) | exact PV.fieldAddrP T.fl56_1 rfl rfl)) ?_
    refine WL.op rfl (OpK.storeF (g := gR) (setR1 _ _) (0, 0, 0, 0) T.sz2 rfl rfl rfl rfl (gR_set1 _ _) hpp2 ho1 (fun w2 hXw2 ho1 => ?_))
    have hUB := hUB.step hXw2 hkB_1
    have hU0 := hU0.step hXw2 hk0_1
    refine WL.nilS ?_
    refine CW.seq ?_
    refine CW.reg ?_
    refine WL.pure rfl rfl rfl (PV.move rfl) ?_
    refine WL.pure rfl rfl rfl (PV.add rfl rfl (by constructor <;> omega)) ?_
    refine WL.pure rfl rfl rfl (PV.assign rfl) ?_
    refine WL.nilS ?_
    refine CW.seq ?_
    refine CW.reg ?_
    refine WL.pure rfl rfl rfl (PV.move rfl) ?_
    refine WL.pure rfl rfl rfl (PV.move rfl) ?_
    refine WL.pure rfl rfl rfl (PV.move rfl) ?_
    have hrdp3 := ho1.rdR
    first
      | refine WL.at (x := .tmp 26) (y := .tmp 27) (E := ER) ((0, 0, 0, 0)) rfl rfl hrdp3 (by rw [List.length_set, List.length_set]; omega) (fun p3 csp3 hpp3 hcp3 hq => ?_)
      | refine WL.atZ (x := .tmp 26) (y := .tmp 27) (E := ER) ((0, 0, 0, 0)) rfl rfl hrdp3 (by rw [List.length_set, List.length_set]; omega) (fun p3 csp3 hpp3 hzp3 hcp3 hq => ?_)
    cases hq
    refine WL.pure rfl rfl rfl ((by first | exact PV.indexAddr hpp3 rfl rfl T.sl31 | exact PV.indexAddr hpp3 rfl (by rw [← hzp3]; rfl) T.sl31)) ?_
    refine WL.pure rfl rfl rfl ((by first | exact PV.fieldAddr T.fl56_2 rfl (by first | assumption | exact Bx.cells (by assumption)) | exact PV.fieldAddrP T.fl56_2 rfl rfl)) ?_
    refine WL.op rfl (OpK.storeF (g := gR) (setR2 _ _) (0, 0, 0, 0) T.sz2 rfl rfl rfl rfl (gR_set2 _ _) hpp3 ho1 (fun w3 hXw3 ho1 => ?_))
    have hUB := hUB.step hXw3 hkB_1
    have hU0 := hU0.step hXw3 hk0_1
    refine WL.nilS ?_
    refine CW.seq ?_
    refine CW.reg ?_
    refine WL.pure rfl rfl rfl (PV.move rfl) ?_
    refine WL.pure rfl rfl rfl (PV.add rfl rfl (by constructor <;> omega)) ?_
    refine WL.pure rfl rfl rfl (PV.assign rfl) ?_
    refine WL.nilS ?_
    refine CW.seq ?_
    refine CW.reg ?_
    refine WL.pure rfl rfl rfl (PV.move rfl) ?_
    refine WL.pure rfl rfl rfl (PV.move rfl) ?_
    refine WL.pure rfl rfl rfl (PV.move rfl) ?_
    have hrdp4 := ho1.rdR
    first
      | refine WL.at (x := .tmp 33) (y := .tmp 34) (E := ER) ((0, 0, 0, 0)) rfl rfl hrdp4 (by rw [List.length_set, List.length_set, List.length_set]; omega) (fun p4 csp4 hpp4 hcp4 hq => ?_)
      | refine WL.atZ (x := .tmp 33) (y := .tmp 34) (E := ER) ((0, 0, 0, 0)) rfl rfl hrdp4 (by rw [List.length_set, List.length_set, List.length_set]; omega) (fun p4 csp4 hpp4 hzp4 hcp4 hq => ?_)
    cases hq
    refine WL.pure rfl rfl rfl ((by first | exact PV.indexAddr hpp4 rfl rfl T.sl31 | exact PV.indexAddr hpp4 rfl (by rw [← hzp4]; rfl) T.sl31)) ?_
    refine WL.pure rfl rfl rfl ((by first | exact PV.fieldAddr T.fl56_3 rfl (by first | assumption | exact Bx.cells (by assumption)) | exact PV.fieldAddrP T.fl56_3 rfl rfl)) ?_
    refine WL.op rfl (OpK.storeF (g := gR) (setR3 _ _) (0, 0, 0, 0) T.sz2 rfl rfl rfl rfl (gR_set3 _ _) hpp4 ho1 (fun w4 hXw4 ho1 => ?_))
    have hUB := hUB.step hXw4 hkB_1
    have hU0 := hU0.step hXw4 hk0_1
    refine WL.nilS ?_
    refine CW.reg ?_
    refine WL.pure rfl rfl rfl (PV.move rfl) ?_
    refine WL.pure rfl rfl rfl (PV.add rfl rfl (by constructor <;> omega)) ?_
    refine WL.pure rfl rfl rfl (PV.assign rfl) ?_
    refine WL.nil ?_
    refine NQ.block ?_
    refine NQ.then ?_
    refine CW.reg ?_
    refine WL.pure rfl rfl rfl (PV.move rfl) ?_
    refine WL.pure rfl rfl rfl (PV.add rfl rfl (by constructor <;> omega)) ?_
    refine WL.pure rfl rfl rfl (PV.assign rfl) ?_
    refine WL.nil ?_
    refine NQ.next (ρ := [(1, _), (5, _)]) ⟨rfl, rfl, rfl, trivial⟩ ?_
    exact ⟨_, ⟨i + 1, (by simp; omega), rfl, hU0, osnE ho1 (by rw [set4 (by omega)]; exact marksR_put (by omega)), (by first | omega | assumption | (simp_all; done) | (simp_all; omega))⟩, by omega⟩
  try simp only [decide_eq_true_eq, decide_eq_false_iff_not, Bool.not_eq_true', Bool.not_eq_false', Bool.not_eq_eq_eq_not, Bool.not_true, Bool.not_false, Int.not_lt, Int.not_le, Classical.not_not, beq_iff_eq, beq_eq_false_iff_ne] at hc1
  refine CW.exit ?_
  refine XQ.then ?_
  refine XQ.then ?_
  refine XQ.here ?_
  refine NQ.then ?_
  refine CW.seq ?_
  refine CW.reg ?_
  refine WL.pure rfl rfl rfl (PV.move rfl) ?_
  refine WL.pure rfl rfl rfl (PV.assign rfl) ?_
  refine WL.nilS ?_
  refine CW.ret ?_
  refine RQ.r1 rfl ?_
  refine ⟨?_, hUB, osnE ho1 ?_⟩
  · skip
    exact iE (by omega)
  · skip
    exact marksR_done (by omega) hi
theorem c_laws_markGrammar {w : World} {a0 : Int} {a1 : Int} {va2 : Value} {xa2 : List R4} {oga2 : Option Nat} {k : Int} (ho2 : Osn 4 gR w oga2 va2 xa2) (hk : 0 ≤ k ∧ k + 4 * xa2.length ≤ 9223372036854775807) : Calls Try.prog 18 #[.agg #[.int .i64 a0, .int .i64 a1, va2], .int .i64 k] w (Ret1 (fun v w' => v = .int .i64 (k + 4 * xa2.length) ∧ UpdL [oga2] w w' ∧ Osn 4 gR w' oga2 va2 (marksR k xa2.length))) := by
  refine callsOf (vs := [_, _]) Try.func18 rfl Try.ntmps18 rfl rfl ?_
  have hUB : UpdL [oga2] w w := UpdL.refl _ _
  have ho1 : Osn 4 gR w oga2 va2 (xa2) := by assumption
  have hkB_1 : OkB [oga2] w oga2 := OkB.mem (by simp)
  have hgB_1 := OgR.refl w oga2
  refine CW.seq ?_
  refine CW.reg ?_
  refine WL.op rfl (OpK.box rfl rfl (by first | exact Rd.cells1 (by assumption) | exact Osl.cells1 (by assumption) | exact Osn.cells1 (by assumption) | exact Rd.cells1 (NL.rd (by assumption)) | exact Inn.cell1 (by assumption) (by omega) | rfl) (fun b2 w1 hXw1 hb2 hge2 => ?_))
  have hd1_2 := Dj.new ho1.ltO hge2
  have hkB_2 := OkN.new hUB hge2
  have hgB_2 := OgR.new hUB.size hge2
  have ho1 := ho1.up hXw1
  have hUB := hUB.ext hXw1
  refine WL.pure rfl rfl rfl (PV.assign rfl) ?_
  refine WL.nilS ?_
  refine CW.seq ?_
  refine CW.reg ?_
  refine WL.pure rfl rfl rfl ((by first | exact PV.fieldAddr T.fl33_2 rfl (by first | assumption | exact Bx.cells (by assumption)) | exact PV.fieldAddrP T.fl33_2 rfl rfl)) ?_
  refine WL.pure rfl rfl rfl ((by first | exact PV.load0 T.na31 rfl (by first | exact Cells.up (by assumption) hB | exact Bx.cells (by assumption) | assumption) (Ext.refl _) rfl | exact PV.load1 T.na31 rfl (by first | exact Cells.up (by assumption) hB | exact Bx.cells (by assumption) | assumption) (Ext.refl _) rfl)) ?_
  refine WL.pure rfl rfl rfl (PV.move rfl) ?_
  refine WL.op rfl (OpK.call rfl T.cf106 rfl (c_laws_markRuleS (by first | assumption | exact Dj.symm (by assumption)) (by first | assumption | omega | (simp only [marks_len, marksB_len, marksR_len, sumL_marksS]; omega))) (fun rv1 w2 hR => ?_))
  obtain ⟨rfl, hUC3, ho1⟩ := hR
  have hUB := hUB.trans hUC3 ⟨hkB_1, trivial⟩
  have hb2 := hb2.loop hUC3 ⟨(Dj.symm hd1_2), trivial⟩
  refine WL.pure rfl rfl rfl (PV.assign rfl) ?_
  refine WL.nilS ?_
  refine CW.seq ?_
  refine CW.reg ?_
  refine WL.pure rfl rfl rfl (PV.move rfl) ?_
  refine WL.pure rfl rfl rfl (PV.assign rfl) ?_
  refine WL.nilS ?_
  refine CW.ret ?_
  refine RQ.r1 rfl ?_
  refine ⟨?_, hUB, osnE ho1 ?_⟩
  · skip
    rfl
  · skip
    rfl
theorem c_laws_markInt64S {w : World} {va : Value} {og : Option Nat} {xs : List Int} {k : Int} (ho : Osl VI w og va xs) (hk : 0 ≤ k ∧ k + xs.length ≤ 9223372036854775807) : Calls Try.prog 20 #[va, .int .i64 k] w (Ret1 (fun v w' => v = .int .i64 (k + xs.length) ∧ UpdL [og] w w' ∧ Osl VI w' og va (marks k xs.length))) := by
  refine callsOf (vs := [_, _]) Try.func20 rfl Try.ntmps20 rfl rfl ?_
  have hUB : UpdL [og] w w := UpdL.refl _ _
  have ho1 : Osl VI w og va (xs) := by assumption
  have hkB_1 : OkB [og] w og := OkB.mem (by simp)
  have hgB_1 := OgR.refl w og
  refine CW.seq ?_
  refine CW.reg ?_
  refine WL.pure rfl rfl rfl (PV.assign rfl) ?_
  refine WL.nilS ?_
  refine CW.seq ?_
  refine CW.seq ?_
  refine CW.reg ?_
  refine WL.pure rfl rfl rfl (PV.assign rfl) ?_
  refine WL.nilS ?_
  refine CW.block ?_
  have hlt1 := ho1.ltO
  refine CW.loop (σk := [(0, _)]) (fun ρ wz m => ∃ (i : Nat), ρ = [(1, .int .i64 (k + (i : Nat))), (5, .int .i64 (i : Nat))] ∧ m = xs.length - i ∧ UpdL [og] w wz ∧ Osl VI wz og va (marks k i ++ xs.drop i) ∧ (i ≤ xs.length)) (ρ₀ := [(1, _), (5, _)]) (m₀ := _) ⟨rfl, rfl, rfl, trivial⟩ ⟨0, (by simp), rfl, (UpdL.refl _ _), osE ho1 (by exact marks_zero _ _), (by first | omega | rfl | (simp; done) | assumption | (simp_all; done))⟩ ?_
  rintro _ wl1 _ ⟨i, rfl, rfl, hU0, ho1, hi⟩
  have hUB := hUB.trans hU0 ⟨hkB_1, trivial⟩
  have hk0_1 : OkB [og] w og := OkB.mem (by simp)
  have hll : (marks k i ++ xs.drop i).length = xs.length := by rw [List.length_append, marks_len, List.length_drop]; omega
  refine CW.seq ?_
  refine CW.seq ?_
  refine CW.reg ?_
  refine WL.pure rfl rfl rfl (PV.move rfl) ?_
  refine WL.pure rfl rfl rfl (PV.move rfl) ?_
  refine WL.pure rfl rfl rfl ((PV.lenOs rfl ho1 T.sl28)) ?_
  refine WL.pure rfl rfl rfl (PV.lss rfl rfl) ?_
  refine WL.nilS ?_
  refine CW.cond rfl (fun hc1 => ?_) (fun hc1 => ?_)
  · skip
    try simp only [decide_eq_true_eq, decide_eq_false_iff_not, Bool.not_eq_true', Bool.not_eq_false', Bool.not_eq_eq_eq_not, Bool.not_true, Bool.not_false, Int.not_lt, Int.not_le, Classical.not_not, beq_iff_eq, beq_eq_false_iff_ne] at hc1
    refine CW.skipS ?_
    refine CW.seq ?_
    refine CW.block ?_
    refine CW.seq ?_
    refine CW.reg ?_
    refine WL.pure rfl rfl rfl (PV.move rfl) ?_
    refine WL.pure rfl rfl rfl (PV.move rfl) ?_
    refine WL.pure rfl rfl rfl (PV.move rfl) ?_
    first
      | refine WL.atO (x := .tmp 12) (y := .tmp 13) (f := VI) (0) rfl rfl ho1 (by first | omega | (simp only [List.length_set]; omega) | (simp only [List.length_append, List.length_take, List.length_replicate, List.length_drop]; omega)) (fun p1 hpp1 hcp1 => ?_)
      | refine WL.atOZ (x := .tmp 12) (y := .tmp 13) (f := VI) (0) rfl rfl ho1 (by first | omega | (simp only [List.length_set]; omega) | (simp only [List.length_append, List.length_take, List.length_replicate, List.length_drop]; omega)) (fun p1 hpp1 hzp1 hcp1 => ?_)
    refine WL.pure rfl rfl rfl ((by first | exact PV.indexAddr hpp1 rfl rfl T.sl28 | exact PV.indexAddr hpp1 rfl (by rw [← hzp1]; rfl) T.sl28)) ?_
    refine WL.op rfl (OpK.storeS VI T.sz2 rfl rfl rfl hpp1 ho1 (fun w1 hXw1 ho1 => ?_))
    have hUB := hUB.step hXw1 hkB_1
    have hU0 := hU0.step hXw1 hk0_1
    refine WL.nilS ?_
    refine CW.reg ?_
    refine WL.pure rfl rfl rfl (PV.move rfl) ?_
    refine WL.pure rfl rfl rfl (PV.add rfl rfl (by constructor <;> omega)) ?_
    refine WL.pure rfl rfl rfl (PV.assign rfl) ?_
    refine WL.nil ?_
    refine NQ.block ?_
    refine NQ.then ?_
    refine CW.reg ?_
    refine WL.pure rfl rfl rfl (PV.move rfl) ?_
    refine WL.pure rfl rfl rfl (PV.add rfl rfl (by constructor <;> omega)) ?_
    refine WL.pure rfl rfl rfl (PV.assign rfl) ?_
    refine WL.nil ?_
    refine NQ.next (ρ := [(1, _), (5, _)]) ⟨rfl, rfl, rfl, trivial⟩ ?_
    exact ⟨_, ⟨i + 1, (by simp; omega), rfl, hU0, osE ho1 (by exact marks_set (by omega)), (by first | omega | assumption | (simp_all; done) | (simp_all; omega))⟩, by omega⟩
  try simp only [decide_eq_true_eq, decide_eq_false_iff_not, Bool.not_eq_true', Bool.not_eq_false', Bool.not_eq_eq_eq_not, Bool.not_true, Bool.not_false, Int.not_lt, Int.not_le, Classical.not_not, beq_iff_eq, beq_eq_false_iff_ne] at hc1
  refine CW.exit ?_
  refine XQ.then ?_
  refine XQ.then ?_
  refine XQ.here ?_
  refine NQ.then ?_
  refine CW.seq ?_
  refine CW.reg ?_
  refine WL.pure rfl rfl rfl (PV.move rfl) ?_
  refine WL.pure rfl rfl rfl (PV.assign rfl) ?_
  refine WL.nilS ?_
  refine CW.ret ?_
  refine RQ.r1 rfl ?_
  refine ⟨?_, hUB, osE ho1 ?_⟩
  · skip
    exact iE (by omega)
  · skip
    exact marks_done (by omega) hi
theorem c_laws_markInt64SS {w : World} {va : Value} {og : Option Nat} {vs : List Value} {os : List (Option Nat)} {xss : List (List Int)} {k : Int} (hmo : Osl VV w og va vs) (hmn : Inn w os vs xss) (hmd : DI os og) (hk : 0 ≤ k ∧ k + sumL xss ≤ 9223372036854775807) : Calls Try.prog 19 #[va, .int .i64 k] w (Ret1 (fun v w' => v = .int .i64 (k + sumL xss) ∧ UpdL os w w' ∧ Inn w' os (vs) (marksS k xss))) := by
  have hvl := hmn.lv; have hll := hmo.leI
  refine callsOf (vs := [_, _]) Try.func19 rfl Try.ntmps19 rfl rfl ?_
  have hUB : UpdL os w w := UpdL.refl _ _
  have ho1 := hmo
  have hn2 := hmn
  have hd1_2 := hmd
  have hlv2 := hn2.lv
  refine CW.seq ?_
  refine CW.reg ?_
  refine WL.pure rfl rfl rfl (PV.assign rfl) ?_
  refine WL.nilS ?_
  refine CW.seq ?_
  refine CW.seq ?_
  refine CW.reg ?_
  refine WL.pure rfl rfl rfl (PV.assign rfl) ?_
  refine WL.nilS ?_
  refine CW.block ?_
  refine CW.loop (σk := [(0, _)]) (fun ρ wz m => ∃ (i : Nat), ρ = [(1, .int .i64 (k + sumL (xss.take i))), (5, .int .i64 (i : Nat))] ∧ m = xss.length - i ∧ UpdL os w wz ∧ (i ≤ xss.length) ∧ (Inn wz os vs (mixS k xss i))) (ρ₀ := [(1, _), (5, _)]) (m₀ := _) ⟨rfl, rfl, rfl, trivial⟩ ⟨0, (by simp [sumL]), rfl, (UpdL.refl _ _), (by first | omega | rfl | (simp; done) | assumption | (simp_all; done)), (by rw [← mixS_zero]; assumption)⟩ ?_
  rintro _ wl1 _ ⟨i, rfl, rfl, hU0, hi, hinn⟩
  have hUB := hUB.trans hU0 (AllO.mk fun o ho => OkB.mem ho)
  have ho1 := ho1.loop hU0 (DI.all hd1_2)
  have hn2 := hinn; have hlv2 := hn2.lv
  refine CW.seq ?_
  refine CW.seq ?_
  refine CW.reg ?_
  refine WL.pure rfl rfl rfl (PV.move rfl) ?_
  refine WL.pure rfl rfl rfl (PV.move rfl) ?_
  refine WL.pure rfl rfl rfl ((PV.lenOs rfl ho1 T.sl25)) ?_
  refine WL.pure rfl rfl rfl (PV.lss rfl rfl) ?_
  refine WL.nilS ?_
  refine CW.cond rfl (fun hc1 => ?_) (fun hc1 => ?_)
  · skip
    try simp only [decide_eq_true_eq, decide_eq_false_iff_not, Bool.not_eq_true', Bool.not_eq_false', Bool.not_eq_eq_eq_not, Bool.not_true, Bool.not_false, Int.not_lt, Int.not_le, Classical.not_not, beq_iff_eq, beq_eq_false_iff_ne] at hc1
    refine CW.skipS ?_
    refine CW.seq ?_
    refine CW.block ?_
    refine CW.reg ?_
    refine WL.pure rfl rfl rfl (PV.move rfl) ?_
    refine WL.pure rfl rfl rfl (PV.move rfl) ?_
    first
      | refine WL.atO (x := .tmp 12) (y := .tmp 13) (f := VV) (.slice none 0 0) rfl rfl ho1 (by first | omega | (simp only [List.length_set]; omega) | (simp only [List.length_append, List.length_take, List.length_replicate, List.length_drop]; omega)) (fun p1 hpp1 hcp1 => ?_)
      | refine WL.atOZ (x := .tmp 12) (y := .tmp 13) (f := VV) (.slice none 0 0) rfl rfl ho1 (by first | omega | (simp only [List.length_set]; omega) | (simp only [List.length_append, List.length_take, List.length_replicate, List.length_drop]; omega)) (fun p1 hpp1 hzp1 hcp1 => ?_)
    refine WL.pure rfl rfl rfl ((by first | exact PV.indexAddr hpp1 rfl rfl T.sl25 | exact PV.indexAddr hpp1 rfl (by rw [← hzp1]; rfl) T.sl25)) ?_
    refine WL.pure rfl rfl rfl ((by first | exact PV.load0 T.na28 rfl (by first | exact Cells.up (by assumption) hB | exact Bx.cells (by assumption) | assumption) (Ext.refl _) rfl | exact PV.load1 T.na28 rfl (by first | exact Cells.up (by assumption) hB | exact Bx.cells (by assumption) | assumption) (Ext.refl _) rfl)) ?_
    refine WL.pure rfl rfl rfl (PV.move rfl) ?_
    refine WL.op rfl (OpK.call rfl T.cf20 rfl (by have h8 := sumL_get (xss := xss) (k := i) (by omega); have h7 := sumL_succ (xss := xss) (k := i) (by omega); have h6 := sumL_nn ((xss).take (i)); have h5 := sumL_take (xss) (i + 1); have h9 := markIn (fun h0 h1 => c_laws_markInt64S h0 h1) hn2 (j := i) (by rw [mixS_len _ _ _ (by omega)]; omega) (k := k + sumL ((xss).take (i))) (by rw [mixS_get (by omega)]; omega); rw [mixS_get (by omega), mixS_set (by omega), show k + sumL ((xss).take (i)) + (((xss).getD (i) []).length : Int) = k + sumL ((xss).take (i + 1)) from (by omega)] at h9; exact h9) (fun rv1 w1 hR => ?_))
    obtain ⟨rfl, hUC3, hinC3⟩ := hR
    have hUB := hUB.trans hUC3 (AllO.mk fun o ho => OkB.mem ho)
    have hU0 := hU0.trans hUC3 (AllO.mk fun o ho => OkB.mem ho)
    have ho1 := ho1.loop hUC3 (DI.all hd1_2)
    have hn2 := hinC3; have hlv2 := hn2.lv
    refine WL.pure rfl rfl rfl (PV.assign rfl) ?_
    refine WL.nil ?_
    refine NQ.block ?_
    refine NQ.then ?_
    refine CW.reg ?_
    refine WL.pure rfl rfl rfl (PV.move rfl) ?_
    refine WL.pure rfl rfl rfl (PV.add rfl rfl (by constructor <;> omega)) ?_
    refine WL.pure rfl rfl rfl (PV.assign rfl) ?_
    refine WL.nil ?_
    refine NQ.next (ρ := [(1, _), (5, _)]) ⟨rfl, rfl, rfl, trivial⟩ ?_
    exact ⟨_, ⟨i + 1, (by rfl), rfl, hU0, (by first | omega | assumption | (simp_all; done) | (simp_all; omega)), (by assumption)⟩, by omega⟩
  try simp only [decide_eq_true_eq, decide_eq_false_iff_not, Bool.not_eq_true', Bool.not_eq_false', Bool.not_eq_eq_eq_not, Bool.not_true, Bool.not_false, Int.not_lt, Int.not_le, Classical.not_not, beq_iff_eq, beq_eq_false_iff_ne] at hc1
  refine CW.exit ?_
  refine XQ.then ?_
  refine XQ.then ?_
  refine XQ.here ?_
  refine NQ.then ?_
  refine CW.seq ?_
  refine CW.reg ?_
  refine WL.pure rfl rfl rfl (PV.move rfl) ?_
  refine WL.pure rfl rfl rfl (PV.assign rfl) ?_
  refine WL.nilS ?_
  refine CW.ret ?_
  refine RQ.r1 rfl ?_
  refine ⟨?_, hUB, innE hn2 ?_⟩
  · skip
    exact iE (by rw [List.take_of_length_le (by omega)])
  · skip
    exact mixS_done (by omega)
theorem c_laws_heldInt64S {w : World} {va : Value} {xs : List Int} {k : Int} (ha : Rd EI w va xs) (hk : 0 ≤ k ∧ k + xs.length ≤ 9223372036854775807) : Calls Try.prog 21 #[va, .int .i64 k] w (Ret1 (RQt (.int .i64 (if xs = marks k xs.length then k + xs.length else -1)) w)) := by
  have hB : Ext w w := Ext.refl w
  have hla := ha.leI
  refine callsOf (vs := [_, _]) Try.func21 rfl Try.ntmps21 rfl rfl ?_
  refine CW.seq ?_
  refine CW.reg ?_
  refine WL.pure rfl rfl rfl (PV.assign rfl) ?_
  refine WL.nilS ?_
  refine CW.seq ?_
  refine CW.seq ?_
  refine CW.reg ?_
  refine WL.pure rfl rfl rfl (PV.assign rfl) ?_
  refine WL.nilS ?_
  refine CW.block ?_
  refine CW.loop (σk := [(0, _)]) (fun ρ wz m => ∃ (i : Nat), ρ = [(1, .int .i64 (k + (i : Nat))), (5, .int .i64 (i : Nat))] ∧ m = xs.length - i ∧ UpdL [] w wz ∧ (i ≤ xs.length) ∧ (xs.take i = marks k i)) (ρ₀ := [(1, _), (5, _)]) (m₀ := _) ⟨rfl, rfl, rfl, trivial⟩ ⟨0, (by simp), rfl, (UpdL.refl _ _), (by first | omega | rfl | (simp; done) | assumption | (simp_all; done)), (by simp [marks])⟩ ?_
  rintro _ wl1 _ ⟨i, rfl, rfl, hU0, hi, he⟩
  have hB := hB.loop hU0 trivial
  refine CW.seq ?_
  refine CW.seq ?_
  refine CW.reg ?_
  refine WL.pure rfl rfl rfl (PV.move rfl) ?_
  refine WL.pure rfl rfl rfl (PV.move rfl) ?_
  refine WL.pure rfl rfl rfl ((by first | exact PV.len rfl (by assumption) T.sl28 | exact PV.lenOs rfl (by assumption) T.sl28 | exact PV.len rfl (NL.rd (by assumption)) T.sl28 | exact PV.len rfl (Inn.rd (by assumption) (by omega)) T.sl28)) ?_
  refine WL.pure rfl rfl rfl (PV.lss rfl rfl) ?_
  refine WL.nilS ?_
  refine CW.cond rfl (fun hc1 => ?_) (fun hc1 => ?_)
  · skip
    try simp only [decide_eq_true_eq, decide_eq_false_iff_not, Bool.not_eq_true', Bool.not_eq_false', Bool.not_eq_eq_eq_not, Bool.not_true, Bool.not_false, Int.not_lt, Int.not_le, Classical.not_not, beq_iff_eq, beq_eq_false_iff_ne] at hc1
    refine CW.skipS ?_
    refine CW.seq ?_
    refine CW.block ?_
    refine CW.seq ?_
    refine CW.seq ?_
    refine CW.reg ?_
    refine WL.pure rfl rfl rfl (PV.move rfl) ?_
    refine WL.pure rfl rfl rfl (PV.move rfl) ?_
    first
      | refine WL.at (x := .tmp 12) (y := .tmp 13) (E := EI) (0) rfl rfl (by first | assumption | exact Inn.rd (by assumption) (by omega)) (by first | omega | (simp only [List.length_set]; omega) | (simp only [List.length_append, List.length_take, List.length_replicate, List.length_drop]; omega)) (fun p1 csp1 hpp1 hcp1 hq => ?_)
      | refine WL.atZ (x := .tmp 12) (y := .tmp 13) (E := EI) (0) rfl rfl (by first | assumption | exact Inn.rd (by assumption) (by omega)) (by first | omega | (simp only [List.length_set]; omega) | (simp only [List.length_append, List.length_take, List.length_replicate, List.length_drop]; omega)) (fun p1 csp1 hpp1 hzp1 hcp1 hq => ?_)
    cases hq
    refine WL.pure rfl rfl rfl ((by first | exact PV.indexAddr hpp1 rfl rfl T.sl28 | exact PV.indexAddr hpp1 rfl (by rw [← hzp1]; rfl) T.sl28)) ?_
    refine WL.pure rfl rfl rfl ((by first | exact PV.load0 T.na2 rfl (by first | exact Cells.up (by assumption) hB | exact Bx.cells (by assumption) | assumption) (Ext.refl _) rfl | exact PV.load1 T.na2 rfl (by first | exact Cells.up (by assumption) hB | exact Bx.cells (by assumption) | assumption) (Ext.refl _) rfl)) ?_
    refine WL.pure rfl rfl rfl (PV.move rfl) ?_
    refine WL.pure rfl rfl rfl (PV.neq rfl rfl) ?_
    refine WL.nilS ?_
    refine CW.cond rfl (fun hc2 => ?_) (fun hc2 => ?_)
    · skip
      try simp only [decide_eq_true_eq, decide_eq_false_iff_not, Bool.not_eq_true', Bool.not_eq_false', Bool.not_eq_eq_eq_not, Bool.not_true, Bool.not_false, Int.not_lt, Int.not_le, Classical.not_not, beq_iff_eq, beq_eq_false_iff_ne] at hc2
      refine CW.seq ?_
      refine CW.reg ?_
      refine WL.pure rfl rfl rfl (PV.assign rfl) ?_
      refine WL.nilS ?_
      refine CW.ret ?_
      refine RQ.then ?_
      refine RQ.block ?_
      refine RQ.then ?_
      refine RQ.then ?_
      refine RQ.block ?_
      refine RQ.then ?_
      refine RQ.r1 rfl ?_
      refine ⟨?_, hB⟩
      first | (rw [if_neg (marks_bad (i := i) (by omega) (by assumption))]) | (rw [if_pos (marks_eq (i := i) (by omega) (by omega) he)]; exact iE (by omega))
    try simp only [decide_eq_true_eq, decide_eq_false_iff_not, Bool.not_eq_true', Bool.not_eq_false', Bool.not_eq_eq_eq_not, Bool.not_true, Bool.not_false, Int.not_lt, Int.not_le, Classical.not_not, beq_iff_eq, beq_eq_false_iff_ne] at hc2
    refine CW.skipS ?_
    refine CW.reg ?_
    refine WL.pure rfl rfl rfl (PV.move rfl) ?_
    refine WL.pure rfl rfl rfl (PV.add rfl rfl (by constructor <;> omega)) ?_
    refine WL.pure rfl rfl rfl (PV.assign rfl) ?_
    refine WL.nil ?_
    refine NQ.block ?_
    refine NQ.then ?_
    refine CW.reg ?_
    refine WL.pure rfl rfl rfl (PV.move rfl) ?_
    refine WL.pure rfl rfl rfl (PV.add rfl rfl (by constructor <;> omega)) ?_
    refine WL.pure rfl rfl rfl (PV.assign rfl) ?_
    refine WL.nil ?_
    refine NQ.next (ρ := [(1, _), (5, _)]) ⟨rfl, rfl, rfl, trivial⟩ ?_
    exact ⟨_, ⟨i + 1, (by simp; omega), rfl, hU0, (by first | omega | assumption | (simp_all; done) | (simp_all; omega)), (by exact marks_step (by omega) he (by assumption))⟩, by omega⟩
  try simp only [decide_eq_true_eq, decide_eq_false_iff_not, Bool.not_eq_true', Bool.not_eq_false', Bool.not_eq_eq_eq_not, Bool.not_true, Bool.not_false, Int.not_lt, Int.not_le, Classical.not_not, beq_iff_eq, beq_eq_false_iff_ne] at hc1
  refine CW.exit ?_
  refine XQ.then ?_
  refine XQ.then ?_
  refine XQ.here ?_
  refine NQ.then ?_
  refine CW.seq ?_
  refine CW.reg ?_
  refine WL.pure rfl rfl rfl (PV.move rfl) ?_
  refine WL.pure rfl rfl rfl (PV.assign rfl) ?_
  refine WL.nilS ?_
  refine CW.ret ?_
  refine RQ.r1 rfl ?_
  refine ⟨?_, hB⟩
  first | (rw [if_neg (marks_bad (i := i) (by omega) (by assumption))]) | (rw [if_pos (marks_eq (i := i) (by omega) (by omega) he)]; exact iE (by omega))
theorem c_laws_FnExactParsesShared {w : World} {a0 : Int} {a1 : Int} {va2 : Value} {xa2 : List R4} {vb : Value} {wss : List (List Int)} {wk : Int} (ha2 : Rd ER w va2 xa2) (hb : Rd (ESl EI) w vb wss) : Calls Try.prog 3 #[.agg #[.int .i64 a0, .int .i64 a1, va2], vb, .int .i64 wk] w (Ret1 (RQt (.bool true) w)) := by
  have hB : Ext w w := Ext.refl w
  have hla2 := ha2.leI; have hlb9 := hb.leI; have hsb := sumL_nn wss; have hel := ps_len (a0 := a0) (a1 := a1) (rs := xa2) (wss := wss) (wk := wk) (fun w => leastC xa2 w 0 w.length 0)
  refine callsOf (vs := [_, _, _]) Try.func3 rfl Try.ntmps3 rfl rfl ?_
  refine CW.seq ?_
  refine CW.reg ?_
  refine WL.op rfl (OpK.box rfl rfl (by first | exact Rd.cells1 (by assumption) | exact Osl.cells1 (by assumption) | exact Osn.cells1 (by assumption) | exact Rd.cells1 (NL.rd (by assumption)) | exact Inn.cell1 (by assumption) (by omega) | rfl) (fun b1 w1 hXw1 hb1 hge1 => ?_))
  have hl1 := Lo.new hB hge1
  have hB := hB.trans hXw1
  refine WL.pure rfl rfl rfl (PV.assign rfl) ?_
  refine WL.nilS ?_
  refine CW.seq ?_
  refine CW.reg ?_
  refine WL.pure rfl rfl rfl (PV.assign rfl) ?_
  refine WL.nilS ?_
  refine CW.seq ?_
  refine CW.reg ?_
  refine WL.pure rfl rfl rfl ((by first | exact PV.loadA T.ag24 rfl (by first | exact Cells.up (by assumption) hB | exact Bx.cells (by assumption) | assumption) (Ext.refl _) rfl | exact PV.loadP (ds := [_, _, _]) T.ag24 rfl (by first | exact Cells.up (by assumption) hB | exact Bx.cells (by assumption) | assumption) (Ext.refl _) rfl rfl)) ?_
  refine WL.pure rfl rfl rfl (PV.move rfl) ?_
  refine WL.op rfl (OpK.callR rfl T.cf9 rfl (c_laws_szGrammar (by first | assumption | exact Rd.up (by assumption) hB | exact Osl.rd (by assumption) | exact Osn.rdR (by assumption) | exact NL.rd (by assumption) | exact rdII (by assumption) (by assumption) | exact Inn.rd (by assumption) (by omega)) (by first | assumption | omega | (simp only [marks_len, marksB_len, marksR_len, sumL_marksS]; omega))) (fun w2 hXw2 => ?_))
  have hB := hB.trans hXw2
  have hb1 := hb1.up hXw2
  refine WL.pure rfl rfl rfl (PV.assign rfl) ?_
  refine WL.nilS ?_
  refine CW.seq ?_
  refine CW.seq ?_
  refine CW.reg ?_
  refine WL.pure rfl rfl rfl (PV.move rfl) ?_
  refine WL.pure rfl rfl rfl (PV.lss rfl rfl) ?_
  refine WL.nilS ?_
  refine CW.cond rfl (fun hc1 => ?_) (fun hc1 => ?_)
  · skip
    try simp only [decide_eq_true_eq, decide_eq_false_iff_not, Bool.not_eq_true', Bool.not_eq_false', Bool.not_eq_eq_eq_not, Bool.not_true, Bool.not_false, Int.not_lt, Int.not_le, Classical.not_not, beq_iff_eq, beq_eq_false_iff_ne] at hc1
    refine CW.seq ?_
    refine CW.reg ?_
    refine WL.pure rfl rfl rfl (PV.assign rfl) ?_
    refine WL.nilS ?_
    refine CW.ret ?_
    refine RQ.then ?_
    refine RQ.r1 rfl ?_
    refine ⟨?_, hB⟩
    first | rfl | (exfalso; revert hc1; simp; done) | (exfalso; revert hc1; simp; omega) | (exfalso; omega) | first | rfl | exact bT (by omega) | exact bF (by omega) | exact bD (by omega) | exact iE (by omega) | (simp_all; done) | (simp_all; omega) | (simp_all; intros; omega)
  try simp only [decide_eq_true_eq, decide_eq_false_iff_not, Bool.not_eq_true', Bool.not_eq_false', Bool.not_eq_eq_eq_not, Bool.not_true, Bool.not_false, Int.not_lt, Int.not_le, Classical.not_not, beq_iff_eq, beq_eq_false_iff_ne] at hc1
  refine CW.skipS ?_
  refine CW.seq ?_
  refine CW.reg ?_
  refine WL.pure rfl rfl rfl (PV.move rfl) ?_
  refine WL.pure rfl rfl rfl (PV.move rfl) ?_
  refine WL.op rfl (OpK.callR rfl T.cf10 rfl (c_laws_szInt64SS (by first | assumption | exact Rd.up (by assumption) hB | exact Osl.rd (by assumption) | exact Osn.rdR (by assumption) | exact NL.rd (by assumption) | exact rdII (by assumption) (by assumption) | exact Inn.rd (by assumption) (by omega)) (by first | assumption | omega | (simp only [marks_len, marksB_len, marksR_len, sumL_marksS]; omega))) (fun w3 hXw3 => ?_))
  have hB := hB.trans hXw3
  have hb1 := hb1.up hXw3
  refine WL.pure rfl rfl rfl (PV.assign rfl) ?_
  refine WL.nilS ?_
  refine CW.seq ?_
  refine CW.seq ?_
  refine CW.reg ?_
  refine WL.pure rfl rfl rfl (PV.move rfl) ?_
  refine WL.pure rfl rfl rfl (PV.lss rfl rfl) ?_
  refine WL.nilS ?_
  refine CW.cond rfl (fun hc2 => ?_) (fun hc2 => ?_)
  · skip
    try simp only [decide_eq_true_eq, decide_eq_false_iff_not, Bool.not_eq_true', Bool.not_eq_false', Bool.not_eq_eq_eq_not, Bool.not_true, Bool.not_false, Int.not_lt, Int.not_le, Classical.not_not, beq_iff_eq, beq_eq_false_iff_ne] at hc2
    refine CW.seq ?_
    refine CW.reg ?_
    refine WL.pure rfl rfl rfl (PV.assign rfl) ?_
    refine WL.nilS ?_
    refine CW.ret ?_
    refine RQ.then ?_
    refine RQ.r1 rfl ?_
    refine ⟨?_, hB⟩
    first | rfl | (exfalso; revert hc2; simp; done) | (exfalso; revert hc2; simp; omega) | (exfalso; omega) | first | rfl | exact bT (by omega) | exact bF (by omega) | exact bD (by omega) | exact iE (by omega) | (simp_all; done) | (simp_all; omega) | (simp_all; intros; omega)
  try simp only [decide_eq_true_eq, decide_eq_false_iff_not, Bool.not_eq_true', Bool.not_eq_false', Bool.not_eq_eq_eq_not, Bool.not_true, Bool.not_false, Int.not_lt, Int.not_le, Classical.not_not, beq_iff_eq, beq_eq_false_iff_ne] at hc2
  refine CW.skipS ?_
  refine CW.seq ?_
  refine CW.reg ?_
  refine WL.pure rfl rfl rfl ((by first | exact PV.loadA T.ag24 rfl (by first | exact Cells.up (by assumption) hB | exact Bx.cells (by assumption) | assumption) (Ext.refl _) rfl | exact PV.loadP (ds := [_, _, _]) T.ag24 rfl (by first | exact Cells.up (by assumption) hB | exact Bx.cells (by assumption) | assumption) (Ext.refl _) rfl rfl)) ?_
  refine WL.op rfl (OpK.call rfl T.cf12 rfl (c_laws_toGrammar (by first | assumption | exact Rd.up (by assumption) hB | exact Osl.rd (by assumption) | exact Osn.rdR (by assumption) | exact NL.rd (by assumption) | exact rdII (by assumption) (by assumption) | exact Inn.rd (by assumption) (by omega)) (by first | assumption | omega | (simp only [marks_len, marksB_len, marksR_len, sumL_marksS]; omega))) (fun rv1 w4 hR => ?_))
  obtain ⟨hXw4, v2, og2, rfl, ho2, hq2⟩ := hR
  have hl2 := Lo.up hq2 hB
  have hd1_2 := Dj.lo hb1.ltO hq2
  have hB := hB.trans hXw4
  have hb1 := hb1.up hXw4
  refine WL.pure rfl rfl rfl (PV.move rfl) ?_
  refine WL.op rfl (OpK.call rfl T.cf13 rfl (c_laws_toInt64SS (by first | assumption | exact Rd.up (by assumption) hB | exact Osl.rd (by assumption) | exact Osn.rdR (by assumption) | exact NL.rd (by assumption) | exact rdII (by assumption) (by assumption) | exact Inn.rd (by assumption) (by omega)) (by first | assumption | omega | (simp only [marks_len, marksB_len, marksR_len, sumL_marksS]; omega)) (by first | assumption | omega | (simp only [marks_len, marksB_len, marksR_len, sumL_marksS]; omega))) (fun rv2 w5 hR => ?_))
  obtain ⟨hXw5, v3, og3, vs4, os4, rfl, ho3, hq3, hn4, hq4, hd3_4⟩ := hR
  have hl3 := Lo.up hq3 hB
  have hd1_3 := Dj.lo hb1.ltO hq3
  have hd2_3 := Dj.lo ho2.ltO hq3
  have hl4 := LoI.up hq4 hB
  have hlv4 := hn4.lv
  have hd1_4 := DI.lo hb1.ltO hq4
  have hd2_4 := DI.lo ho2.ltO hq4
  have hB := hB.trans hXw5
  have hb1 := hb1.up hXw5
  have ho2 := ho2.up hXw5
  refine WL.pure rfl rfl rfl (PV.move rfl) ?_
  refine WL.op rfl (OpK.call rfl T.cf11 rfl (c_spec_ParsesShared (by first | assumption | exact Rd.up (by assumption) hB | exact Osl.rd (by assumption) | exact Osn.rdR (by assumption) | exact NL.rd (by assumption) | exact rdII (by assumption) (by assumption) | exact Inn.rd (by assumption) (by omega)) (by first | assumption | exact Rd.up (by assumption) hB | exact Osl.rd (by assumption) | exact Osn.rdR (by assumption) | exact NL.rd (by assumption) | exact rdII (by assumption) (by assumption) | exact Inn.rd (by assumption) (by omega))) (fun rv3 w6 hR => ?_))
  obtain ⟨hXw6, v5, og5, rfl, ho5, hq5⟩ := hR
  have hl5 := Lo.up hq5 hB
  have hd1_5 := Dj.lo hb1.ltO hq5
  have hd2_5 := Dj.lo ho2.ltO hq5
  have hd3_5 := Dj.lo ho3.ltO hq5
  have hd4_5 := DI.fresh hn4 hq5
  have hB := hB.trans hXw6
  have hb1 := hb1.up hXw6
  have ho2 := ho2.up hXw6
  have ho3 := ho3.up hXw6
  have hn4 := hn4.up hXw6
  refine WL.pure rfl rfl rfl (PV.move rfl) ?_
  refine WL.pure rfl rfl rfl (PV.extract rfl rfl) ?_
  refine WL.pure rfl rfl rfl (PV.extract rfl rfl) ?_
  refine WL.pure rfl rfl rfl (PV.assign rfl) ?_
  refine WL.pure rfl rfl rfl (PV.assign rfl) ?_
  refine WL.nilS ?_
  refine CW.seq ?_
  refine CW.reg ?_
  refine WL.pure rfl rfl rfl ((by first | exact PV.loadA T.ag24 rfl (by first | exact Cells.up (by assumption) hB | exact Bx.cells (by assumption) | assumption) (Ext.refl _) rfl | exact PV.loadP (ds := [_, _, _]) T.ag24 rfl (by first | exact Cells.up (by assumption) hB | exact Bx.cells (by assumption) | assumption) (Ext.refl _) rfl rfl)) ?_
  refine WL.op rfl (OpK.call rfl T.cf12 rfl (c_laws_toGrammar (by first | assumption | exact Rd.up (by assumption) hB | exact Osl.rd (by assumption) | exact Osn.rdR (by assumption) | exact NL.rd (by assumption) | exact rdII (by assumption) (by assumption) | exact Inn.rd (by assumption) (by omega)) (by first | assumption | omega | (simp only [marks_len, marksB_len, marksR_len, sumL_marksS]; omega))) (fun rv4 w7 hR => ?_))
  obtain ⟨hXw7, v6, og6, rfl, ho6, hq6⟩ := hR
  have hl6 := Lo.up hq6 hB
  have hd1_6 := Dj.lo hb1.ltO hq6
  have hd2_6 := Dj.lo ho2.ltO hq6
  have hd3_6 := Dj.lo ho3.ltO hq6
  have hd4_6 := DI.fresh hn4 hq6
  have hd5_6 := Dj.lo ho5.ltO hq6
  have hB := hB.trans hXw7
  have hb1 := hb1.up hXw7
  have ho2 := ho2.up hXw7
  have ho3 := ho3.up hXw7
  have hn4 := hn4.up hXw7
  have ho5 := ho5.up hXw7
  refine WL.op rfl (OpK.alloc rfl T.zv33 rfl (fun b7 w8 hXw8 hb7 hge7 => ?_))
  have hl7 := Lo.new hB hge7
  have hd1_7 := Dj.new hb1.ltO hge7
  have hd2_7 := Dj.new ho2.ltO hge7
  have hd3_7 := Dj.new ho3.ltO hge7
  have hd4_7 := DI.new hn4 hge7
  have hd5_7 := Dj.new ho5.ltO hge7
  have hd6_7 := Dj.new ho6.ltO hge7
  have hB := hB.trans hXw8
  have hb1 := hb1.up hXw8
  have ho2 := ho2.up hXw8
  have ho3 := ho3.up hXw8
  have hn4 := hn4.up hXw8
  have ho5 := ho5.up hXw8
  have ho6 := ho6.up hXw8
  refine WL.op rfl (OpK.storeA T.sz33 rfl rfl rfl rfl (by simp [Value.oneCell'] <;> first | done | (repeat' apply And.intro) <;> first | rfl | exact Inn.one1 (by assumption) (by omega) | exact Osl.oneCell (by assumption) | exact Osn.oneCell (by assumption) | exact Rd.oneCell (by assumption) | exact Rd.oneCell (NL.rd (by assumption)) | assumption) hb7 (fun w9 hXw9 hb7 => ?_))
  have hB := hB.updL hXw9 hl7
  have hb1 := hb1.updD hXw9 hd1_7
  have ho2 := ho2.updD hXw9 hd2_7
  have ho3 := ho3.updD hXw9 hd3_7
  have hn4 := hn4.updD hXw9 hd4_7
  have ho5 := ho5.updD hXw9 hd5_7
  have ho6 := ho6.updD hXw9 hd6_7
  refine WL.nilS ?_
  refine CW.seq ?_
  refine CW.reg ?_
  refine WL.pure rfl rfl rfl (PV.move rfl) ?_
  refine WL.op rfl (OpK.call rfl T.cf13 rfl (c_laws_toInt64SS (by first | assumption | exact Rd.up (by assumption) hB | exact Osl.rd (by assumption) | exact Osn.rdR (by assumption) | exact NL.rd (by assumption) | exact rdII (by assumption) (by assumption) | exact Inn.rd (by assumption) (by omega)) (by first | assumption | omega | (simp only [marks_len, marksB_len, marksR_len, sumL_marksS]; omega)) (by first | assumption | omega | (simp only [marks_len, marksB_len, marksR_len, sumL_marksS]; omega))) (fun rv5 w10 hR => ?_))
  obtain ⟨hXw10, v8, og8, vs9, os9, rfl, ho8, hq8, hn9, hq9, hd8_9⟩ := hR
  have hl8 := Lo.up hq8 hB
  have hd1_8 := Dj.lo hb1.ltO hq8
  have hd2_8 := Dj.lo ho2.ltO hq8
  have hd3_8 := Dj.lo ho3.ltO hq8
  have hd4_8 := DI.fresh hn4 hq8
  have hd5_8 := Dj.lo ho5.ltO hq8
  have hd6_8 := Dj.lo ho6.ltO hq8
  have hd7_8 := Dj.lo hb7.ltO hq8
  have hl9 := LoI.up hq9 hB
  have hlv9 := hn9.lv
  have hd1_9 := DI.lo hb1.ltO hq9
  have hd2_9 := DI.lo ho2.ltO hq9
  have hd3_9 := DI.lo ho3.ltO hq9
  have hdd4_9 := DD.symm (DD.lo hn4 hq9)
  have hd5_9 := DI.lo ho5.ltO hq9
  have hd6_9 := DI.lo ho6.ltO hq9
  have hd7_9 := DI.lo hb7.ltO hq9
  have hB := hB.trans hXw10
  have hb1 := hb1.up hXw10
  have ho2 := ho2.up hXw10
  have ho3 := ho3.up hXw10
  have hn4 := hn4.up hXw10
  have ho5 := ho5.up hXw10
  have ho6 := ho6.up hXw10
  have hb7 := hb7.up hXw10
  refine WL.pure rfl rfl rfl (PV.assign rfl) ?_
  refine WL.nilS ?_
  refine CW.seq ?_
  refine CW.reg ?_
  refine WL.pure rfl rfl rfl ((by first | exact PV.loadA T.ag33 rfl (by first | exact Cells.up (by assumption) hB | exact Bx.cells (by assumption) | assumption) (Ext.refl _) rfl | exact PV.loadP (ds := [_, _, _]) T.ag33 rfl (by first | exact Cells.up (by assumption) hB | exact Bx.cells (by assumption) | assumption) (Ext.refl _) rfl rfl)) ?_
  refine WL.pure rfl rfl rfl (PV.move rfl) ?_
  refine WL.pure rfl rfl rfl (PV.move rfl) ?_
  refine WL.op rfl (OpK.call rfl T.cf14 rfl (c_impl_ParsesShared (by first | assumption | exact Rd.up (by assumption) hB | exact Osl.rd (by assumption) | exact Osn.rdR (by assumption) | exact NL.rd (by assumption) | exact rdII (by assumption) (by assumption) | exact Inn.rd (by assumption) (by omega)) (by first | assumption | exact Rd.up (by assumption) hB | exact Osl.rd (by assumption) | exact Osn.rdR (by assumption) | exact NL.rd (by assumption) | exact rdII (by assumption) (by assumption) | exact Inn.rd (by assumption) (by omega))) (fun rv6 w11 hR => ?_))
  obtain ⟨hXw11, v10, og10, rfl, ho10, hq10⟩ := hR
  have hl10 := Lo.up hq10 hB
  have hd1_10 := Dj.lo hb1.ltO hq10
  have hd2_10 := Dj.lo ho2.ltO hq10
  have hd3_10 := Dj.lo ho3.ltO hq10
  have hd4_10 := DI.fresh hn4 hq10
  have hd5_10 := Dj.lo ho5.ltO hq10
  have hd6_10 := Dj.lo ho6.ltO hq10
  have hd7_10 := Dj.lo hb7.ltO hq10
  have hd8_10 := Dj.lo ho8.ltO hq10
  have hd9_10 := DI.fresh hn9 hq10
  have hB := hB.trans hXw11
  have hb1 := hb1.up hXw11
  have ho2 := ho2.up hXw11
  have ho3 := ho3.up hXw11
  have hn4 := hn4.up hXw11
  have ho5 := ho5.up hXw11
  have ho6 := ho6.up hXw11
  have hb7 := hb7.up hXw11
  have ho8 := ho8.up hXw11
  have hn9 := hn9.up hXw11
  refine WL.pure rfl rfl rfl (PV.move rfl) ?_
  refine WL.pure rfl rfl rfl (PV.extract rfl rfl) ?_
  refine WL.pure rfl rfl rfl (PV.extract rfl rfl) ?_
  refine WL.pure rfl rfl rfl (PV.assign rfl) ?_
  refine WL.pure rfl rfl rfl (PV.assign rfl) ?_
  refine WL.nilS ?_
  refine CW.seq ?_
  refine CW.seq ?_
  refine CW.reg ?_
  refine WL.pure rfl rfl rfl (PV.move rfl) ?_
  refine WL.pure rfl rfl rfl (PV.move rfl) ?_
  refine WL.op rfl (OpK.callR rfl T.cf15 rfl (c_laws_eqInt64S (by first | assumption | exact Rd.up (by assumption) hB | exact Osl.rd (by assumption) | exact Osn.rdR (by assumption) | exact NL.rd (by assumption) | exact rdII (by assumption) (by assumption) | exact Inn.rd (by assumption) (by omega)) (by first | assumption | exact Rd.up (by assumption) hB | exact Osl.rd (by assumption) | exact Osn.rdR (by assumption) | exact NL.rd (by assumption) | exact rdII (by assumption) (by assumption) | exact Inn.rd (by assumption) (by omega))) (fun w12 hXw12 => ?_))
  have hB := hB.trans hXw12
  have hb1 := hb1.up hXw12
  have ho2 := ho2.up hXw12
  have ho3 := ho3.up hXw12
  have hn4 := hn4.up hXw12
  have ho5 := ho5.up hXw12
  have ho6 := ho6.up hXw12
  have hb7 := hb7.up hXw12
  have ho8 := ho8.up hXw12
  have hn9 := hn9.up hXw12
  have ho10 := ho10.up hXw12
  refine WL.pure rfl rfl rfl (PV.not rfl) ?_
  refine WL.pure rfl rfl rfl (PV.move rfl) ?_
  refine WL.split (t := 53) rfl (fun hc3 => ?_) (fun hc3 => ?_)
  · skip
    try simp only [decide_eq_true_eq, decide_eq_false_iff_not, Bool.not_eq_true', Bool.not_eq_false', Bool.not_eq_eq_eq_not, Bool.not_true, Bool.not_false, Int.not_lt, Int.not_le, Classical.not_not, beq_iff_eq, beq_eq_false_iff_ne] at hc3
    refine WL.skip rfl rfl rfl rfl rfl ?_
    refine WL.skip rfl rfl rfl rfl rfl ?_
    refine WL.skip rfl rfl rfl rfl rfl ?_
    refine WL.pure rfl rfl rfl (PV.pickT rfl rfl) ?_
    refine WL.nilS ?_
    refine CW.condT rfl ?_
    refine CW.seq ?_
    refine CW.reg ?_
    refine WL.pure rfl rfl rfl (PV.assign rfl) ?_
    refine WL.nilS ?_
    refine CW.ret ?_
    refine RQ.then ?_
    refine RQ.r1 rfl ?_
    refine ⟨?_, hB⟩
    first | rfl | (exfalso; revert hc3; simp; done) | (exfalso; revert hc3; simp; omega) | (exfalso; omega) | first | rfl | exact bT (by omega) | exact bF (by omega) | exact bD (by omega) | exact iE (by omega) | (simp_all; done) | (simp_all; omega) | (simp_all; intros; omega)
  try simp only [decide_eq_true_eq, decide_eq_false_iff_not, Bool.not_eq_true', Bool.not_eq_false', Bool.not_eq_eq_eq_not, Bool.not_true, Bool.not_false, Int.not_lt, Int.not_le, Classical.not_not, beq_iff_eq, beq_eq_false_iff_ne] at hc3
  refine WL.pureG rfl rfl rfl rfl rfl (PV.move rfl) ?_
  refine WL.pureG rfl rfl rfl rfl rfl (PV.move rfl) ?_
  refine WL.pureG rfl rfl rfl rfl rfl (PV.neqB T.bl4 rfl rfl) ?_
  refine WL.pure rfl rfl rfl (PV.pickF rfl rfl) ?_
  refine WL.nilS ?_
  refine CW.cond rfl (fun hc4 => ?_) (fun hc4 => ?_)
  · skip
    try simp only [decide_eq_true_eq, decide_eq_false_iff_not, Bool.not_eq_true', Bool.not_eq_false', Bool.not_eq_eq_eq_not, Bool.not_true, Bool.not_false, Int.not_lt, Int.not_le, Classical.not_not, beq_iff_eq, beq_eq_false_iff_ne] at hc4
    refine CW.seq ?_
    refine CW.reg ?_
    refine WL.pure rfl rfl rfl (PV.assign rfl) ?_
    refine WL.nilS ?_
    refine CW.ret ?_
    refine RQ.then ?_
    refine RQ.r1 rfl ?_
    refine ⟨?_, hB⟩
    first | rfl | (exfalso; revert hc4; simp; done) | (exfalso; revert hc4; simp; omega) | (exfalso; omega) | first | rfl | exact bT (by omega) | exact bF (by omega) | exact bD (by omega) | exact iE (by omega) | (simp_all; done) | (simp_all; omega) | (simp_all; intros; omega)
  try simp only [decide_eq_true_eq, decide_eq_false_iff_not, Bool.not_eq_true', Bool.not_eq_false', Bool.not_eq_eq_eq_not, Bool.not_true, Bool.not_false, Int.not_lt, Int.not_le, Classical.not_not, beq_iff_eq, beq_eq_false_iff_ne] at hc4
  refine CW.skipS ?_
  refine CW.seq ?_
  refine CW.seq ?_
  refine CW.draw T.mixed (by kernel_rfl) (fun _ _ _ _ _ h => h) (fun w8 w9 => Upd none w8 w9) 5 (.take 0 (.take 1 (.must 2 (.must 3 (.take 4 .done))))) (by kernel_rfl) (fun w13 hXd => ?_)
  have hB := hB.trans hXd
  have hb1 := hb1.up hXd
  have ho2 := ho2.up hXd
  have ho3 := ho3.up hXd
  have hn4 := hn4.up hXd
  have ho5 := ho5.up hXd
  have ho6 := ho6.up hXd
  have hb7 := hb7.up hXd
  have ho8 := ho8.up hXd
  have hn9 := hn9.up hXd
  have ho10 := ho10.up hXd
  have hBr := hB
  have hS : Upd none w13 w13 := Ext.toUpd (Ext.refl _)
  refine HP.take rfl rfl rfl rfl hS (fun wS hS1 => (by first | exact PV.loadA T.ag33 rfl (by first | exact Cells.up (by assumption) (hBr.trans hS1) | exact Bx.cells (Bx.updD (by assumption) hS1 (Dj.nlR _)) | exact Cells.upd (by assumption) hS1 (by simp)) (Ext.refl _) rfl | exact PV.loadP (ds := [_, _, _]) T.ag33 rfl (by first | exact Cells.up (by assumption) (hBr.trans hS1) | exact Bx.cells (Bx.updD (by assumption) hS1 (Dj.nlR _)) | exact Cells.upd (by assumption) hS1 (by simp)) (Ext.refl _) rfl rfl)) ?_
  refine HP.take rfl rfl rfl rfl hS (fun wS hS1 => (by first | exact PV.loadA T.ag24 rfl (by first | exact Cells.up (by assumption) (hBr.trans hS1) | exact Bx.cells (Bx.updD (by assumption) hS1 (Dj.nlR _)) | exact Cells.upd (by assumption) hS1 (by simp)) (Ext.refl _) rfl | exact PV.loadP (ds := [_, _, _]) T.ag24 rfl (by first | exact Cells.up (by assumption) (hBr.trans hS1) | exact Bx.cells (Bx.updD (by assumption) hS1 (Dj.nlR _)) | exact Cells.upd (by assumption) hS1 (by simp)) (Ext.refl _) rfl rfl)) ?_
  refine HP.must rfl rfl (OpK.call rfl T.cf12 rfl (c_laws_toGrammar (by first | assumption | exact Rd.up (by assumption) hB | exact Osl.rd (by assumption) | exact Osn.rdR (by assumption) | exact NL.rd (by assumption) | exact rdII (by assumption) (by assumption) | exact Inn.rd (by assumption) (by omega)) (by first | assumption | omega | (simp only [marks_len, marksB_len, marksR_len, sumL_marksS]; omega))) (fun rv7 w14 hR => ?_))
  obtain ⟨hXw14, v11, og11, rfl, ho11, hq11⟩ := hR
  have hl11 := Lo.up hq11 hB
  have hv11 := Lo.up hq11 hS
  have hd1_11 := Dj.lo hb1.ltO hq11
  have hd2_11 := Dj.lo ho2.ltO hq11
  have hd3_11 := Dj.lo ho3.ltO hq11
  have hd4_11 := DI.fresh hn4 hq11
  have hd5_11 := Dj.lo ho5.ltO hq11
  have hd6_11 := Dj.lo ho6.ltO hq11
  have hd7_11 := Dj.lo hb7.ltO hq11
  have hd8_11 := Dj.lo ho8.ltO hq11
  have hd9_11 := DI.fresh hn9 hq11
  have hd10_11 := Dj.lo ho10.ltO hq11
  refine ⟨Upd.trans hS hXw14, ?_⟩
  have hS := Upd.trans hS hXw14
  have hB := hB.trans hXw14
  have hb1 := hb1.up hXw14
  have ho2 := ho2.up hXw14
  have ho3 := ho3.up hXw14
  have hn4 := hn4.up hXw14
  have ho5 := ho5.up hXw14
  have ho6 := ho6.up hXw14
  have hb7 := hb7.up hXw14
  have ho8 := ho8.up hXw14
  have hn9 := hn9.up hXw14
  have ho10 := ho10.up hXw14
  refine HP.must rfl rfl (OpK.callR rfl T.cf16 rfl (c_laws_eqGrammar (by first | assumption | exact Rd.up (by assumption) hB | exact Osl.rd (by assumption) | exact Osn.rdR (by assumption) | exact NL.rd (by assumption) | exact rdII (by assumption) (by assumption) | exact Inn.rd (by assumption) (by omega)) (by first | assumption | exact Rd.up (by assumption) hB | exact Osl.rd (by assumption) | exact Osn.rdR (by assumption) | exact NL.rd (by assumption) | exact rdII (by assumption) (by assumption) | exact Inn.rd (by assumption) (by omega))) (fun w15 hXw15 => ?_))
  refine ⟨Upd.trans hS hXw15, ?_⟩
  have hS := Upd.trans hS hXw15
  have hB := hB.trans hXw15
  have hb1 := hb1.up hXw15
  have ho2 := ho2.up hXw15
  have ho3 := ho3.up hXw15
  have hn4 := hn4.up hXw15
  have ho5 := ho5.up hXw15
  have ho6 := ho6.up hXw15
  have hb7 := hb7.up hXw15
  have ho8 := ho8.up hXw15
  have hn9 := hn9.up hXw15
  have ho10 := ho10.up hXw15
  have ho11 := ho11.up hXw15
  refine HP.take rfl rfl rfl rfl hS (fun wS hS1 => PV.not rfl) ?_
  refine HP.doneS ?_
  refine CW.cond rfl (fun hc5 => ?_) (fun hc5 => ?_)
  · skip
    try simp only [decide_eq_true_eq, decide_eq_false_iff_not, Bool.not_eq_true', Bool.not_eq_false', Bool.not_eq_eq_eq_not, Bool.not_true, Bool.not_false, Int.not_lt, Int.not_le, Classical.not_not, beq_iff_eq, beq_eq_false_iff_ne] at hc5
    refine CW.seq ?_
    refine CW.reg ?_
    refine WL.pure rfl rfl rfl (PV.assign rfl) ?_
    refine WL.nilS ?_
    refine CW.ret ?_
    refine RQ.then ?_
    refine RQ.r1 rfl ?_
    refine ⟨?_, hB⟩
    first | rfl | (exfalso; revert hc5; simp; done) | (exfalso; revert hc5; simp; omega) | (exfalso; omega) | first | rfl | exact bT (by omega) | exact bF (by omega) | exact bD (by omega) | exact iE (by omega) | (simp_all; done) | (simp_all; omega) | (simp_all; intros; omega)
  try simp only [decide_eq_true_eq, decide_eq_false_iff_not, Bool.not_eq_true', Bool.not_eq_false', Bool.not_eq_eq_eq_not, Bool.not_true, Bool.not_false, Int.not_lt, Int.not_le, Classical.not_not, beq_iff_eq, beq_eq_false_iff_ne] at hc5
  refine CW.skipS ?_
  refine CW.seq ?_
  refine CW.seq ?_
  refine CW.reg ?_
  refine WL.pure rfl rfl rfl (PV.move rfl) ?_
  refine WL.pure rfl rfl rfl (PV.move rfl) ?_
  refine WL.op rfl (OpK.call rfl T.cf13 rfl (c_laws_toInt64SS (by first | assumption | exact Rd.up (by assumption) hB | exact Osl.rd (by assumption) | exact Osn.rdR (by assumption) | exact NL.rd (by assumption) | exact rdII (by assumption) (by assumption) | exact Inn.rd (by assumption) (by omega)) (by first | assumption | omega | (simp only [marks_len, marksB_len, marksR_len, sumL_marksS]; omega)) (by first | assumption | omega | (simp only [marks_len, marksB_len, marksR_len, sumL_marksS]; omega))) (fun rv8 w16 hR => ?_))
  obtain ⟨hXw16, v12, og12, vs13, os13, rfl, ho12, hq12, hn13, hq13, hd12_13⟩ := hR
  have hl12 := Lo.up hq12 hB
  have hd1_12 := Dj.lo hb1.ltO hq12
  have hd2_12 := Dj.lo ho2.ltO hq12
  have hd3_12 := Dj.lo ho3.ltO hq12
  have hd4_12 := DI.fresh hn4 hq12
  have hd5_12 := Dj.lo ho5.ltO hq12
  have hd6_12 := Dj.lo ho6.ltO hq12
  have hd7_12 := Dj.lo hb7.ltO hq12
  have hd8_12 := Dj.lo ho8.ltO hq12
  have hd9_12 := DI.fresh hn9 hq12
  have hd10_12 := Dj.lo ho10.ltO hq12
  have hd11_12 := Dj.lo ho11.ltO hq12
  have hl13 := LoI.up hq13 hB
  have hlv13 := hn13.lv
  have hd1_13 := DI.lo hb1.ltO hq13
  have hd2_13 := DI.lo ho2.ltO hq13
  have hd3_13 := DI.lo ho3.ltO hq13
  have hdd4_13 := DD.symm (DD.lo hn4 hq13)
  have hd5_13 := DI.lo ho5.ltO hq13
  have hd6_13 := DI.lo ho6.ltO hq13
  have hd7_13 := DI.lo hb7.ltO hq13
  have hd8_13 := DI.lo ho8.ltO hq13
  have hdd9_13 := DD.symm (DD.lo hn9 hq13)
  have hd10_13 := DI.lo ho10.ltO hq13
  have hd11_13 := DI.lo ho11.ltO hq13
  have hB := hB.trans hXw16
  have hb1 := hb1.up hXw16
  have ho2 := ho2.up hXw16
  have ho3 := ho3.up hXw16
  have hn4 := hn4.up hXw16
  have ho5 := ho5.up hXw16
  have ho6 := ho6.up hXw16
  have hb7 := hb7.up hXw16
  have ho8 := ho8.up hXw16
  have hn9 := hn9.up hXw16
  have ho10 := ho10.up hXw16
  have ho11 := ho11.up hXw16
  refine WL.op rfl (OpK.callR rfl T.cf17 rfl (c_laws_eqInt64SS (by first | assumption | exact Rd.up (by assumption) hB | exact Osl.rd (by assumption) | exact Osn.rdR (by assumption) | exact NL.rd (by assumption) | exact rdII (by assumption) (by assumption) | exact Inn.rd (by assumption) (by omega)) (by first | assumption | exact Rd.up (by assumption) hB | exact Osl.rd (by assumption) | exact Osn.rdR (by assumption) | exact NL.rd (by assumption) | exact rdII (by assumption) (by assumption) | exact Inn.rd (by assumption) (by omega))) (fun w17 hXw17 => ?_))
  have hB := hB.trans hXw17
  have hb1 := hb1.up hXw17
  have ho2 := ho2.up hXw17
  have ho3 := ho3.up hXw17
  have hn4 := hn4.up hXw17
  have ho5 := ho5.up hXw17
  have ho6 := ho6.up hXw17
  have hb7 := hb7.up hXw17
  have ho8 := ho8.up hXw17
  have hn9 := hn9.up hXw17
  have ho10 := ho10.up hXw17
  have ho11 := ho11.up hXw17
  have ho12 := ho12.up hXw17
  have hn13 := hn13.up hXw17
  refine WL.pure rfl rfl rfl (PV.not rfl) ?_
  refine WL.nilS ?_
  refine CW.cond rfl (fun hc6 => ?_) (fun hc6 => ?_)
  · skip
    try simp only [decide_eq_true_eq, decide_eq_false_iff_not, Bool.not_eq_true', Bool.not_eq_false', Bool.not_eq_eq_eq_not, Bool.not_true, Bool.not_false, Int.not_lt, Int.not_le, Classical.not_not, beq_iff_eq, beq_eq_false_iff_ne] at hc6
    refine CW.seq ?_
    refine CW.reg ?_
    refine WL.pure rfl rfl rfl (PV.assign rfl) ?_
    refine WL.nilS ?_
    refine CW.ret ?_
    refine RQ.then ?_
    refine RQ.r1 rfl ?_
    refine ⟨?_, hB⟩
    first | rfl | (exfalso; revert hc6; simp; done) | (exfalso; revert hc6; simp; omega) | (exfalso; omega) | first | rfl | exact bT (by omega) | exact bF (by omega) | exact bD (by omega) | exact iE (by omega) | (simp_all; done) | (simp_all; omega) | (simp_all; intros; omega)
  try simp only [decide_eq_true_eq, decide_eq_false_iff_not, Bool.not_eq_true', Bool.not_eq_false', Bool.not_eq_eq_eq_not, Bool.not_true, Bool.not_false, Int.not_lt, Int.not_le, Classical.not_not, beq_iff_eq, beq_eq_false_iff_ne] at hc6
  refine CW.skipS ?_
  refine CW.seq ?_
  refine CW.reg ?_
  refine WL.pure rfl rfl rfl (PV.assign rfl) ?_
  refine WL.nilS ?_
  refine CW.seq ?_
  refine CW.reg ?_
  refine WL.pure rfl rfl rfl ((by first | exact PV.loadA T.ag33 rfl (by first | exact Cells.up (by assumption) hB | exact Bx.cells (by assumption) | assumption) (Ext.refl _) rfl | exact PV.loadP (ds := [_, _, _]) T.ag33 rfl (by first | exact Cells.up (by assumption) hB | exact Bx.cells (by assumption) | assumption) (Ext.refl _) rfl rfl)) ?_
  refine WL.pure rfl rfl rfl (PV.move rfl) ?_
  refine WL.op rfl (OpK.call rfl T.cf18 rfl (c_laws_markGrammar (by first | assumption | exact Dj.symm (by assumption)) (by first | assumption | omega | (simp only [marks_len, marksB_len, marksR_len, sumL_marksS]; omega))) (fun rv9 w18 hR => ?_))
  obtain ⟨rfl, hUC14, ho6⟩ := hR
  have hb1 := hb1.loop hUC14 ⟨hd1_6, trivial⟩
  have ho2 := ho2.loop hUC14 ⟨hd2_6, trivial⟩
  have ho3 := ho3.loop hUC14 ⟨hd3_6, trivial⟩
  have hn4 := hn4.loop hUC14 ⟨hd4_6, trivial⟩
  have ho5 := ho5.loop hUC14 ⟨hd5_6, trivial⟩
  have hb7 := hb7.loop hUC14 ⟨(Dj.symm hd6_7), trivial⟩
  have ho8 := ho8.loop hUC14 ⟨(Dj.symm hd6_8), trivial⟩
  have hn9 := hn9.loop hUC14 ⟨hd6_9, trivial⟩
  have ho10 := ho10.loop hUC14 ⟨(Dj.symm hd6_10), trivial⟩
  have ho11 := ho11.loop hUC14 ⟨(Dj.symm hd6_11), trivial⟩
  have ho12 := ho12.loop hUC14 ⟨(Dj.symm hd6_12), trivial⟩
  have hn13 := hn13.loop hUC14 ⟨hd6_13, trivial⟩
  have hB := hB.loop hUC14 ⟨hl6, trivial⟩
  refine WL.pure rfl rfl rfl (PV.assign rfl) ?_
  refine WL.nilS ?_
  refine CW.seq ?_
  refine CW.reg ?_
  refine WL.pure rfl rfl rfl (PV.move rfl) ?_
  refine WL.pure rfl rfl rfl (PV.move rfl) ?_
  refine WL.op rfl (OpK.call rfl T.cf19 rfl (c_laws_markInt64SS ho8 hn9 hd8_9 (by first | assumption | omega | (simp only [marks_len, marksB_len, marksR_len, sumL_marksS]; omega))) (fun rv10 w19 hR => ?_))
  obtain ⟨rfl, hUC15, hinC15⟩ := hR
  have hb1 := hb1.loop hUC15 (DI.all hd1_9)
  have ho2 := ho2.loop hUC15 (DI.all hd2_9)
  have ho3 := ho3.loop hUC15 (DI.all hd3_9)
  have hn4 := hn4.loop hUC15 (DD.all (DD.symm hdd4_9))
  have ho5 := ho5.loop hUC15 (DI.all hd5_9)
  have ho6 := ho6.loop hUC15 (DI.all hd6_9)
  have hb7 := hb7.loop hUC15 (DI.all hd7_9)
  have ho8 := ho8.loop hUC15 (DI.all hd8_9)
  have ho10 := ho10.loop hUC15 (DI.all hd9_10)
  have ho11 := ho11.loop hUC15 (DI.all hd9_11)
  have ho12 := ho12.loop hUC15 (DI.all hd9_12)
  have hn13 := hn13.loop hUC15 (DD.all hdd9_13)
  have hB := hB.loop hUC15 (LoI.all hl9)
  have hn9 := hinC15; have hlv9 := hn9.lv
  refine WL.pure rfl rfl rfl (PV.assign rfl) ?_
  refine WL.nilS ?_
  refine CW.seq ?_
  refine CW.seq ?_
  refine CW.reg ?_
  refine WL.pure rfl rfl rfl (PV.move rfl) ?_
  refine WL.pure rfl rfl rfl (PV.lss rfl rfl) ?_
  refine WL.pure rfl rfl rfl (PV.move rfl) ?_
  refine WL.split (t := 76) rfl (fun hc7 => ?_) (fun hc7 => ?_)
  · skip
    try simp only [decide_eq_true_eq, decide_eq_false_iff_not, Bool.not_eq_true', Bool.not_eq_false', Bool.not_eq_eq_eq_not, Bool.not_true, Bool.not_false, Int.not_lt, Int.not_le, Classical.not_not, beq_iff_eq, beq_eq_false_iff_ne] at hc7
    refine WL.skip rfl rfl rfl rfl rfl ?_
    refine WL.skip rfl rfl rfl rfl rfl ?_
    refine WL.skip rfl rfl rfl rfl rfl ?_
    refine WL.skip rfl rfl rfl rfl rfl ?_
    refine WL.pure rfl rfl rfl (PV.pickT rfl rfl) ?_
    refine WL.pure rfl rfl rfl (PV.move rfl) ?_
    refine WL.skip rfl rfl rfl rfl rfl ?_
    refine WL.skip rfl rfl rfl rfl rfl ?_
    refine WL.skip rfl rfl rfl rfl rfl ?_
    refine WL.pure rfl rfl rfl (PV.pickT rfl rfl) ?_
    refine WL.nilS ?_
    refine CW.condT rfl ?_
    refine CW.seq ?_
    refine CW.reg ?_
    refine WL.pure rfl rfl rfl (PV.assign rfl) ?_
    refine WL.nilS ?_
    refine CW.ret ?_
    refine RQ.then ?_
    refine RQ.r1 rfl ?_
    refine ⟨?_, hB⟩
    first | rfl | (exfalso; revert hc7; simp; done) | (exfalso; revert hc7; simp; omega) | (exfalso; omega) | first | rfl | exact bT (by omega) | exact bF (by omega) | exact bD (by omega) | exact iE (by omega) | (simp_all; done) | (simp_all; omega) | (simp_all; intros; omega)
  try simp only [decide_eq_true_eq, decide_eq_false_iff_not, Bool.not_eq_true', Bool.not_eq_false', Bool.not_eq_eq_eq_not, Bool.not_true, Bool.not_false, Int.not_lt, Int.not_le, Classical.not_not, beq_iff_eq, beq_eq_false_iff_ne] at hc7
  refine WL.pureG rfl rfl rfl rfl rfl (PV.move rfl) ?_
  refine WL.pureG rfl rfl rfl rfl rfl (PV.move rfl) ?_
  refine WL.opG rfl rfl rfl (OpK.callR rfl T.cf15 rfl (c_laws_eqInt64S (by first | assumption | exact Rd.up (by assumption) hB | exact Osl.rd (by assumption) | exact Osn.rdR (by assumption) | exact NL.rd (by assumption) | exact rdII (by assumption) (by assumption) | exact Inn.rd (by assumption) (by omega)) (by first | assumption | exact Rd.up (by assumption) hB | exact Osl.rd (by assumption) | exact Osn.rdR (by assumption) | exact NL.rd (by assumption) | exact rdII (by assumption) (by assumption) | exact Inn.rd (by assumption) (by omega))) (fun w20 hXw20 => ?_))
  have hB := hB.trans hXw20
  have hb1 := hb1.up hXw20
  have ho2 := ho2.up hXw20
  have ho3 := ho3.up hXw20
  have hn4 := hn4.up hXw20
  have ho5 := ho5.up hXw20
  have ho6 := ho6.up hXw20
  have hb7 := hb7.up hXw20
  have ho8 := ho8.up hXw20
  have hn9 := hn9.up hXw20
  have ho10 := ho10.up hXw20
  have ho11 := ho11.up hXw20
  have ho12 := ho12.up hXw20
  have hn13 := hn13.up hXw20
  refine WL.pureG rfl rfl rfl rfl rfl (PV.not rfl) ?_
  refine WL.pure rfl rfl rfl (PV.pickF rfl rfl) ?_
  refine WL.pure rfl rfl rfl (PV.move rfl) ?_
  refine WL.split (t := 82) rfl (fun hc8 => ?_) (fun hc8 => ?_)
  · skip
    try simp only [decide_eq_true_eq, decide_eq_false_iff_not, Bool.not_eq_true', Bool.not_eq_false', Bool.not_eq_eq_eq_not, Bool.not_true, Bool.not_false, Int.not_lt, Int.not_le, Classical.not_not, beq_iff_eq, beq_eq_false_iff_ne] at hc8
    refine WL.skip rfl rfl rfl rfl rfl ?_
    refine WL.skip rfl rfl rfl rfl rfl ?_
    refine WL.skip rfl rfl rfl rfl rfl ?_
    refine WL.pure rfl rfl rfl (PV.pickT rfl rfl) ?_
    refine WL.nilS ?_
    refine CW.condT rfl ?_
    refine CW.seq ?_
    refine CW.reg ?_
    refine WL.pure rfl rfl rfl (PV.assign rfl) ?_
    refine WL.nilS ?_
    refine CW.ret ?_
    refine RQ.then ?_
    refine RQ.r1 rfl ?_
    refine ⟨?_, hB⟩
    first | rfl | (exfalso; revert hc8; simp; done) | (exfalso; revert hc8; simp; omega) | (exfalso; omega) | first | rfl | exact bT (by omega) | exact bF (by omega) | exact bD (by omega) | exact iE (by omega) | (simp_all; done) | (simp_all; omega) | (simp_all; intros; omega)
  try simp only [decide_eq_true_eq, decide_eq_false_iff_not, Bool.not_eq_true', Bool.not_eq_false', Bool.not_eq_eq_eq_not, Bool.not_true, Bool.not_false, Int.not_lt, Int.not_le, Classical.not_not, beq_iff_eq, beq_eq_false_iff_ne] at hc8
  refine WL.pureG rfl rfl rfl rfl rfl (PV.move rfl) ?_
  refine WL.pureG rfl rfl rfl rfl rfl (PV.move rfl) ?_
  refine WL.pureG rfl rfl rfl rfl rfl (PV.neqB T.bl4 rfl rfl) ?_
  refine WL.pure rfl rfl rfl (PV.pickF rfl rfl) ?_
  refine WL.nilS ?_
  refine CW.cond rfl (fun hc9 => ?_) (fun hc9 => ?_)
  · skip
    try simp only [decide_eq_true_eq, decide_eq_false_iff_not, Bool.not_eq_true', Bool.not_eq_false', Bool.not_eq_eq_eq_not, Bool.not_true, Bool.not_false, Int.not_lt, Int.not_le, Classical.not_not, beq_iff_eq, beq_eq_false_iff_ne] at hc9
    refine CW.seq ?_
    refine CW.reg ?_
    refine WL.pure rfl rfl rfl (PV.assign rfl) ?_
    refine WL.nilS ?_
    refine CW.ret ?_
    refine RQ.then ?_
    refine RQ.r1 rfl ?_
    refine ⟨?_, hB⟩
    first | rfl | (exfalso; revert hc9; simp; done) | (exfalso; revert hc9; simp; omega) | (exfalso; omega) | first | rfl | exact bT (by omega) | exact bF (by omega) | exact bD (by omega) | exact iE (by omega) | (simp_all; done) | (simp_all; omega) | (simp_all; intros; omega)
  try simp only [decide_eq_true_eq, decide_eq_false_iff_not, Bool.not_eq_true', Bool.not_eq_false', Bool.not_eq_eq_eq_not, Bool.not_true, Bool.not_false, Int.not_lt, Int.not_le, Classical.not_not, beq_iff_eq, beq_eq_false_iff_ne] at hc9
  refine CW.skipS ?_
  refine CW.seq ?_
  refine CW.reg ?_
  refine WL.pure rfl rfl rfl (PV.assign rfl) ?_
  refine WL.nilS ?_
  refine CW.seq ?_
  refine CW.reg ?_
  refine WL.pure rfl rfl rfl (PV.move rfl) ?_
  refine WL.pure rfl rfl rfl (PV.move rfl) ?_
  refine WL.op rfl (OpK.call rfl T.cf20 rfl (c_laws_markInt64S (by first | assumption | exact Dj.symm (by assumption)) (by first | assumption | omega | (simp only [marks_len, marksB_len, marksR_len, sumL_marksS]; omega))) (fun rv11 w21 hR => ?_))
  obtain ⟨rfl, hUC16, ho10⟩ := hR
  have hb1 := hb1.loop hUC16 ⟨hd1_10, trivial⟩
  have ho2 := ho2.loop hUC16 ⟨hd2_10, trivial⟩
  have ho3 := ho3.loop hUC16 ⟨hd3_10, trivial⟩
  have hn4 := hn4.loop hUC16 ⟨hd4_10, trivial⟩
  have ho5 := ho5.loop hUC16 ⟨hd5_10, trivial⟩
  have ho6 := ho6.loop hUC16 ⟨hd6_10, trivial⟩
  have hb7 := hb7.loop hUC16 ⟨hd7_10, trivial⟩
  have ho8 := ho8.loop hUC16 ⟨hd8_10, trivial⟩
  have hn9 := hn9.loop hUC16 ⟨hd9_10, trivial⟩
  have ho11 := ho11.loop hUC16 ⟨(Dj.symm hd10_11), trivial⟩
  have ho12 := ho12.loop hUC16 ⟨(Dj.symm hd10_12), trivial⟩
  have hn13 := hn13.loop hUC16 ⟨hd10_13, trivial⟩
  have hB := hB.loop hUC16 ⟨hl10, trivial⟩
  refine WL.pure rfl rfl rfl (PV.assign rfl) ?_
  refine WL.nilS ?_
  refine CW.seq ?_
  refine CW.reg ?_
  refine WL.pure rfl rfl rfl (PV.assign rfl) ?_
  refine WL.nilS ?_
  refine CW.seq ?_
  refine CW.reg ?_
  refine WL.pure rfl rfl rfl (PV.move rfl) ?_
  refine WL.pure rfl rfl rfl (PV.move rfl) ?_
  refine WL.op rfl (OpK.callR rfl T.cf21 rfl (c_laws_heldInt64S (by first | assumption | exact Rd.up (by assumption) hB | exact Osl.rd (by assumption) | exact Osn.rdR (by assumption) | exact NL.rd (by assumption) | exact rdII (by assumption) (by assumption) | exact Inn.rd (by assumption) (by omega)) (by first | assumption | omega | (simp only [marks_len, marksB_len, marksR_len, sumL_marksS]; omega))) (fun w22 hXw22 => ?_))
  have hB := hB.trans hXw22
  have hb1 := hb1.up hXw22
  have ho2 := ho2.up hXw22
  have ho3 := ho3.up hXw22
  have hn4 := hn4.up hXw22
  have ho5 := ho5.up hXw22
  have ho6 := ho6.up hXw22
  have hb7 := hb7.up hXw22
  have ho8 := ho8.up hXw22
  have hn9 := hn9.up hXw22
  have ho10 := ho10.up hXw22
  have ho11 := ho11.up hXw22
  have ho12 := ho12.up hXw22
  have hn13 := hn13.up hXw22
  refine WL.pure rfl rfl rfl (PV.assign rfl) ?_
  refine WL.nilS ?_
  refine CW.seq ?_
  refine CW.seq ?_
  refine CW.reg ?_
  refine WL.pure rfl rfl rfl (PV.move rfl) ?_
  refine WL.pure rfl rfl rfl (PV.lss rfl rfl) ?_
  refine WL.nilS ?_
  refine CW.cond rfl (fun hc10 => ?_) (fun hc10 => ?_)
  · skip
    try simp only [decide_eq_true_eq, decide_eq_false_iff_not, Bool.not_eq_true', Bool.not_eq_false', Bool.not_eq_eq_eq_not, Bool.not_true, Bool.not_false, Int.not_lt, Int.not_le, Classical.not_not, beq_iff_eq, beq_eq_false_iff_ne] at hc10
    refine CW.seq ?_
    refine CW.reg ?_
    refine WL.pure rfl rfl rfl (PV.assign rfl) ?_
    refine WL.nilS ?_
    refine CW.ret ?_
    refine RQ.then ?_
    refine RQ.r1 rfl ?_
    refine ⟨?_, hB⟩
    first | rfl | (exfalso; revert hc10; simp; done) | (exfalso; revert hc10; simp; omega) | (exfalso; omega) | first | rfl | exact bT (by omega) | exact bF (by omega) | exact bD (by omega) | exact iE (by omega) | (simp_all; done) | (simp_all; omega) | (simp_all; intros; omega)
  try simp only [decide_eq_true_eq, decide_eq_false_iff_not, Bool.not_eq_true', Bool.not_eq_false', Bool.not_eq_eq_eq_not, Bool.not_true, Bool.not_false, Int.not_lt, Int.not_le, Classical.not_not, beq_iff_eq, beq_eq_false_iff_ne] at hc10
  refine CW.skipS ?_
  refine CW.seq ?_
  refine CW.seq ?_
  refine CW.reg ?_
  refine WL.pure rfl rfl rfl (PV.move rfl) ?_
  refine WL.pure rfl rfl rfl (PV.move rfl) ?_
  refine WL.pure rfl rfl rfl (PV.neq rfl rfl) ?_
  refine WL.nilS ?_
  refine CW.cond rfl (fun hc11 => ?_) (fun hc11 => ?_)
  · skip
    try simp only [decide_eq_true_eq, decide_eq_false_iff_not, Bool.not_eq_true', Bool.not_eq_false', Bool.not_eq_eq_eq_not, Bool.not_true, Bool.not_false, Int.not_lt, Int.not_le, Classical.not_not, beq_iff_eq, beq_eq_false_iff_ne] at hc11
    refine CW.seq ?_
    refine CW.reg ?_
    refine WL.pure rfl rfl rfl (PV.assign rfl) ?_
    refine WL.nilS ?_
    refine CW.ret ?_
    refine RQ.then ?_
    refine RQ.r1 rfl ?_
    refine ⟨?_, hB⟩
    first | rfl | (exfalso; revert hc11; simp; done) | (exfalso; revert hc11; simp; omega) | (exfalso; omega) | first | rfl | exact bT (by omega) | exact bF (by omega) | exact bD (by omega) | exact iE (by omega) | (simp_all; done) | (simp_all; omega) | (simp_all; intros; omega)
  try simp only [decide_eq_true_eq, decide_eq_false_iff_not, Bool.not_eq_true', Bool.not_eq_false', Bool.not_eq_eq_eq_not, Bool.not_true, Bool.not_false, Int.not_lt, Int.not_le, Classical.not_not, beq_iff_eq, beq_eq_false_iff_ne] at hc11
  refine CW.skipS ?_
  refine CW.seq ?_
  refine CW.reg ?_
  refine WL.pure rfl rfl rfl ((by first | exact PV.loadA T.ag24 rfl (by first | exact Cells.up (by assumption) hB | exact Bx.cells (by assumption) | assumption) (Ext.refl _) rfl | exact PV.loadP (ds := [_, _, _]) T.ag24 rfl (by first | exact Cells.up (by assumption) hB | exact Bx.cells (by assumption) | assumption) (Ext.refl _) rfl rfl)) ?_
  refine WL.op rfl (OpK.call rfl T.cf12 rfl (c_laws_toGrammar (by first | assumption | exact Rd.up (by assumption) hB | exact Osl.rd (by assumption) | exact Osn.rdR (by assumption) | exact NL.rd (by assumption) | exact rdII (by assumption) (by assumption) | exact Inn.rd (by assumption) (by omega)) (by first | assumption | omega | (simp only [marks_len, marksB_len, marksR_len, sumL_marksS]; omega))) (fun rv12 w23 hR => ?_))
  obtain ⟨hXw23, v17, og17, rfl, ho17, hq17⟩ := hR
  have hl17 := Lo.up hq17 hB
  have hd1_17 := Dj.lo hb1.ltO hq17
  have hd2_17 := Dj.lo ho2.ltO hq17
  have hd3_17 := Dj.lo ho3.ltO hq17
  have hd4_17 := DI.fresh hn4 hq17
  have hd5_17 := Dj.lo ho5.ltO hq17
  have hd6_17 := Dj.lo ho6.ltO hq17
  have hd7_17 := Dj.lo hb7.ltO hq17
  have hd8_17 := Dj.lo ho8.ltO hq17
  have hd9_17 := DI.fresh hn9 hq17
  have hd10_17 := Dj.lo ho10.ltO hq17
  have hd11_17 := Dj.lo ho11.ltO hq17
  have hd12_17 := Dj.lo ho12.ltO hq17
  have hd13_17 := DI.fresh hn13 hq17
  have hB := hB.trans hXw23
  have hb1 := hb1.up hXw23
  have ho2 := ho2.up hXw23
  have ho3 := ho3.up hXw23
  have hn4 := hn4.up hXw23
  have ho5 := ho5.up hXw23
  have ho6 := ho6.up hXw23
  have hb7 := hb7.up hXw23
  have ho8 := ho8.up hXw23
  have hn9 := hn9.up hXw23
  have ho10 := ho10.up hXw23
  have ho11 := ho11.up hXw23
  have ho12 := ho12.up hXw23
  have hn13 := hn13.up hXw23
  refine WL.pure rfl rfl rfl (PV.move rfl) ?_
  refine WL.op rfl (OpK.call rfl T.cf13 rfl (c_laws_toInt64SS (by first | assumption | exact Rd.up (by assumption) hB | exact Osl.rd (by assumption) | exact Osn.rdR (by assumption) | exact NL.rd (by assumption) | exact rdII (by assumption) (by assumption) | exact Inn.rd (by assumption) (by omega)) (by first | assumption | omega | (simp only [marks_len, marksB_len, marksR_len, sumL_marksS]; omega)) (by first | assumption | omega | (simp only [marks_len, marksB_len, marksR_len, sumL_marksS]; omega))) (fun rv13 w24 hR => ?_))
  obtain ⟨hXw24, v18, og18, vs19, os19, rfl, ho18, hq18, hn19, hq19, hd18_19⟩ := hR
  have hl18 := Lo.up hq18 hB
  have hd1_18 := Dj.lo hb1.ltO hq18
  have hd2_18 := Dj.lo ho2.ltO hq18
  have hd3_18 := Dj.lo ho3.ltO hq18
  have hd4_18 := DI.fresh hn4 hq18
  have hd5_18 := Dj.lo ho5.ltO hq18
  have hd6_18 := Dj.lo ho6.ltO hq18
  have hd7_18 := Dj.lo hb7.ltO hq18
  have hd8_18 := Dj.lo ho8.ltO hq18
  have hd9_18 := DI.fresh hn9 hq18
  have hd10_18 := Dj.lo ho10.ltO hq18
  have hd11_18 := Dj.lo ho11.ltO hq18
  have hd12_18 := Dj.lo ho12.ltO hq18
  have hd13_18 := DI.fresh hn13 hq18
  have hd17_18 := Dj.lo ho17.ltO hq18
  have hl19 := LoI.up hq19 hB
  have hlv19 := hn19.lv
  have hd1_19 := DI.lo hb1.ltO hq19
  have hd2_19 := DI.lo ho2.ltO hq19
  have hd3_19 := DI.lo ho3.ltO hq19
  have hdd4_19 := DD.symm (DD.lo hn4 hq19)
  have hd5_19 := DI.lo ho5.ltO hq19
  have hd6_19 := DI.lo ho6.ltO hq19
  have hd7_19 := DI.lo hb7.ltO hq19
  have hd8_19 := DI.lo ho8.ltO hq19
  have hdd9_19 := DD.symm (DD.lo hn9 hq19)
  have hd10_19 := DI.lo ho10.ltO hq19
  have hd11_19 := DI.lo ho11.ltO hq19
  have hd12_19 := DI.lo ho12.ltO hq19
  have hdd13_19 := DD.symm (DD.lo hn13 hq19)
  have hd17_19 := DI.lo ho17.ltO hq19
  have hB := hB.trans hXw24
  have hb1 := hb1.up hXw24
  have ho2 := ho2.up hXw24
  have ho3 := ho3.up hXw24
  have hn4 := hn4.up hXw24
  have ho5 := ho5.up hXw24
  have ho6 := ho6.up hXw24
  have hb7 := hb7.up hXw24
  have ho8 := ho8.up hXw24
  have hn9 := hn9.up hXw24
  have ho10 := ho10.up hXw24
  have ho11 := ho11.up hXw24
  have ho12 := ho12.up hXw24
  have hn13 := hn13.up hXw24
  have ho17 := ho17.up hXw24
  refine WL.pure rfl rfl rfl (PV.move rfl) ?_
  refine WL.op rfl (OpK.call rfl T.cf14 rfl (c_impl_ParsesShared (by first | assumption | exact Rd.up (by assumption) hB | exact Osl.rd (by assumption) | exact Osn.rdR (by assumption) | exact NL.rd (by assumption) | exact rdII (by assumption) (by assumption) | exact Inn.rd (by assumption) (by omega)) (by first | assumption | exact Rd.up (by assumption) hB | exact Osl.rd (by assumption) | exact Osn.rdR (by assumption) | exact NL.rd (by assumption) | exact rdII (by assumption) (by assumption) | exact Inn.rd (by assumption) (by omega))) (fun rv14 w25 hR => ?_))
  obtain ⟨hXw25, v20, og20, rfl, ho20, hq20⟩ := hR
  have hl20 := Lo.up hq20 hB
  have hd1_20 := Dj.lo hb1.ltO hq20
  have hd2_20 := Dj.lo ho2.ltO hq20
  have hd3_20 := Dj.lo ho3.ltO hq20
  have hd4_20 := DI.fresh hn4 hq20
  have hd5_20 := Dj.lo ho5.ltO hq20
  have hd6_20 := Dj.lo ho6.ltO hq20
  have hd7_20 := Dj.lo hb7.ltO hq20
  have hd8_20 := Dj.lo ho8.ltO hq20
  have hd9_20 := DI.fresh hn9 hq20
  have hd10_20 := Dj.lo ho10.ltO hq20
  have hd11_20 := Dj.lo ho11.ltO hq20
  have hd12_20 := Dj.lo ho12.ltO hq20
  have hd13_20 := DI.fresh hn13 hq20
  have hd17_20 := Dj.lo ho17.ltO hq20
  have hd18_20 := Dj.lo ho18.ltO hq20
  have hd19_20 := DI.fresh hn19 hq20
  have hB := hB.trans hXw25
  have hb1 := hb1.up hXw25
  have ho2 := ho2.up hXw25
  have ho3 := ho3.up hXw25
  have hn4 := hn4.up hXw25
  have ho5 := ho5.up hXw25
  have ho6 := ho6.up hXw25
  have hb7 := hb7.up hXw25
  have ho8 := ho8.up hXw25
  have hn9 := hn9.up hXw25
  have ho10 := ho10.up hXw25
  have ho11 := ho11.up hXw25
  have ho12 := ho12.up hXw25
  have hn13 := hn13.up hXw25
  have ho17 := ho17.up hXw25
  have ho18 := ho18.up hXw25
  have hn19 := hn19.up hXw25
  refine WL.pure rfl rfl rfl (PV.move rfl) ?_
  refine WL.pure rfl rfl rfl (PV.extract rfl rfl) ?_
  refine WL.pure rfl rfl rfl (PV.extract rfl rfl) ?_
  refine WL.pure rfl rfl rfl (PV.assign rfl) ?_
  refine WL.pure rfl rfl rfl (PV.assign rfl) ?_
  refine WL.nilS ?_
  refine CW.seq ?_
  refine CW.seq ?_
  refine CW.reg ?_
  refine WL.pure rfl rfl rfl (PV.move rfl) ?_
  refine WL.pure rfl rfl rfl (PV.move rfl) ?_
  refine WL.op rfl (OpK.callR rfl T.cf15 rfl (c_laws_eqInt64S (by first | assumption | exact Rd.up (by assumption) hB | exact Osl.rd (by assumption) | exact Osn.rdR (by assumption) | exact NL.rd (by assumption) | exact rdII (by assumption) (by assumption) | exact Inn.rd (by assumption) (by omega)) (by first | assumption | exact Rd.up (by assumption) hB | exact Osl.rd (by assumption) | exact Osn.rdR (by assumption) | exact NL.rd (by assumption) | exact rdII (by assumption) (by assumption) | exact Inn.rd (by assumption) (by omega))) (fun w26 hXw26 => ?_))
  have hB := hB.trans hXw26
  have hb1 := hb1.up hXw26
  have ho2 := ho2.up hXw26
  have ho3 := ho3.up hXw26
  have hn4 := hn4.up hXw26
  have ho5 := ho5.up hXw26
  have ho6 := ho6.up hXw26
  have hb7 := hb7.up hXw26
  have ho8 := ho8.up hXw26
  have hn9 := hn9.up hXw26
  have ho10 := ho10.up hXw26
  have ho11 := ho11.up hXw26
  have ho12 := ho12.up hXw26
  have hn13 := hn13.up hXw26
  have ho17 := ho17.up hXw26
  have ho18 := ho18.up hXw26
  have hn19 := hn19.up hXw26
  have ho20 := ho20.up hXw26
  refine WL.pure rfl rfl rfl (PV.not rfl) ?_
  refine WL.pure rfl rfl rfl (PV.move rfl) ?_
  refine WL.split (t := 111) rfl (fun hc12 => ?_) (fun hc12 => ?_)
  · skip
    try simp only [decide_eq_true_eq, decide_eq_false_iff_not, Bool.not_eq_true', Bool.not_eq_false', Bool.not_eq_eq_eq_not, Bool.not_true, Bool.not_false, Int.not_lt, Int.not_le, Classical.not_not, beq_iff_eq, beq_eq_false_iff_ne] at hc12
    refine WL.skip rfl rfl rfl rfl rfl ?_
    refine WL.skip rfl rfl rfl rfl rfl ?_
    refine WL.skip rfl rfl rfl rfl rfl ?_
    refine WL.pure rfl rfl rfl (PV.pickT rfl rfl) ?_
    refine WL.nilS ?_
    refine CW.condT rfl ?_
    refine CW.seq ?_
    refine CW.reg ?_
    refine WL.pure rfl rfl rfl (PV.assign rfl) ?_
    refine WL.nilS ?_
    refine CW.ret ?_
    refine RQ.then ?_
    refine RQ.r1 rfl ?_
    refine ⟨?_, hB⟩
    first | rfl | (exfalso; revert hc12; simp; done) | (exfalso; revert hc12; simp; omega) | (exfalso; omega) | first | rfl | exact bT (by omega) | exact bF (by omega) | exact bD (by omega) | exact iE (by omega) | (simp_all; done) | (simp_all; omega) | (simp_all; intros; omega)
  try simp only [decide_eq_true_eq, decide_eq_false_iff_not, Bool.not_eq_true', Bool.not_eq_false', Bool.not_eq_eq_eq_not, Bool.not_true, Bool.not_false, Int.not_lt, Int.not_le, Classical.not_not, beq_iff_eq, beq_eq_false_iff_ne] at hc12
  refine WL.pureG rfl rfl rfl rfl rfl (PV.move rfl) ?_
  refine WL.pureG rfl rfl rfl rfl rfl (PV.move rfl) ?_
  refine WL.pureG rfl rfl rfl rfl rfl (PV.neqB T.bl4 rfl rfl) ?_
  refine WL.pure rfl rfl rfl (PV.pickF rfl rfl) ?_
  refine WL.nilS ?_
  refine CW.cond rfl (fun hc13 => ?_) (fun hc13 => ?_)
  · skip
    try simp only [decide_eq_true_eq, decide_eq_false_iff_not, Bool.not_eq_true', Bool.not_eq_false', Bool.not_eq_eq_eq_not, Bool.not_true, Bool.not_false, Int.not_lt, Int.not_le, Classical.not_not, beq_iff_eq, beq_eq_false_iff_ne] at hc13
    refine CW.seq ?_
    refine CW.reg ?_
    refine WL.pure rfl rfl rfl (PV.assign rfl) ?_
    refine WL.nilS ?_
    refine CW.ret ?_
    refine RQ.then ?_
    refine RQ.r1 rfl ?_
    refine ⟨?_, hB⟩
    first | rfl | (exfalso; revert hc13; simp; done) | (exfalso; revert hc13; simp; omega) | (exfalso; omega) | first | rfl | exact bT (by omega) | exact bF (by omega) | exact bD (by omega) | exact iE (by omega) | (simp_all; done) | (simp_all; omega) | (simp_all; intros; omega)
  try simp only [decide_eq_true_eq, decide_eq_false_iff_not, Bool.not_eq_true', Bool.not_eq_false', Bool.not_eq_eq_eq_not, Bool.not_true, Bool.not_false, Int.not_lt, Int.not_le, Classical.not_not, beq_iff_eq, beq_eq_false_iff_ne] at hc13
  refine CW.skipS ?_
  refine CW.seq ?_
  refine CW.reg ?_
  refine WL.pure rfl rfl rfl (PV.assign rfl) ?_
  refine WL.nilS ?_
  refine CW.seq ?_
  refine CW.reg ?_
  refine WL.pure rfl rfl rfl (PV.move rfl) ?_
  refine WL.pure rfl rfl rfl (PV.move rfl) ?_
  refine WL.op rfl (OpK.callR rfl T.cf21 rfl (c_laws_heldInt64S (by first | assumption | exact Rd.up (by assumption) hB | exact Osl.rd (by assumption) | exact Osn.rdR (by assumption) | exact NL.rd (by assumption) | exact rdII (by assumption) (by assumption) | exact Inn.rd (by assumption) (by omega)) (by first | assumption | omega | (simp only [marks_len, marksB_len, marksR_len, sumL_marksS]; omega))) (fun w27 hXw27 => ?_))
  have hB := hB.trans hXw27
  have hb1 := hb1.up hXw27
  have ho2 := ho2.up hXw27
  have ho3 := ho3.up hXw27
  have hn4 := hn4.up hXw27
  have ho5 := ho5.up hXw27
  have ho6 := ho6.up hXw27
  have hb7 := hb7.up hXw27
  have ho8 := ho8.up hXw27
  have hn9 := hn9.up hXw27
  have ho10 := ho10.up hXw27
  have ho11 := ho11.up hXw27
  have ho12 := ho12.up hXw27
  have hn13 := hn13.up hXw27
  have ho17 := ho17.up hXw27
  have ho18 := ho18.up hXw27
  have hn19 := hn19.up hXw27
  have ho20 := ho20.up hXw27
  refine WL.pure rfl rfl rfl (PV.assign rfl) ?_
  refine WL.nilS ?_
  refine CW.seq ?_
  refine CW.seq ?_
  refine CW.reg ?_
  refine WL.pure rfl rfl rfl (PV.move rfl) ?_
  refine WL.pure rfl rfl rfl (PV.lss rfl rfl) ?_
  refine WL.nilS ?_
  refine CW.cond rfl (fun hc14 => ?_) (fun hc14 => ?_)
  · skip
    try simp only [decide_eq_true_eq, decide_eq_false_iff_not, Bool.not_eq_true', Bool.not_eq_false', Bool.not_eq_eq_eq_not, Bool.not_true, Bool.not_false, Int.not_lt, Int.not_le, Classical.not_not, beq_iff_eq, beq_eq_false_iff_ne] at hc14
    refine CW.seq ?_
    refine CW.reg ?_
    refine WL.pure rfl rfl rfl (PV.assign rfl) ?_
    refine WL.nilS ?_
    refine CW.ret ?_
    refine RQ.then ?_
    refine RQ.r1 rfl ?_
    refine ⟨?_, hB⟩
    first | rfl | (exfalso; revert hc14; simp; done) | (exfalso; revert hc14; simp; omega) | (exfalso; omega) | first | rfl | exact bT (by omega) | exact bF (by omega) | exact bD (by omega) | exact iE (by omega) | (simp_all; done) | (simp_all; omega) | (simp_all; intros; omega)
  try simp only [decide_eq_true_eq, decide_eq_false_iff_not, Bool.not_eq_true', Bool.not_eq_false', Bool.not_eq_eq_eq_not, Bool.not_true, Bool.not_false, Int.not_lt, Int.not_le, Classical.not_not, beq_iff_eq, beq_eq_false_iff_ne] at hc14
  refine CW.skipS ?_
  refine CW.seq ?_
  refine CW.seq ?_
  refine CW.reg ?_
  refine WL.pure rfl rfl rfl (PV.move rfl) ?_
  refine WL.pure rfl rfl rfl (PV.move rfl) ?_
  refine WL.pure rfl rfl rfl (PV.neq rfl rfl) ?_
  refine WL.nilS ?_
  refine CW.cond rfl (fun hc15 => ?_) (fun hc15 => ?_)
  · skip
    try simp only [decide_eq_true_eq, decide_eq_false_iff_not, Bool.not_eq_true', Bool.not_eq_false', Bool.not_eq_eq_eq_not, Bool.not_true, Bool.not_false, Int.not_lt, Int.not_le, Classical.not_not, beq_iff_eq, beq_eq_false_iff_ne] at hc15
    refine CW.seq ?_
    refine CW.reg ?_
    refine WL.pure rfl rfl rfl (PV.assign rfl) ?_
    refine WL.nilS ?_
    refine CW.ret ?_
    refine RQ.then ?_
    refine RQ.r1 rfl ?_
    refine ⟨?_, hB⟩
    first | rfl | (exfalso; revert hc15; simp; done) | (exfalso; revert hc15; simp; omega) | (exfalso; omega) | first | rfl | exact bT (by omega) | exact bF (by omega) | exact bD (by omega) | exact iE (by omega) | (simp_all; done) | (simp_all; omega) | (simp_all; intros; omega)
  try simp only [decide_eq_true_eq, decide_eq_false_iff_not, Bool.not_eq_true', Bool.not_eq_false', Bool.not_eq_eq_eq_not, Bool.not_true, Bool.not_false, Int.not_lt, Int.not_le, Classical.not_not, beq_iff_eq, beq_eq_false_iff_ne] at hc15
  refine CW.skipS ?_
  refine CW.seq ?_
  refine CW.reg ?_
  refine WL.pure rfl rfl rfl (PV.assign rfl) ?_
  refine WL.nilS ?_
  refine CW.ret ?_
  refine RQ.r1 rfl ?_
  refine ⟨?_, hB⟩
  first | rfl | (exfalso; revert hc15; simp; done) | (exfalso; revert hc15; simp; omega) | (exfalso; omega) | first | rfl | exact bT (by omega) | exact bF (by omega) | exact bD (by omega) | exact iE (by omega) | (simp_all; done) | (simp_all; omega) | (simp_all; intros; omega)

end Go.Proofs.Ythemmoceomdccaa
