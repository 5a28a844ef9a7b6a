/- Walks of the functions that the law FnExactLeastTrees reaches: each says what its function computes. No condition. -/
import Derived.Test.YtfnmkcncofjjkaaProg
import Derived.Test.YtfnmkcncofjjkaaLibM
import Derived.Test.YtfnmkcncofjjkaaPlA
import Derived.Test.YtfnmkcncofjjkaaPlM
import Derived.Test.YtfnmkcncofjjkaaLibN
import Derived.Test.YtfnmkcncofjjkaaLibO
import Derived.Test.YtfnmkcncofjjkaaLibG2
import Derived.Test.YtfnmkcncofjjkaaPlG
import Derived.Test.YtfnmkcncofjjkaaLibR
import Derived.Test.YtfnmkcncofjjkaaPlFt
import Derived.Test.YtfnmkcncofjjkaaLibKp
import Derived.Test.YtfnmkcncofjjkaaLibKa
import Derived.Test.YtfnmkcncofjjkaaPlCl
import Derived.Test.YtfnmkcncofjjkaaPlR
import Derived.Test.YtfnmkcncofjjkaaWFnExactLeastTreesa
namespace Go.Proofs.Ytfnmkcncofjjkaa
open Go Go.WX Go.Proofs
set_option linter.unusedSimpArgs false
set_option linter.unusedVariables false

set_option maxHeartbeats 4000000 in
theorem c_spec_l06Apart {w : World} {pa : Addr} {a0 : Int} {a1 : Int} {va2 : Value} {xa2 : List Int} {va3 : Value} {xa3 : List Int} {va4 : Value} {xa4 : List Bool} {vs : Value} {ss : List Int} {l : List R4} (hba : Cells w pa [.int .i64 a0, .int .i64 a1, va2, va3, va4]) (ha2 : Rd EI w va2 xa2) (ha3 : Rd EI w va3 xa3) (ha4 : Rd EB w va4 xa4) (hs : Rd EI w vs ss) (hse : ss = l.map (·.1)) (hv : (1 ≤ a0 ∧ a0 ≤ 16) ∧ (1 ≤ a1 ∧ a1 ≤ 4) ∧ (xa2.length : Int) = a1 ∧ (xa3.length : Int) = a0 * a0 ∧ (xa4.length : Int) = a0 ∧ allIn xa2 0 (a0 - 1) = true ∧ allIn xa3 0 (a0 - 1) = true) (hF : FO a0 a1 l) : Calls Try.prog 77 #[.pointer (some pa), vs] w (Ret1 (fun v w' => Ext w w' ∧ ∃ u og_u, v = u ∧ Osl VI w' og_u u (clsF a0 xa4 xa3 l) ∧ Lo w og_u)) := by
  have hB : Ext w w := Ext.refl w
  have hla2 := ha2.leI; have hla3 := ha3.leI; have hla4 := ha4.leI; have tv : TV a0 a1 xa2 xa3 := ⟨hv.1, hv.2.1, hv.2.2.1, hv.2.2.2.1, hv.2.2.2.2.2.1, hv.2.2.2.2.2.2⟩; have tvs := tv.s; have tvl := tv.ll; have tvn := tv.nl; have hls := hs.leI; have hFn := hF.len; have hv5 := hv.2.2.2.2.1; have hsl : ss.length = l.length := (by rw [hse]; exact map1_len l)
  refine callsOf (vs := [_, _]) Try.func77 rfl Try.ntmps77 rfl rfl ?_
  refine CW.seq ?_
  refine CW.reg ?_
  refine WL.asg rfl rfl ?_
  refine WL.nilS ?_
  refine CW.seq ?_
  refine CW.reg ?_
  refine WL.mv rfl rfl ?_
  refine WL.pure rfl rfl rfl (PV.nilCheck rfl) ?_
  refine WL.pure rfl rfl rfl ((by first | exact PV.fieldAddr T.fl36_0 rfl (by first | assumption | exact Bx.cells (by assumption)) | exact PV.fieldAddrP T.fl36_0 rfl rfl)) ?_
  refine WL.pure rfl rfl rfl ((by first | exact PV.load0 T.na2 rfl (by first | exact Cells.up (by assumption) hB | exact Bx.cells (by assumption) | assumption) (Ext.refl _) rfl | exact PV.load1 T.na2 rfl (by first | exact Cells.up (by assumption) hB | exact Bx.cells (by assumption) | assumption) (Ext.refl _) rfl)) ?_
  refine WL.op rfl (OpK.call rfl T.cf109 rfl (c_spec_l02None (by first | assumption | omega | (simp only [marks_len, marksB_len, marksR_len]; omega))) (fun rv1 w1 hR => ?_))
  obtain ⟨hXw1, v1, og1, rfl, ho1, hq1⟩ := hR
  have hl1 := Lo.up hq1 hB
  have hB := hB.trans hXw1
  refine WL.asg rfl rfl ?_
  refine WL.nilS ?_
  refine CW.seq ?_
  refine CW.seq ?_
  refine CW.reg ?_
  refine WL.asg rfl rfl ?_
  refine WL.nilS ?_
  refine CW.block ?_
  have hlt1 := ho1.ltO
  refine CW.loop (σk := [(0, _), (1, _), (5, _)]) (fun ρ wz m => ∃ (k : Nat), ρ = [(6, .int .i64 (k : Nat))] ∧ m = l.length - k ∧ UpdL [og1] w1 wz ∧ Osl VI wz og1 rv1 (c0F a0 xa4 l k) ∧ (k ≤ l.length)) (ρ₀ := [(6, _)]) (m₀ := _) ⟨rfl, rfl, rfl, rfl, trivial⟩ ⟨0, rfl, rfl, (UpdL.refl _ _), osE ho1 (by rfl), (by first | omega | rfl | (simp; done) | assumption | (simp_all; done))⟩ ?_
  rintro _ wl1 _ ⟨k, rfl, rfl, hU0, ho1, hk⟩
  have hk0_1 : OkB [og1] w1 og1 := OkB.mem (by simp)
  have hB := hB.loop hU0 ⟨hl1, trivial⟩
  refine CW.seq ?_
  refine CW.seq ?_
  refine CW.reg ?_
  refine WL.mv rfl rfl ?_
  refine WL.mv rfl rfl ?_
  refine WL.pure rfl rfl rfl ((by first | exact PV.len rfl (by assumption) T.sl22 | exact PV.lenOs rfl (by assumption) T.sl22 | exact PV.len rfl (NL.rd (by assumption)) T.sl22 | exact PV.len rfl (Inn.rd (by assumption) (by omega)) T.sl22)) ?_
  refine WL.pure rfl rfl rfl (PV.lss rfl rfl) ?_
  refine WL.nilS ?_
  refine CW.cond rfl (fun hc1 => ?_) (fun hc1 => ?_)
  · skip
    try simp only [nq] at hc1
    refine CW.skipS ?_
    refine CW.seq ?_
    refine CW.block ?_
    refine CW.seq ?_
    refine CW.reg ?_
    have ek1 : ss.getD k 0 = rS l k := (by rw [hse]; exact map1_get l k); have hk1 := hF.st (i := k) (by omega); rw [← ek1] at hk1; have hc0 := c0F_len (a0 := a0) (en := xa4) (l := l) k
    refine WL.mv rfl rfl ?_
    refine WL.mv rfl rfl ?_
    refine WL.mv rfl rfl ?_
    first
      | refine WL.at (x := .tmp 26) (y := .tmp 27) (E := EI) (0) rfl rfl (by first | assumption | exact Inn.rd (by assumption) (by omega)) (by first | omega | (simp only [List.length_set]; omega) | (simp only [List.length_append, List.length_take, List.length_replicate, List.length_drop]; omega)) (fun p1 csp1 hpp1 hcp1 hq => ?_)
      | refine WL.atZ (x := .tmp 26) (y := .tmp 27) (E := EI) (0) rfl rfl (by first | assumption | exact Inn.rd (by assumption) (by omega)) (by first | omega | (simp only [List.length_set]; omega) | (simp only [List.length_append, List.length_take, List.length_replicate, List.length_drop]; omega)) (fun p1 csp1 hpp1 hzp1 hcp1 hq => ?_)
    cases hq
    refine WL.pure rfl rfl rfl ((by first | exact PV.indexAddr hpp1 rfl rfl T.sl22 | exact PV.indexAddr hpp1 rfl (by rw [← hzp1]; rfl) T.sl22)) ?_
    refine WL.pure rfl rfl rfl ((by first | exact PV.load0 T.na2 rfl (by first | exact Cells.up (by assumption) hB | exact Bx.cells (by assumption) | assumption) (Ext.refl _) rfl | exact PV.load1 T.na2 rfl (by first | exact Cells.up (by assumption) hB | exact Bx.cells (by assumption) | assumption) (Ext.refl _) rfl)) ?_
    first
      | refine WL.atO (x := .tmp 25) (y := .tmp 29) (f := VI) (0) rfl rfl ho1 (by first | omega | (simp only [List.length_set]; omega) | (simp only [List.length_append, List.length_take, List.length_replicate, List.length_drop]; omega)) (fun p2 hpp2 hcp2 => ?_)
      | refine WL.atOZ (x := .tmp 25) (y := .tmp 29) (f := VI) (0) rfl rfl ho1 (by first | omega | (simp only [List.length_set]; omega) | (simp only [List.length_append, List.length_take, List.length_replicate, List.length_drop]; omega)) (fun p2 hpp2 hzp2 hcp2 => ?_)
    refine WL.pure rfl rfl rfl ((by first | exact PV.indexAddr hpp2 rfl rfl T.sl22 | exact PV.indexAddr hpp2 rfl (by rw [← hzp2]; rfl) T.sl22)) ?_
    refine WL.op rfl (OpK.storeS VI T.sz2 rfl rfl rfl hpp2 ho1 (fun w2 hXw2 ho1 => ?_))
    have hB := hB.updL hXw2 hl1
    have hU0 := hU0.step hXw2 hk0_1
    refine WL.nilS ?_
    refine CW.seq ?_
    refine CW.draw T.mixed (by kernel_rfl) (fun _ _ _ _ _ h => h) (fun w8 w9 => Upd none w8 w9) 10 (.take 0 (.take 1 (.take 2 (.take 3 (.take 4 (.take 5 (.take 6 (.take 7 (.take 8 (.take 9 .done)))))))))) (by kernel_rfl) (fun w3 hXd => ?_)
    have hB := hB.trans hXd
    have ho1 := ho1.up hXd
    have hU0 := hU0.ext hXd
    have hBr := hB
    have hS : Upd none w3 w3 := Ext.toUpd (Ext.refl _)
    refine HP.take rfl rfl rfl rfl hS (fun wS hS1 => PV.move rfl) ?_
    refine HP.take rfl rfl rfl rfl hS (fun wS hS1 => PV.nilCheck rfl) ?_
    refine HP.take rfl rfl rfl rfl hS (fun wS hS1 => (by first | exact PV.fieldAddr T.fl36_4 rfl (by first | assumption | exact Bx.cells (by assumption)) | exact PV.fieldAddrP T.fl36_4 rfl rfl)) ?_
    refine HP.take rfl rfl rfl rfl hS (fun wS hS1 => (by first | exact PV.load0 T.na31 rfl (by first | exact Cells.up (by assumption) (hBr.trans hS1) | exact Bx.cells (Bx.updD (by assumption) hS1 (Dj.nlR _)) | exact Cells.upd (by assumption) hS1 (by simp)) (Ext.refl _) rfl | exact PV.load1 T.na31 rfl (by first | exact Cells.up (by assumption) (hBr.trans hS1) | exact Bx.cells (Bx.updD (by assumption) hS1 (Dj.nlR _)) | exact Cells.upd (by assumption) hS1 (by simp)) (Ext.refl _) rfl)) ?_
    refine HP.take rfl rfl rfl rfl hS (fun wS hS1 => PV.move rfl) ?_
    refine HP.take rfl rfl rfl rfl hS (fun wS hS1 => PV.move rfl) ?_
    first
      | refine HP.at (x := .tmp 35) (y := .tmp 36) (E := EI) (0) rfl rfl (by first | assumption | exact Inn.rd (by assumption) (by omega)) (by first | omega | (simp only [List.length_set]; omega) | (simp only [List.length_append, List.length_take, List.length_replicate, List.length_drop]; omega)) (fun p3 csp3 hpp3 hcp3 hq => ?_)
      | refine HP.atZ (x := .tmp 35) (y := .tmp 36) (E := EI) (0) rfl rfl (by first | assumption | exact Inn.rd (by assumption) (by omega)) (by first | omega | (simp only [List.length_set]; omega) | (simp only [List.length_append, List.length_take, List.length_replicate, List.length_drop]; omega)) (fun p3 csp3 hpp3 hzp3 hcp3 hq => ?_)
    cases hq
    refine HP.take rfl rfl rfl rfl hS (fun wS hS1 => (by first | exact PV.indexAddr hpp3 rfl rfl T.sl22 | exact PV.indexAddr hpp3 rfl (by rw [← hzp3]; rfl) T.sl22)) ?_
    refine HP.take rfl rfl rfl rfl hS (fun wS hS1 => (by first | exact PV.load0 T.na2 rfl (by first | exact Cells.up (by assumption) (hBr.trans hS1) | exact Bx.cells (Bx.updD (by assumption) hS1 (Dj.nlR _)) | exact Cells.upd (by assumption) hS1 (by simp)) (Ext.refl _) rfl | exact PV.load1 T.na2 rfl (by first | exact Cells.up (by assumption) (hBr.trans hS1) | exact Bx.cells (Bx.updD (by assumption) hS1 (Dj.nlR _)) | exact Cells.upd (by assumption) hS1 (by simp)) (Ext.refl _) rfl)) ?_
    first
      | refine HP.at (x := .tmp 34) (y := .tmp 38) (E := EB) (false) rfl rfl (by first | assumption | exact Inn.rd (by assumption) (by omega)) (by first | omega | (simp only [List.length_set]; omega) | (simp only [List.length_append, List.length_take, List.length_replicate, List.length_drop]; omega)) (fun p4 csp4 hpp4 hcp4 hq => ?_)
      | refine HP.atZ (x := .tmp 34) (y := .tmp 38) (E := EB) (false) rfl rfl (by first | assumption | exact Inn.rd (by assumption) (by omega)) (by first | omega | (simp only [List.length_set]; omega) | (simp only [List.length_append, List.length_take, List.length_replicate, List.length_drop]; omega)) (fun p4 csp4 hpp4 hzp4 hcp4 hq => ?_)
    cases hq
    refine HP.take rfl rfl rfl rfl hS (fun wS hS1 => (by first | exact PV.indexAddr hpp4 rfl rfl T.sl31 | exact PV.indexAddr hpp4 rfl (by rw [← hzp4]; rfl) T.sl31)) ?_
    refine HP.take rfl rfl rfl rfl hS (fun wS hS1 => (by first | exact PV.load0 T.na4 rfl (by first | exact Cells.up (by assumption) (hBr.trans hS1) | exact Bx.cells (Bx.updD (by assumption) hS1 (Dj.nlR _)) | exact Cells.upd (by assumption) hS1 (by simp)) (Ext.refl _) rfl | exact PV.load1 T.na4 rfl (by first | exact Cells.up (by assumption) (hBr.trans hS1) | exact Bx.cells (Bx.updD (by assumption) hS1 (Dj.nlR _)) | exact Cells.upd (by assumption) hS1 (by simp)) (Ext.refl _) rfl)) ?_
    refine HP.doneS ?_
    refine CW.cond rfl (fun hc2 => ?_) (fun hc2 => ?_)
    · skip
      try simp only [nq] at hc2
      refine CW.reg ?_
      refine WL.mv rfl rfl ?_
      refine WL.mv rfl rfl ?_
      refine WL.mv rfl rfl ?_
      first
        | refine WL.at (x := .tmp 42) (y := .tmp 43) (E := EI) (0) rfl rfl (by first | assumption | exact Inn.rd (by assumption) (by omega)) (by first | omega | (simp only [List.length_set]; omega) | (simp only [List.length_append, List.length_take, List.length_replicate, List.length_drop]; omega)) (fun p5 csp5 hpp5 hcp5 hq => ?_)
        | refine WL.atZ (x := .tmp 42) (y := .tmp 43) (E := EI) (0) rfl rfl (by first | assumption | exact Inn.rd (by assumption) (by omega)) (by first | omega | (simp only [List.length_set]; omega) | (simp only [List.length_append, List.length_take, List.length_replicate, List.length_drop]; omega)) (fun p5 csp5 hpp5 hzp5 hcp5 hq => ?_)
      cases hq
      refine WL.pure rfl rfl rfl ((by first | exact PV.indexAddr hpp5 rfl rfl T.sl22 | exact PV.indexAddr hpp5 rfl (by rw [← hzp5]; rfl) T.sl22)) ?_
      refine WL.pure rfl rfl rfl ((by first | exact PV.load0 T.na2 rfl (by first | exact Cells.up (by assumption) hB | exact Bx.cells (by assumption) | assumption) (Ext.refl _) rfl | exact PV.load1 T.na2 rfl (by first | exact Cells.up (by assumption) hB | exact Bx.cells (by assumption) | assumption) (Ext.refl _) rfl)) ?_
      first
        | refine WL.atO (x := .tmp 41) (y := .tmp 45) (f := VI) (0) rfl rfl ho1 (by first | omega | (simp only [List.length_set]; omega) | (simp only [List.length_append, List.length_take, List.length_replicate, List.length_drop]; omega)) (fun p6 hpp6 hcp6 => ?_)
        | refine WL.atOZ (x := .tmp 41) (y := .tmp 45) (f := VI) (0) rfl rfl ho1 (by first | omega | (simp only [List.length_set]; omega) | (simp only [List.length_append, List.length_take, List.length_replicate, List.length_drop]; omega)) (fun p6 hpp6 hzp6 hcp6 => ?_)
      refine WL.pure rfl rfl rfl ((by first | exact PV.indexAddr hpp6 rfl rfl T.sl22 | exact PV.indexAddr hpp6 rfl (by rw [← hzp6]; rfl) T.sl22)) ?_
      refine WL.op rfl (OpK.storeS VI T.sz2 rfl rfl rfl hpp6 ho1 (fun w4 hXw4 ho1 => ?_))
      have hB := hB.updL hXw4 hl1
      have hU0 := hU0.step hXw4 hk0_1
      refine WL.nil ?_
      refine NQ.block ?_
      refine NQ.then ?_
      refine CW.reg ?_
      refine WL.mv rfl rfl ?_
      refine WL.pure rfl rfl rfl (PV.add rfl rfl (by constructor <;> omega)) ?_
      refine WL.asg rfl rfl ?_
      refine WL.nil ?_
      refine NQ.next (ρ := [(6, _)]) ⟨rfl, rfl, rfl, rfl, trivial⟩ ?_
      exact ⟨_, ⟨k + 1, rfl, rfl, hU0, osE ho1 (by rw [ek1] at *; first | exact c0F_yes (by assumption) | exact c0F_no (by assumption)), (by first | omega | assumption | (simp_all; done) | (simp_all; omega))⟩, by omega⟩
    try simp only [nq] at hc2
    refine CW.skip ?_
    refine NQ.block ?_
    refine NQ.then ?_
    refine CW.reg ?_
    refine WL.mv rfl rfl ?_
    refine WL.pure rfl rfl rfl (PV.add rfl rfl (by constructor <;> omega)) ?_
    refine WL.asg rfl rfl ?_
    refine WL.nil ?_
    refine NQ.next (ρ := [(6, _)]) ⟨rfl, rfl, rfl, rfl, trivial⟩ ?_
    exact ⟨_, ⟨k + 1, rfl, rfl, hU0, osE ho1 (by rw [ek1] at *; first | exact c0F_yes (by assumption) | exact c0F_no (by assumption)), (by first | omega | assumption | (simp_all; done) | (simp_all; omega))⟩, by omega⟩
  try simp only [nq] at hc1
  refine CW.exit ?_
  refine XQ.then ?_
  refine XQ.then ?_
  refine XQ.here ?_
  refine NQ.then ?_
  refine CW.seq ?_
  refine CW.seq ?_
  refine CW.reg ?_
  refine WL.asg rfl rfl ?_
  refine WL.nilS ?_
  refine CW.block ?_
  have hlt1 := ho1.ltO
  refine CW.loop (σk := [(0, _), (1, _)]) (fun ρ wz m => ∃ (v3 : Value) (og3 : Option Nat) (n : Nat), ρ = [(5, v3), (7, .int .i64 (n : Nat))] ∧ m = l.length - n ∧ UpdL [og1] wl1 wz ∧ Osl VI wz og3 v3 (clF a0 xa4 xa3 l n) ∧ OgR wl1 og1 og3 ∧ (n ≤ l.length)) (ρ₀ := [(5, _), (7, _)]) (m₀ := _) ⟨rfl, rfl, rfl, rfl, trivial⟩ ⟨rv1, og1, 0, rfl, rfl, (UpdL.refl _ _), osE ho1 (by (obtain rfl : k = l.length := (by omega)); rfl), OgR.refl _ _, (by first | omega | rfl | (simp; done) | assumption | (simp_all; done))⟩ ?_
  rintro _ wl2 _ ⟨v3, og3, n, rfl, rfl, hU1, ho3, ha3, hn⟩
  have hl3 := Lo.ogr hl1 hB ha3
  have hg1_3 := ha3
  have hk1_3 : OkB [og1] wl1 og3 := OkB.ogr (OkB.mem (by simp)) (Nat.le_refl _) ha3
  have hB := hB.loop hU1 ⟨hl1, trivial⟩
  refine CW.seq ?_
  refine CW.seq ?_
  refine CW.reg ?_
  refine WL.mv rfl rfl ?_
  refine WL.mv rfl rfl ?_
  refine WL.pure rfl rfl rfl ((by first | exact PV.len rfl (by assumption) T.sl22 | exact PV.lenOs rfl (by assumption) T.sl22 | exact PV.len rfl (NL.rd (by assumption)) T.sl22 | exact PV.len rfl (Inn.rd (by assumption) (by omega)) T.sl22)) ?_
  refine WL.pure rfl rfl rfl (PV.lss rfl rfl) ?_
  refine WL.nilS ?_
  refine CW.cond rfl (fun hc3 => ?_) (fun hc3 => ?_)
  · skip
    try simp only [nq] at hc3
    refine CW.skipS ?_
    refine CW.seq ?_
    refine CW.block ?_
    refine CW.seq ?_
    refine CW.reg ?_
    have hcn := clF_len (a0 := a0) (en := xa4) (nx := xa3) (l := l) n
    refine WL.op rfl (OpK.buildS VV (os := []) [] rfl T.sl83 rfl rfl T.zv22 rfl (by intro z hz; cases hz) rfl (fun v4 g4 w5 hXw5 ho4 hge4 => ?_))
    have hl4 := Lo.new hB hge4
    have hd3_4 := Dj.new ho3.ltO hge4
    have hk1_4 := OkN.new hU1 hge4
    have hg1_4 := OgR.new hU1.size hge4
    have hB := hB.trans hXw5
    have ho3 := ho3.up hXw5
    have hU1 := hU1.ext hXw5
    refine WL.asg rfl rfl ?_
    refine WL.nilS ?_
    refine CW.seq ?_
    refine CW.reg ?_
    refine WL.mv rfl rfl ?_
    refine WL.pure rfl rfl rfl (PV.nilCheck rfl) ?_
    refine WL.pure rfl rfl rfl ((by first | exact PV.fieldAddr T.fl36_0 rfl (by first | assumption | exact Bx.cells (by assumption)) | exact PV.fieldAddrP T.fl36_0 rfl rfl)) ?_
    refine WL.pure rfl rfl rfl ((by first | exact PV.load0 T.na2 rfl (by first | exact Cells.up (by assumption) hB | exact Bx.cells (by assumption) | assumption) (Ext.refl _) rfl | exact PV.load1 T.na2 rfl (by first | exact Cells.up (by assumption) hB | exact Bx.cells (by assumption) | assumption) (Ext.refl _) rfl)) ?_
    refine WL.op rfl (OpK.call rfl T.cf109 rfl (c_spec_l02None (by first | assumption | omega | (simp only [marks_len, marksB_len, marksR_len]; omega))) (fun rv2 w6 hR => ?_))
    obtain ⟨hXw6, v5, og5, rfl, ho5, hq5⟩ := hR
    have hl5 := Lo.up hq5 hB
    have hd3_5 := Dj.lo ho3.ltO hq5
    have hd4_5 := Dj.lo ho4.ltO hq5
    have hk1_5 := OkN.lo hU1 hq5
    have hg1_5 := OgR.lo hU1.size hq5
    have hB := hB.trans hXw6
    have ho3 := ho3.up hXw6
    have ho4 := ho4.up hXw6
    have hU1 := hU1.ext hXw6
    refine WL.asg rfl rfl ?_
    refine WL.nilS ?_
    refine CW.seq ?_
    refine CW.seq ?_
    refine CW.reg ?_
    refine WL.asg rfl rfl ?_
    refine WL.nilS ?_
    refine CW.block ?_
    have hn6 := Inn.zero w6
    have hl6 := LoI.nl w
    have hz1_6 := BlR.nil hU1
    have hd3_6 : DI [] og3 := DI.zero _
    have hd4_6 : DI [] (some g4) := DI.zero _
    have hd5_6 : DI [] og5 := DI.zero _
    have hlt3 := ho3.ltO
    have hlt4 := ho4.ltO
    have hlt5 := ho5.ltO
    have hlt6 := hn6.ltO
    refine CW.loop (σk := [(0, _), (1, _), (5, _), (7, _), (9, _)]) (fun ρ wz m => ∃ (v7 : Value) (og7 : Option Nat) (vs7 : List Value) (os7 : List (Option Nat)) (i : Nat), ρ = [(8, v7), (10, .int .i64 (i : Nat))] ∧ m = l.length - i ∧ UpdL [(some g4), og5] w6 wz ∧ Osl VV wz og7 v7 (vs7) ∧ OgR w6 (some g4) og7 ∧ Inn wz os7 vs7 (ksF a0 xa3 l (clF a0 xa4 xa3 l n) i) ∧ BlR w6 [] os7 ∧ Osl VI wz og5 rv2 (nxF a0 xa3 l (clF a0 xa4 xa3 l n) i) ∧ DI os7 og7 ∧ (i ≤ l.length)) (ρ₀ := [(8, _), (10, _)]) (m₀ := _) ⟨rfl, rfl, rfl, rfl, rfl, rfl, rfl, trivial⟩ ⟨v4, (some g4), _, [], 0, rfl, rfl, (UpdL.refl _ _), ho4, OgR.refl _ _, innE hn6 (by rfl), BlR.refl _ _, osE ho5 (by rfl), hd4_6, (by first | omega | rfl | (simp; done) | assumption | (simp_all; done))⟩ ?_
    rintro _ wl3 _ ⟨v7, og7, vs7, os7, i, rfl, rfl, hU2, ho7, ha7, hn8, hy8, ho5, hd7_8, hi⟩
    have hU1 := hU1.trans hU2 ⟨hk1_4, hk1_5, trivial⟩
    have ho3 := ho3.loop hU2 ⟨hd3_4, hd3_5, trivial⟩
    have hl7 := Lo.ogr hl4 hB ha7
    have hg2_7 := ha7
    have hk2_7 : OkB [(some g4), og5] w6 og7 := OkB.ogr (OkB.mem (by simp)) (Nat.le_refl _) ha7
    have hk1_7 := OkB.ogr hk1_4 (by first | assumption | exact UpdL.size (by assumption)) ha7
    have hg1_7 := OgR.trans hg1_4 (by first | assumption | exact UpdL.size (by assumption)) ha7
    have hd3_7 := Dj.ogr hd3_4 hlt3 ha7
    have hd5_7 := Dj.ogr (Dj.symm hd4_5) hlt5 ha7
    have hk2_5 : OkB [(some g4), og5] w6 og5 := OkB.mem (by simp)
    have hBpre2 := hB
    have hB := hB.loop hU2 ⟨hl4, hl5, trivial⟩
    have hlv8 := hn8.lv
    have hd3_8 := DI.blr hd3_6 hlt3 hy8
    have hd5_8 := DI.blr hd5_6 hlt5 hy8
    have hz2_8 := hy8
    have hz1_8 := BlR.trans hz1_6 (by first | assumption | exact UpdL.size (by assumption)) hy8
    have hl8 := LoI.blr hl6 hBpre2 hy8
    refine CW.seq ?_
    refine CW.seq ?_
    refine CW.reg ?_
    refine WL.mv rfl rfl ?_
    refine WL.mv rfl rfl ?_
    refine WL.pure rfl rfl rfl ((by first | exact PV.len rfl (by assumption) T.sl22 | exact PV.lenOs rfl (by assumption) T.sl22 | exact PV.len rfl (NL.rd (by assumption)) T.sl22 | exact PV.len rfl (Inn.rd (by assumption) (by omega)) T.sl22)) ?_
    refine WL.pure rfl rfl rfl (PV.lss rfl rfl) ?_
    refine WL.nilS ?_
    refine CW.cond rfl (fun hc4 => ?_) (fun hc4 => ?_)
    · skip
      try simp only [nq] at hc4
      refine CW.skipS ?_
      refine CW.seq ?_
      refine CW.block ?_
      refine CW.seq ?_
      refine CW.reg ?_
      have ei1 : ss.getD i 0 = rS l i := (by rw [hse]; exact map1_get l i); have hi1 := hF.st (i := i) (by omega); rw [← ei1] at hi1; have hxn := nxF_len (a0 := a0) (nx := xa3) (l := l) (cl := (clF a0 xa4 xa3 l n)) i
      refine WL.mv rfl rfl ?_
      refine WL.mv rfl rfl ?_
      refine WL.mv rfl rfl ?_
      first
        | refine WL.at (x := .tmp 66) (y := .tmp 67) (E := EI) (0) rfl rfl (by first | assumption | exact Inn.rd (by assumption) (by omega)) (by first | omega | (simp only [List.length_set]; omega) | (simp only [List.length_append, List.length_take, List.length_replicate, List.length_drop]; omega)) (fun p7 csp7 hpp7 hcp7 hq => ?_)
        | refine WL.atZ (x := .tmp 66) (y := .tmp 67) (E := EI) (0) rfl rfl (by first | assumption | exact Inn.rd (by assumption) (by omega)) (by first | omega | (simp only [List.length_set]; omega) | (simp only [List.length_append, List.length_take, List.length_replicate, List.length_drop]; omega)) (fun p7 csp7 hpp7 hzp7 hcp7 hq => ?_)
      cases hq
      refine WL.pure rfl rfl rfl ((by first | exact PV.indexAddr hpp7 rfl rfl T.sl22 | exact PV.indexAddr hpp7 rfl (by rw [← hzp7]; rfl) T.sl22)) ?_
      refine WL.pure rfl rfl rfl ((by first | exact PV.load0 T.na2 rfl (by first | exact Cells.up (by assumption) hB | exact Bx.cells (by assumption) | assumption) (Ext.refl _) rfl | exact PV.load1 T.na2 rfl (by first | exact Cells.up (by assumption) hB | exact Bx.cells (by assumption) | assumption) (Ext.refl _) rfl)) ?_
      first
        | refine WL.atO (x := .tmp 65) (y := .tmp 69) (f := VI) (0) rfl rfl ho3 (by first | omega | (simp only [List.length_set]; omega) | (simp only [List.length_append, List.length_take, List.length_replicate, List.length_drop]; omega)) (fun p8 hpp8 hcp8 => ?_)
        | refine WL.atOZ (x := .tmp 65) (y := .tmp 69) (f := VI) (0) rfl rfl ho3 (by first | omega | (simp only [List.length_set]; omega) | (simp only [List.length_append, List.length_take, List.length_replicate, List.length_drop]; omega)) (fun p8 hpp8 hzp8 hcp8 => ?_)
      refine WL.pure rfl rfl rfl ((by first | exact PV.indexAddr hpp8 rfl rfl T.sl22 | exact PV.indexAddr hpp8 rfl (by rw [← hzp8]; rfl) T.sl22)) ?_
      refine WL.pure rfl rfl rfl ((by first | exact PV.load0 T.na2 rfl (by first | exact Cells.up (by assumption) hB | exact Bx.cells (by assumption) | assumption) (Ext.refl _) rfl | exact PV.load1 T.na2 rfl (by first | exact Cells.up (by assumption) hB | exact Bx.cells (by assumption) | assumption) (Ext.refl _) rfl)) ?_
      refine WL.op rfl (OpK.buildS VI (os := [.tmp 71]) [_] rfl T.sl22 rfl rfl T.zv2 rfl (by intro z hz; first | rfl | (simp only [List.mem_cons, List.not_mem_nil, or_false] at hz; subst hz; exact (by first | exact Rd.cells1 (by assumption) | exact Osl.cells1 (by assumption) | exact Osn.cells1 (by assumption) | exact Rd.cells1 (NL.rd (by assumption)) | exact Inn.cell1 (by assumption) (by omega) | assumption | rfl))) rfl (fun v10 g10 w7 hXw7 ho10 hge10 => ?_))
      have hl10 := Lo.new hB hge10
      have hd3_10 := Dj.new ho3.ltO hge10
      have hd5_10 := Dj.new ho5.ltO hge10
      have hd8_10 := DI.new hn8 hge10
      have hd7_10 := Dj.new ho7.ltO hge10
      have hk1_10 := OkN.new hU1 hge10
      have hg1_10 := OgR.new hU1.size hge10
      have hk2_10 := OkN.new hU2 hge10
      have hg2_10 := OgR.new hU2.size hge10
      have hB := hB.trans hXw7
      have ho3 := ho3.up hXw7
      have ho5 := ho5.up hXw7
      have hn8 := hn8.up hXw7
      have ho7 := ho7.up hXw7
      have hU1 := hU1.ext hXw7
      have hU2 := hU2.ext hXw7
      refine WL.asg rfl rfl ?_
      refine WL.nilS ?_
      refine CW.seq ?_
      refine CW.seq ?_
      refine CW.reg ?_
      refine WL.asg rfl rfl ?_
      refine WL.nilS ?_
      refine CW.block ?_
      have hlt3 := ho3.ltO
      have hlt5 := ho5.ltO
      have hlt8 := hn8.ltO
      have hlt7 := ho7.ltO
      have hlt10 := ho10.ltO
      refine CW.loop (σk := [(0, _), (1, _), (5, _), (7, _), (8, _), (9, _), (10, _)]) (fun ρ wz m => ∃ (v11 : Value) (og11 : Option Nat) (j : Nat), ρ = [(11, v11), (12, .int .i64 (j : Nat))] ∧ m = l.length - j ∧ UpdL [(some g10)] w7 wz ∧ Osl VI wz og11 v11 (keyF a0 xa3 l (clF a0 xa4 xa3 l n) i j) ∧ OgR w7 (some g10) og11 ∧ (j ≤ l.length)) (ρ₀ := [(11, _), (12, _)]) (m₀ := _) ⟨rfl, rfl, rfl, rfl, rfl, rfl, rfl, rfl, rfl, trivial⟩ ⟨v10, (some g10), 0, rfl, rfl, (UpdL.refl _ _), osE ho10 (by rw [ei1]; rfl), OgR.refl _ _, (by first | omega | rfl | (simp; done) | assumption | (simp_all; done))⟩ ?_
      rintro _ wl4 _ ⟨v11, og11, j, rfl, rfl, hU3, ho11, ha11, hj⟩
      have hU1 := hU1.trans hU3 ⟨hk1_10, trivial⟩
      have hU2 := hU2.trans hU3 ⟨hk2_10, trivial⟩
      have ho3 := ho3.loop hU3 ⟨hd3_10, trivial⟩
      have ho5 := ho5.loop hU3 ⟨hd5_10, trivial⟩
      have hn8 := hn8.loop hU3 ⟨hd8_10, trivial⟩
      have ho7 := ho7.loop hU3 ⟨hd7_10, trivial⟩
      have hl11 := Lo.ogr hl10 hB ha11
      have hg3_11 := ha11
      have hk3_11 : OkB [(some g10)] w7 og11 := OkB.ogr (OkB.mem (by simp)) (Nat.le_refl _) ha11
      have hk1_11 := OkB.ogr hk1_10 (by first | assumption | exact UpdL.size (by assumption)) ha11
      have hg1_11 := OgR.trans hg1_10 (by first | assumption | exact UpdL.size (by assumption)) ha11
      have hk2_11 := OkB.ogr hk2_10 (by first | assumption | exact UpdL.size (by assumption)) ha11
      have hg2_11 := OgR.trans hg2_10 (by first | assumption | exact UpdL.size (by assumption)) ha11
      have hd3_11 := Dj.ogr hd3_10 hlt3 ha11
      have hd5_11 := Dj.ogr hd5_10 hlt5 ha11
      have hd8_11 := DI.ogr hd8_10 hlt8 ha11
      have hd7_11 := Dj.ogr hd7_10 hlt7 ha11
      have hB := hB.loop hU3 ⟨hl10, trivial⟩
      refine CW.seq ?_
      refine CW.seq ?_
      refine CW.reg ?_
      refine WL.mv rfl rfl ?_
      refine WL.mv rfl rfl ?_
      refine WL.pure rfl rfl rfl ((by first | exact PV.len rfl (by assumption) T.sl22 | exact PV.lenOs rfl (by assumption) T.sl22 | exact PV.len rfl (NL.rd (by assumption)) T.sl22 | exact PV.len rfl (Inn.rd (by assumption) (by omega)) T.sl22)) ?_
      refine WL.pure rfl rfl rfl (PV.lss rfl rfl) ?_
      refine WL.nilS ?_
      refine CW.cond rfl (fun hc5 => ?_) (fun hc5 => ?_)
      · skip
        try simp only [nq] at hc5
        refine CW.skipS ?_
        refine CW.seq ?_
        refine CW.block ?_
        refine CW.seq ?_
        refine CW.draw T.mixed (by kernel_rfl) (fun _ _ _ _ _ h => h) (fun w8 w9 => Upd og11 w8 w9) 27 (.take 0 (.take 1 (.take 2 (.take 3 (.take 4 (.take 5 (.take 6 (.take 7 (.take 8 (.take 9 (.take 10 (.take 11 (.take 12 (.take 13 (.take 14 (.take 15 (.take 16 (.take 17 (.take 18 (.take 19 (.take 20 (.take 21 (.take 22 (.take 23 (.must 24 (.must 25 (.take 26 .done))))))))))))))))))))))))))) (by kernel_rfl) (fun w8 hXd => ?_)
        have hB := hB.trans hXd
        have ho3 := ho3.up hXd
        have ho5 := ho5.up hXd
        have hn8 := hn8.up hXd
        have ho7 := ho7.up hXd
        have ho11 := ho11.up hXd
        have hU1 := hU1.ext hXd
        have hU2 := hU2.ext hXd
        have hU3 := hU3.ext hXd
        have hBr := hB
        have hS : Upd og11 w8 w8 := Ext.toUpd (Ext.refl _)
        have ej9 : ss.getD j 0 = rS l j := (by rw [hse]; exact map1_get l j); have hj9 := hF.st (i := j) (by omega); rw [← ej9] at hj9; have hix1 := sq_idx (q := ss.getD i 0) (r := ss.getD j 0) tvs (by omega) (by omega) tvn; have hix2 := sq_idx (q := ss.getD j 0) (r := ss.getD i 0) tvs (by omega) (by omega) tvn; have hj1 := tv.join hi1 hj9; have hj2 := tv.join hj9 hi1; have hkl := keyF_len (a0 := a0) (nx := xa3) (l := l) (cl := (clF a0 xa4 xa3 l n)) (i := i) j
        refine HP.take rfl rfl rfl rfl hS (fun wS hS1 => PV.move rfl) ?_
        refine HP.take rfl rfl rfl rfl hS (fun wS hS1 => PV.move rfl) ?_
        refine HP.take rfl rfl rfl rfl hS (fun wS hS1 => PV.move rfl) ?_
        refine HP.take rfl rfl rfl rfl hS (fun wS hS1 => PV.nilCheck rfl) ?_
        refine HP.take rfl rfl rfl rfl hS (fun wS hS1 => (by first | exact PV.fieldAddr T.fl36_3 rfl (by first | assumption | exact Bx.cells (by assumption)) | exact PV.fieldAddrP T.fl36_3 rfl rfl)) ?_
        refine HP.take rfl rfl rfl rfl hS (fun wS hS1 => (by first | exact PV.load0 T.na22 rfl (by first | exact Cells.up (by assumption) (hBr.updL hS1 hl11) | exact Bx.cells (Bx.updD (by assumption) hS1 (by first | assumption | exact Dj.symm (by assumption))) | exact Cells.upd (by assumption) hS1 (by simp)) (Ext.refl _) rfl | exact PV.load1 T.na22 rfl (by first | exact Cells.up (by assumption) (hBr.updL hS1 hl11) | exact Bx.cells (Bx.updD (by assumption) hS1 (by first | assumption | exact Dj.symm (by assumption))) | exact Cells.upd (by assumption) hS1 (by simp)) (Ext.refl _) rfl)) ?_
        refine HP.take rfl rfl rfl rfl hS (fun wS hS1 => PV.move rfl) ?_
        refine HP.take rfl rfl rfl rfl hS (fun wS hS1 => PV.move rfl) ?_
        first
          | refine HP.at (x := .tmp 85) (y := .tmp 86) (E := EI) (0) rfl rfl (by first | assumption | exact Inn.rd (by assumption) (by omega)) (by first | omega | (simp only [List.length_set]; omega) | (simp only [List.length_append, List.length_take, List.length_replicate, List.length_drop]; omega)) (fun p9 csp9 hpp9 hcp9 hq => ?_)
          | refine HP.atZ (x := .tmp 85) (y := .tmp 86) (E := EI) (0) rfl rfl (by first | assumption | exact Inn.rd (by assumption) (by omega)) (by first | omega | (simp only [List.length_set]; omega) | (simp only [List.length_append, List.length_take, List.length_replicate, List.length_drop]; omega)) (fun p9 csp9 hpp9 hzp9 hcp9 hq => ?_)
        cases hq
        refine HP.take rfl rfl rfl rfl hS (fun wS hS1 => (by first | exact PV.indexAddr hpp9 rfl rfl T.sl22 | exact PV.indexAddr hpp9 rfl (by rw [← hzp9]; rfl) T.sl22)) ?_
        refine HP.take rfl rfl rfl rfl hS (fun wS hS1 => (by first | exact PV.load0 T.na2 rfl (by first | exact Cells.up (by assumption) (hBr.updL hS1 hl11) | exact Bx.cells (Bx.updD (by assumption) hS1 (by first | assumption | exact Dj.symm (by assumption))) | exact Cells.upd (by assumption) hS1 (by simp)) (Ext.refl _) rfl | exact PV.load1 T.na2 rfl (by first | exact Cells.up (by assumption) (hBr.updL hS1 hl11) | exact Bx.cells (Bx.updD (by assumption) hS1 (by first | assumption | exact Dj.symm (by assumption))) | exact Cells.upd (by assumption) hS1 (by simp)) (Ext.refl _) rfl)) ?_
        refine HP.take rfl rfl rfl rfl hS (fun wS hS1 => PV.move rfl) ?_
        refine HP.take rfl rfl rfl rfl hS (fun wS hS1 => PV.nilCheck rfl) ?_
        refine HP.take rfl rfl rfl rfl hS (fun wS hS1 => (by first | exact PV.fieldAddr T.fl36_0 rfl (by first | assumption | exact Bx.cells (by assumption)) | exact PV.fieldAddrP T.fl36_0 rfl rfl)) ?_
        refine HP.take rfl rfl rfl rfl hS (fun wS hS1 => (by first | exact PV.load0 T.na2 rfl (by first | exact Cells.up (by assumption) (hBr.updL hS1 hl11) | exact Bx.cells (Bx.updD (by assumption) hS1 (by first | assumption | exact Dj.symm (by assumption))) | exact Cells.upd (by assumption) hS1 (by simp)) (Ext.refl _) rfl | exact PV.load1 T.na2 rfl (by first | exact Cells.up (by assumption) (hBr.updL hS1 hl11) | exact Bx.cells (Bx.updD (by assumption) hS1 (by first | assumption | exact Dj.symm (by assumption))) | exact Cells.upd (by assumption) hS1 (by simp)) (Ext.refl _) rfl)) ?_
        refine HP.take rfl rfl rfl rfl hS (fun wS hS1 => PV.mul rfl rfl (by constructor <;> omega)) ?_
        refine HP.take rfl rfl rfl rfl hS (fun wS hS1 => PV.move rfl) ?_
        refine HP.take rfl rfl rfl rfl hS (fun wS hS1 => PV.move rfl) ?_
        first
          | refine HP.at (x := .tmp 94) (y := .tmp 95) (E := EI) (0) rfl rfl (by first | assumption | exact Inn.rd (by assumption) (by omega)) (by first | omega | (simp only [List.length_set]; omega) | (simp only [List.length_append, List.length_take, List.length_replicate, List.length_drop]; omega)) (fun p10 csp10 hpp10 hcp10 hq => ?_)
          | refine HP.atZ (x := .tmp 94) (y := .tmp 95) (E := EI) (0) rfl rfl (by first | assumption | exact Inn.rd (by assumption) (by omega)) (by first | omega | (simp only [List.length_set]; omega) | (simp only [List.length_append, List.length_take, List.length_replicate, List.length_drop]; omega)) (fun p10 csp10 hpp10 hzp10 hcp10 hq => ?_)
        cases hq
        refine HP.take rfl rfl rfl rfl hS (fun wS hS1 => (by first | exact PV.indexAddr hpp10 rfl rfl T.sl22 | exact PV.indexAddr hpp10 rfl (by rw [← hzp10]; rfl) T.sl22)) ?_
        refine HP.take rfl rfl rfl rfl hS (fun wS hS1 => (by first | exact PV.load0 T.na2 rfl (by first | exact Cells.up (by assumption) (hBr.updL hS1 hl11) | exact Bx.cells (Bx.updD (by assumption) hS1 (by first | assumption | exact Dj.symm (by assumption))) | exact Cells.upd (by assumption) hS1 (by simp)) (Ext.refl _) rfl | exact PV.load1 T.na2 rfl (by first | exact Cells.up (by assumption) (hBr.updL hS1 hl11) | exact Bx.cells (Bx.updD (by assumption) hS1 (by first | assumption | exact Dj.symm (by assumption))) | exact Cells.upd (by assumption) hS1 (by simp)) (Ext.refl _) rfl)) ?_
        refine HP.take rfl rfl rfl rfl hS (fun wS hS1 => PV.add rfl rfl (by constructor <;> omega)) ?_
        first
          | refine HP.at (x := .tmp 84) (y := .tmp 98) (E := EI) (0) rfl rfl (by first | assumption | exact Inn.rd (by assumption) (by omega)) (by first | omega | (simp only [List.length_set]; omega) | (simp only [List.length_append, List.length_take, List.length_replicate, List.length_drop]; omega)) (fun p11 csp11 hpp11 hcp11 hq => ?_)
          | refine HP.atZ (x := .tmp 84) (y := .tmp 98) (E := EI) (0) rfl rfl (by first | assumption | exact Inn.rd (by assumption) (by omega)) (by first | omega | (simp only [List.length_set]; omega) | (simp only [List.length_append, List.length_take, List.length_replicate, List.length_drop]; omega)) (fun p11 csp11 hpp11 hzp11 hcp11 hq => ?_)
        cases hq
        refine HP.take rfl rfl rfl rfl hS (fun wS hS1 => (by first | exact PV.indexAddr hpp11 rfl rfl T.sl22 | exact PV.indexAddr hpp11 rfl (by rw [← hzp11]; rfl) T.sl22)) ?_
        refine HP.take rfl rfl rfl rfl hS (fun wS hS1 => (by first | exact PV.load0 T.na2 rfl (by first | exact Cells.up (by assumption) (hBr.updL hS1 hl11) | exact Bx.cells (Bx.updD (by assumption) hS1 (by first | assumption | exact Dj.symm (by assumption))) | exact Cells.upd (by assumption) hS1 (by simp)) (Ext.refl _) rfl | exact PV.load1 T.na2 rfl (by first | exact Cells.up (by assumption) (hBr.updL hS1 hl11) | exact Bx.cells (Bx.updD (by assumption) hS1 (by first | assumption | exact Dj.symm (by assumption))) | exact Cells.upd (by assumption) hS1 (by simp)) (Ext.refl _) rfl)) ?_
        first
          | refine HP.atO (wb := w8) (x := .tmp 80) (y := .tmp 100) (f := VI) (0) rfl rfl (by assumption) (by first | omega | (simp only [List.length_set]; omega) | (simp only [List.length_append, List.length_take, List.length_replicate, List.length_drop]; omega)) (fun p12 hpp12 hcp12 => ?_)
          | refine HP.atOZ (wb := w8) (x := .tmp 80) (y := .tmp 100) (f := VI) (0) rfl rfl (by assumption) (by first | omega | (simp only [List.length_set]; omega) | (simp only [List.length_append, List.length_take, List.length_replicate, List.length_drop]; omega)) (fun p12 hpp12 hzp12 hcp12 => ?_)
        refine HP.take rfl rfl rfl rfl hS (fun wS hS1 => (by first | exact PV.indexAddr hpp12 rfl rfl T.sl22 | exact PV.indexAddr hpp12 rfl (by rw [← hzp12]; rfl) T.sl22)) ?_
        refine HP.take rfl rfl rfl rfl hS (fun wS hS1 => (by first | exact PV.load0 T.na2 rfl (by first | exact Cells.updO hpp12 ho3 hcp12 hS1 (by first | assumption | exact Dj.symm (by assumption)) | exact Cells.up (by assumption) (hBr.updL hS1 hl11) | exact Bx.cells (Bx.updD (by assumption) hS1 (by first | assumption | exact Dj.symm (by assumption))) | exact Cells.upd (by assumption) hS1 (by simp)) (Ext.refl _) rfl | exact PV.load1 T.na2 rfl (by first | exact Cells.updO hpp12 ho3 hcp12 hS1 (by first | assumption | exact Dj.symm (by assumption)) | exact Cells.up (by assumption) (hBr.updL hS1 hl11) | exact Bx.cells (Bx.updD (by assumption) hS1 (by first | assumption | exact Dj.symm (by assumption))) | exact Cells.upd (by assumption) hS1 (by simp)) (Ext.refl _) rfl)) ?_
        refine HP.must rfl rfl (OpK.buildS VI (os := [.tmp 102]) [_] rfl T.sl22 rfl rfl T.zv2 rfl (by intro z hz; first | rfl | (simp only [List.mem_cons, List.not_mem_nil, or_false] at hz; subst hz; exact (by first | exact Rd.cells1 (by assumption) | exact Osl.cells1 (by assumption) | exact Osn.cells1 (by assumption) | exact Rd.cells1 (NL.rd (by assumption)) | exact Inn.cell1 (by assumption) (by omega) | assumption | rfl))) rfl (fun v12 g12 w9 hXw9 ho12 hge12 => ?_))
        have hl12 := Lo.new hB hge12
        have hd3_12 := Dj.new ho3.ltO hge12
        have hd5_12 := Dj.new ho5.ltO hge12
        have hd8_12 := DI.new hn8 hge12
        have hd7_12 := Dj.new ho7.ltO hge12
        have hd11_12 := Dj.new ho11.ltO hge12
        have hk1_12 := OkN.new hU1 hge12
        have hg1_12 := OgR.new hU1.size hge12
        have hk2_12 := OkN.new hU2 hge12
        have hg2_12 := OgR.new hU2.size hge12
        have hk3_12 := OkN.new hU3 hge12
        have hg3_12 := OgR.new hU3.size hge12
        refine ⟨Upd.trans hS (Ext.toUpd hXw9), ?_⟩
        have hS := Upd.trans hS (Ext.toUpd hXw9)
        have hB := hB.trans hXw9
        have ho3 := ho3.up hXw9
        have ho5 := ho5.up hXw9
        have hn8 := hn8.up hXw9
        have ho7 := ho7.up hXw9
        have ho11 := ho11.up hXw9
        have hU1 := hU1.ext hXw9
        have hU2 := hU2.ext hXw9
        have hU3 := hU3.ext hXw9
        refine HP.must rfl rfl (OpK.appendS (f := VI) rfl T.sl22 T.zv2 rfl rfl ho11 rfl (Osl.src ho12 (fun _ => rfl)) (by first | (simp only [List.length_cons, List.length_nil]; omega) | (omega)) (fun v13 og13 w10 hXw10 ho13 hap13 => ?_))
        have hl13 := Lo.app hl11 hB hap13
        have hd3_13 := Dj.app hd3_11 ho3.ltO hap13
        have hd5_13 := Dj.app hd5_11 ho5.ltO hap13
        have hd8_13 := DI.app hd8_11 hn8 hap13
        have hd7_13 := Dj.app hd7_11 ho7.ltO hap13
        have hd12_13 := Dj.app (Dj.symm hd11_12) ho12.ltO hap13
        have hk1_13 := OkN.app hU1 hk1_11 hap13
        have hg1_13 := OgR.app hg1_11 hU1.size hap13
        have hk2_13 := OkN.app hU2 hk2_11 hap13
        have hg2_13 := OgR.app hg2_11 hU2.size hap13
        have hk3_13 := OkN.app hU3 hk3_11 hap13
        have hg3_13 := OgR.app hg3_11 hU3.size hap13
        refine ⟨Upd.trans hS hXw10, ?_⟩
        have hS := Upd.trans hS hXw10
        have hB := hB.updL hXw10 hl11
        have ho3 := ho3.updD hXw10 hd3_11
        have ho5 := ho5.updD hXw10 hd5_11
        have hn8 := hn8.updD hXw10 hd8_11
        have ho7 := ho7.updD hXw10 hd7_11
        have ho12 := ho12.updD hXw10 (Dj.symm hd11_12)
        have hU1 := hU1.step hXw10 hk1_11
        have hU2 := hU2.step hXw10 hk2_11
        have hU3 := hU3.step hXw10 hk3_11
        refine HP.take rfl rfl rfl rfl hS (fun wS hS1 => PV.assign rfl) ?_
        refine HP.doneS ?_
        refine CW.draw T.mixed (by kernel_rfl) (fun _ _ _ _ _ h => h) (fun w8 w9 => Upd og13 w8 w9) 27 (.take 0 (.take 1 (.take 2 (.take 3 (.take 4 (.take 5 (.take 6 (.take 7 (.take 8 (.take 9 (.take 10 (.take 11 (.take 12 (.take 13 (.take 14 (.take 15 (.take 16 (.take 17 (.take 18 (.take 19 (.take 20 (.take 21 (.take 22 (.take 23 (.must 24 (.must 25 (.take 26 .done))))))))))))))))))))))))))) (by kernel_rfl) (fun w11 hXd => ?_)
        have hB := hB.trans hXd
        have ho3 := ho3.up hXd
        have ho5 := ho5.up hXd
        have hn8 := hn8.up hXd
        have ho7 := ho7.up hXd
        have ho12 := ho12.up hXd
        have ho13 := ho13.up hXd
        have hU1 := hU1.ext hXd
        have hU2 := hU2.ext hXd
        have hU3 := hU3.ext hXd
        have hBr := hB
        have hS : Upd og13 w11 w11 := Ext.toUpd (Ext.refl _)
        refine HP.take rfl rfl rfl rfl hS (fun wS hS1 => PV.move rfl) ?_
        refine HP.take rfl rfl rfl rfl hS (fun wS hS1 => PV.move rfl) ?_
        refine HP.take rfl rfl rfl rfl hS (fun wS hS1 => PV.move rfl) ?_
        refine HP.take rfl rfl rfl rfl hS (fun wS hS1 => PV.nilCheck rfl) ?_
        refine HP.take rfl rfl rfl rfl hS (fun wS hS1 => (by first | exact PV.fieldAddr T.fl36_3 rfl (by first | assumption | exact Bx.cells (by assumption)) | exact PV.fieldAddrP T.fl36_3 rfl rfl)) ?_
        refine HP.take rfl rfl rfl rfl hS (fun wS hS1 => (by first | exact PV.load0 T.na22 rfl (by first | exact Cells.up (by assumption) (hBr.updL hS1 hl13) | exact Bx.cells (Bx.updD (by assumption) hS1 (by first | assumption | exact Dj.symm (by assumption))) | exact Cells.upd (by assumption) hS1 (by simp)) (Ext.refl _) rfl | exact PV.load1 T.na22 rfl (by first | exact Cells.up (by assumption) (hBr.updL hS1 hl13) | exact Bx.cells (Bx.updD (by assumption) hS1 (by first | assumption | exact Dj.symm (by assumption))) | exact Cells.upd (by assumption) hS1 (by simp)) (Ext.refl _) rfl)) ?_
        refine HP.take rfl rfl rfl rfl hS (fun wS hS1 => PV.move rfl) ?_
        refine HP.take rfl rfl rfl rfl hS (fun wS hS1 => PV.move rfl) ?_
        first
          | refine HP.at (x := .tmp 111) (y := .tmp 112) (E := EI) (0) rfl rfl (by first | assumption | exact Inn.rd (by assumption) (by omega)) (by first | omega | (simp only [List.length_set]; omega) | (simp only [List.length_append, List.length_take, List.length_replicate, List.length_drop]; omega)) (fun p13 csp13 hpp13 hcp13 hq => ?_)
          | refine HP.atZ (x := .tmp 111) (y := .tmp 112) (E := EI) (0) rfl rfl (by first | assumption | exact Inn.rd (by assumption) (by omega)) (by first | omega | (simp only [List.length_set]; omega) | (simp only [List.length_append, List.length_take, List.length_replicate, List.length_drop]; omega)) (fun p13 csp13 hpp13 hzp13 hcp13 hq => ?_)
        cases hq
        refine HP.take rfl rfl rfl rfl hS (fun wS hS1 => (by first | exact PV.indexAddr hpp13 rfl rfl T.sl22 | exact PV.indexAddr hpp13 rfl (by rw [← hzp13]; rfl) T.sl22)) ?_
        refine HP.take rfl rfl rfl rfl hS (fun wS hS1 => (by first | exact PV.load0 T.na2 rfl (by first | exact Cells.up (by assumption) (hBr.updL hS1 hl13) | exact Bx.cells (Bx.updD (by assumption) hS1 (by first | assumption | exact Dj.symm (by assumption))) | exact Cells.upd (by assumption) hS1 (by simp)) (Ext.refl _) rfl | exact PV.load1 T.na2 rfl (by first | exact Cells.up (by assumption) (hBr.updL hS1 hl13) | exact Bx.cells (Bx.updD (by assumption) hS1 (by first | assumption | exact Dj.symm (by assumption))) | exact Cells.upd (by assumption) hS1 (by simp)) (Ext.refl _) rfl)) ?_
        refine HP.take rfl rfl rfl rfl hS (fun wS hS1 => PV.move rfl) ?_
        refine HP.take rfl rfl rfl rfl hS (fun wS hS1 => PV.nilCheck rfl) ?_
        refine HP.take rfl rfl rfl rfl hS (fun wS hS1 => (by first | exact PV.fieldAddr T.fl36_0 rfl (by first | assumption | exact Bx.cells (by assumption)) | exact PV.fieldAddrP T.fl36_0 rfl rfl)) ?_
        refine HP.take rfl rfl rfl rfl hS (fun wS hS1 => (by first | exact PV.load0 T.na2 rfl (by first | exact Cells.up (by assumption) (hBr.updL hS1 hl13) | exact Bx.cells (Bx.updD (by assumption) hS1 (by first | assumption | exact Dj.symm (by assumption))) | exact Cells.upd (by assumption) hS1 (by simp)) (Ext.refl _) rfl | exact PV.load1 T.na2 rfl (by first | exact Cells.up (by assumption) (hBr.updL hS1 hl13) | exact Bx.cells (Bx.updD (by assumption) hS1 (by first | assumption | exact Dj.symm (by assumption))) | exact Cells.upd (by assumption) hS1 (by simp)) (Ext.refl _) rfl)) ?_
        refine HP.take rfl rfl rfl rfl hS (fun wS hS1 => PV.mul rfl rfl (by constructor <;> omega)) ?_
        refine HP.take rfl rfl rfl rfl hS (fun wS hS1 => PV.move rfl) ?_
        refine HP.take rfl rfl rfl rfl hS (fun wS hS1 => PV.move rfl) ?_
        first
          | refine HP.at (x := .tmp 120) (y := .tmp 121) (E := EI) (0) rfl rfl (by first | assumption | exact Inn.rd (by assumption) (by omega)) (by first | omega | (simp only [List.length_set]; omega) | (simp only [List.length_append, List.length_take, List.length_replicate, List.length_drop]; omega)) (fun p14 csp14 hpp14 hcp14 hq => ?_)
          | refine HP.atZ (x := .tmp 120) (y := .tmp 121) (E := EI) (0) rfl rfl (by first | assumption | exact Inn.rd (by assumption) (by omega)) (by first | omega | (simp only [List.length_set]; omega) | (simp only [List.length_append, List.length_take, List.length_replicate, List.length_drop]; omega)) (fun p14 csp14 hpp14 hzp14 hcp14 hq => ?_)
        cases hq
        refine HP.take rfl rfl rfl rfl hS (fun wS hS1 => (by first | exact PV.indexAddr hpp14 rfl rfl T.sl22 | exact PV.indexAddr hpp14 rfl (by rw [← hzp14]; rfl) T.sl22)) ?_
        refine HP.take rfl rfl rfl rfl hS (fun wS hS1 => (by first | exact PV.load0 T.na2 rfl (by first | exact Cells.up (by assumption) (hBr.updL hS1 hl13) | exact Bx.cells (Bx.updD (by assumption) hS1 (by first | assumption | exact Dj.symm (by assumption))) | exact Cells.upd (by assumption) hS1 (by simp)) (Ext.refl _) rfl | exact PV.load1 T.na2 rfl (by first | exact Cells.up (by assumption) (hBr.updL hS1 hl13) | exact Bx.cells (Bx.updD (by assumption) hS1 (by first | assumption | exact Dj.symm (by assumption))) | exact Cells.upd (by assumption) hS1 (by simp)) (Ext.refl _) rfl)) ?_
        refine HP.take rfl rfl rfl rfl hS (fun wS hS1 => PV.add rfl rfl (by constructor <;> omega)) ?_
        first
          | refine HP.at (x := .tmp 110) (y := .tmp 124) (E := EI) (0) rfl rfl (by first | assumption | exact Inn.rd (by assumption) (by omega)) (by first | omega | (simp only [List.length_set]; omega) | (simp only [List.length_append, List.length_take, List.length_replicate, List.length_drop]; omega)) (fun p15 csp15 hpp15 hcp15 hq => ?_)
          | refine HP.atZ (x := .tmp 110) (y := .tmp 124) (E := EI) (0) rfl rfl (by first | assumption | exact Inn.rd (by assumption) (by omega)) (by first | omega | (simp only [List.length_set]; omega) | (simp only [List.length_append, List.length_take, List.length_replicate, List.length_drop]; omega)) (fun p15 csp15 hpp15 hzp15 hcp15 hq => ?_)
        cases hq
        refine HP.take rfl rfl rfl rfl hS (fun wS hS1 => (by first | exact PV.indexAddr hpp15 rfl rfl T.sl22 | exact PV.indexAddr hpp15 rfl (by rw [← hzp15]; rfl) T.sl22)) ?_
        refine HP.take rfl rfl rfl rfl hS (fun wS hS1 => (by first | exact PV.load0 T.na2 rfl (by first | exact Cells.up (by assumption) (hBr.updL hS1 hl13) | exact Bx.cells (Bx.updD (by assumption) hS1 (by first | assumption | exact Dj.symm (by assumption))) | exact Cells.upd (by assumption) hS1 (by simp)) (Ext.refl _) rfl | exact PV.load1 T.na2 rfl (by first | exact Cells.up (by assumption) (hBr.updL hS1 hl13) | exact Bx.cells (Bx.updD (by assumption) hS1 (by first | assumption | exact Dj.symm (by assumption))) | exact Cells.upd (by assumption) hS1 (by simp)) (Ext.refl _) rfl)) ?_
        first
          | refine HP.atO (wb := w11) (x := .tmp 106) (y := .tmp 126) (f := VI) (0) rfl rfl (by assumption) (by first | omega | (simp only [List.length_set]; omega) | (simp only [List.length_append, List.length_take, List.length_replicate, List.length_drop]; omega)) (fun p16 hpp16 hcp16 => ?_)
          | refine HP.atOZ (wb := w11) (x := .tmp 106) (y := .tmp 126) (f := VI) (0) rfl rfl (by assumption) (by first | omega | (simp only [List.length_set]; omega) | (simp only [List.length_append, List.length_take, List.length_replicate, List.length_drop]; omega)) (fun p16 hpp16 hzp16 hcp16 => ?_)
        refine HP.take rfl rfl rfl rfl hS (fun wS hS1 => (by first | exact PV.indexAddr hpp16 rfl rfl T.sl22 | exact PV.indexAddr hpp16 rfl (by rw [← hzp16]; rfl) T.sl22)) ?_
        refine HP.take rfl rfl rfl rfl hS (fun wS hS1 => (by first | exact PV.load0 T.na2 rfl (by first | exact Cells.updO hpp16 ho3 hcp16 hS1 (by first | assumption | exact Dj.symm (by assumption)) | exact Cells.up (by assumption) (hBr.updL hS1 hl13) | exact Bx.cells (Bx.updD (by assumption) hS1 (by first | assumption | exact Dj.symm (by assumption))) | exact Cells.upd (by assumption) hS1 (by simp)) (Ext.refl _) rfl | exact PV.load1 T.na2 rfl (by first | exact Cells.updO hpp16 ho3 hcp16 hS1 (by first | assumption | exact Dj.symm (by assumption)) | exact Cells.up (by assumption) (hBr.updL hS1 hl13) | exact Bx.cells (Bx.updD (by assumption) hS1 (by first | assumption | exact Dj.symm (by assumption))) | exact Cells.upd (by assumption) hS1 (by simp)) (Ext.refl _) rfl)) ?_
        refine HP.must rfl rfl (OpK.buildS VI (os := [.tmp 128]) [_] rfl T.sl22 rfl rfl T.zv2 rfl (by intro z hz; first | rfl | (simp only [List.mem_cons, List.not_mem_nil, or_false] at hz; subst hz; exact (by first | exact Rd.cells1 (by assumption) | exact Osl.cells1 (by assumption) | exact Osn.cells1 (by assumption) | exact Rd.cells1 (NL.rd (by assumption)) | exact Inn.cell1 (by assumption) (by omega) | assumption | rfl))) rfl (fun v14 g14 w12 hXw12 ho14 hge14 => ?_))
        have hl14 := Lo.new hB hge14
        have hd3_14 := Dj.new ho3.ltO hge14
        have hd5_14 := Dj.new ho5.ltO hge14
        have hd8_14 := DI.new hn8 hge14
        have hd7_14 := Dj.new ho7.ltO hge14
        have hd12_14 := Dj.new ho12.ltO hge14
        have hd13_14 := Dj.new ho13.ltO hge14
        have hk1_14 := OkN.new hU1 hge14
        have hg1_14 := OgR.new hU1.size hge14
        have hk2_14 := OkN.new hU2 hge14
        have hg2_14 := OgR.new hU2.size hge14
        have hk3_14 := OkN.new hU3 hge14
        have hg3_14 := OgR.new hU3.size hge14
        refine ⟨Upd.trans hS (Ext.toUpd hXw12), ?_⟩
        have hS := Upd.trans hS (Ext.toUpd hXw12)
        have hB := hB.trans hXw12
        have ho3 := ho3.up hXw12
        have ho5 := ho5.up hXw12
        have hn8 := hn8.up hXw12
        have ho7 := ho7.up hXw12
        have ho12 := ho12.up hXw12
        have ho13 := ho13.up hXw12
        have hU1 := hU1.ext hXw12
        have hU2 := hU2.ext hXw12
        have hU3 := hU3.ext hXw12
        refine HP.must rfl rfl (OpK.appendS (f := VI) rfl T.sl22 T.zv2 rfl rfl ho13 rfl (Osl.src ho14 (fun _ => rfl)) (by first | (simp only [List.length_cons, List.length_nil]; omega) | (simp only [List.length_append, List.length_cons, List.length_nil]; omega)) (fun v15 og15 w13 hXw13 ho15 hap15 => ?_))
        have hl15 := Lo.app hl13 hB hap15
        have hd3_15 := Dj.app hd3_13 ho3.ltO hap15
        have hd5_15 := Dj.app hd5_13 ho5.ltO hap15
        have hd8_15 := DI.app hd8_13 hn8 hap15
        have hd7_15 := Dj.app hd7_13 ho7.ltO hap15
        have hd12_15 := Dj.app hd12_13 ho12.ltO hap15
        have hd14_15 := Dj.app (Dj.symm hd13_14) ho14.ltO hap15
        have hk1_15 := OkN.app hU1 hk1_13 hap15
        have hg1_15 := OgR.app hg1_13 hU1.size hap15
        have hk2_15 := OkN.app hU2 hk2_13 hap15
        have hg2_15 := OgR.app hg2_13 hU2.size hap15
        have hk3_15 := OkN.app hU3 hk3_13 hap15
        have hg3_15 := OgR.app hg3_13 hU3.size hap15
        refine ⟨Upd.trans hS hXw13, ?_⟩
        have hS := Upd.trans hS hXw13
        have hB := hB.updL hXw13 hl13
        have ho3 := ho3.updD hXw13 hd3_13
        have ho5 := ho5.updD hXw13 hd5_13
        have hn8 := hn8.updD hXw13 hd8_13
        have ho7 := ho7.updD hXw13 hd7_13
        have ho12 := ho12.updD hXw13 hd12_13
        have ho14 := ho14.updD hXw13 (Dj.symm hd13_14)
        have hU1 := hU1.step hXw13 hk1_13
        have hU2 := hU2.step hXw13 hk2_13
        have hU3 := hU3.step hXw13 hk3_13
        refine HP.take rfl rfl rfl rfl hS (fun wS hS1 => PV.assign rfl) ?_
        refine HP.done ?_
        refine NQ.block ?_
        refine NQ.then ?_
        refine CW.reg ?_
        refine WL.mv rfl rfl ?_
        refine WL.pure rfl rfl rfl (PV.add rfl rfl (by constructor <;> omega)) ?_
        refine WL.asg rfl rfl ?_
        refine WL.nil ?_
        refine NQ.next (ρ := [(11, _), (12, _)]) ⟨rfl, rfl, rfl, rfl, rfl, rfl, rfl, rfl, rfl, trivial⟩ ?_
        exact ⟨_, ⟨v15, og15, j + 1, rfl, rfl, hU3, osE ho15 (by exact key_app (by rw [← ei1, ← ej9]) (by rw [← ei1, ← ej9])), (by first | exact hg3_15 | exact OgR.weak hg3_15), (by first | omega | assumption | (simp_all; done) | (simp_all; omega))⟩, by omega⟩
      try simp only [nq] at hc5
      refine CW.exit ?_
      refine XQ.then ?_
      refine XQ.then ?_
      refine XQ.here ?_
      refine NQ.then ?_
      refine CW.seq ?_
      refine CW.reg ?_
      (obtain rfl : j = l.length := (by omega)); have hkl2 := keyF_len (a0 := a0) (nx := xa3) (l := l) (cl := (clF a0 xa4 xa3 l n)) (i := i) l.length; have hkm := ksF_mem (a0 := a0) (nx := xa3) (l := l) (cl := (clF a0 xa4 xa3 l n)) i; have hkc := ksF_le (a0 := a0) (nx := xa3) (l := l) (cl := (clF a0 xa4 xa3 l n)) i
      refine WL.asg rfl rfl ?_
      refine WL.nilS ?_
      refine CW.seq ?_
      refine CW.block ?_
      refine CW.loop (σk := [(0, _), (1, _), (5, _), (7, _), (8, _), (9, _), (10, _), (11, _)]) (fun ρ wz m => ∃ (t : Nat), ρ = [(13, .int .i64 (t : Nat))] ∧ m = (ksF a0 xa3 l (clF a0 xa4 xa3 l n) i).length - t ∧ UpdL [] wl4 wz ∧ (t ≤ (ksF a0 xa3 l (clF a0 xa4 xa3 l n) i).length) ∧ (∀ j : Nat, j < t → (ksF a0 xa3 l (clF a0 xa4 xa3 l n) i).getD j [] ≠ keyF a0 xa3 l (clF a0 xa4 xa3 l n) i l.length)) (ρ₀ := [(13, _)]) (m₀ := _) ⟨rfl, rfl, rfl, rfl, rfl, rfl, rfl, rfl, rfl, trivial⟩ ⟨0, rfl, rfl, (UpdL.refl _ _), (by first | omega | rfl | (simp; done) | assumption | (simp_all; done)), (by intro j h; omega)⟩ ?_
      rintro _ wl5 _ ⟨t, rfl, rfl, hU4, ht, hno⟩
      have hU1 := hU1.trans hU4 trivial
      have hU2 := hU2.trans hU4 trivial
      have ho3 := ho3.loop hU4 trivial
      have ho5 := ho5.loop hU4 trivial
      have hn8 := hn8.loop hU4 trivial
      have ho7 := ho7.loop hU4 trivial
      have ho11 := ho11.loop hU4 trivial
      have hB := hB.loop hU4 trivial
      refine CW.seq ?_
      refine CW.seq ?_
      refine CW.reg ?_
      refine WL.mv rfl rfl ?_
      refine WL.mv rfl rfl ?_
      refine WL.pure rfl rfl rfl ((PV.lenOs rfl ho7 T.sl83)) ?_
      refine WL.pure rfl rfl rfl (PV.lss rfl rfl) ?_
      refine WL.mv rfl rfl ?_
      refine WL.split (t := 135) rfl (fun hc6 => ?_) (fun hc6 => ?_)
      rotate_left
      · skip
        try simp only [nq] at hc6
        refine WL.skip rfl rfl rfl rfl rfl ?_
        refine WL.skip rfl rfl rfl rfl rfl ?_
        refine WL.skip rfl rfl rfl rfl rfl ?_
        refine WL.skip rfl rfl rfl rfl rfl ?_
        refine WL.skip rfl rfl rfl rfl rfl ?_
        refine WL.skip rfl rfl rfl rfl rfl ?_
        refine WL.skip rfl rfl rfl rfl rfl ?_
        refine WL.pure rfl rfl rfl (PV.pickF rfl rfl) ?_
        refine WL.nilS ?_
        refine CW.condF rfl ?_
        refine CW.exit ?_
        refine XQ.then ?_
        refine XQ.then ?_
        refine XQ.here ?_
        refine NQ.then ?_
        refine CW.seq ?_
        refine CW.seq ?_
        refine CW.reg ?_
        have hix : ixK (ksF a0 xa3 l (clF a0 xa4 xa3 l n) i) (keyF a0 xa3 l (clF a0 xa4 xa3 l n) i l.length) = t := (by first | exact ixK_hit hno (by omega) (by assumption) | exact (ixK_no hno (by omega)).trans (by omega))
        refine WL.mv rfl rfl ?_
        refine WL.mv rfl rfl ?_
        refine WL.pure rfl rfl rfl ((PV.lenOs rfl ho7 T.sl83)) ?_
        refine WL.pure rfl rfl rfl (PV.eql rfl rfl) ?_
        refine WL.nilS ?_
        refine CW.cond rfl (fun hc7 => ?_) (fun hc7 => ?_)
        · skip
          try simp only [nq] at hc7
          refine CW.reg ?_
          refine WL.mv rfl rfl ?_
          refine WL.mv rfl rfl ?_
          refine WL.op rfl (OpK.buildS VV (os := [.tmp 151]) [_] rfl T.sl83 rfl rfl T.zv22 rfl (by intro z hz; first | rfl | (simp only [List.mem_cons, List.not_mem_nil, or_false] at hz; subst hz; exact (by first | exact Rd.cells1 (by assumption) | exact Osl.cells1 (by assumption) | exact Osn.cells1 (by assumption) | exact Rd.cells1 (NL.rd (by assumption)) | exact Inn.cell1 (by assumption) (by omega) | assumption | rfl))) rfl (fun v16 g16 w14 hXw14 ho16 hge16 => ?_))
          have hl16 := Lo.new hB hge16
          have hd3_16 := Dj.new ho3.ltO hge16
          have hd5_16 := Dj.new ho5.ltO hge16
          have hd8_16 := DI.new hn8 hge16
          have hd7_16 := Dj.new ho7.ltO hge16
          have hd11_16 := Dj.new ho11.ltO hge16
          have hk1_16 := OkN.new hU1 hge16
          have hg1_16 := OgR.new hU1.size hge16
          have hk2_16 := OkN.new hU2 hge16
          have hg2_16 := OgR.new hU2.size hge16
          have hB := hB.trans hXw14
          have ho3 := ho3.up hXw14
          have ho5 := ho5.up hXw14
          have hn8 := hn8.up hXw14
          have ho7 := ho7.up hXw14
          have ho11 := ho11.up hXw14
          have hU1 := hU1.ext hXw14
          have hU2 := hU2.ext hXw14
          refine WL.op rfl (OpK.appendS (f := VV) rfl T.sl83 T.zv22 rfl rfl ho7 rfl (Osl.srcM ho16 (one_mem (Osl.oneCell ho11))) (by first | (simp only [List.length_cons, List.length_nil]; omega) | (omega)) (fun v17 og17 w15 hXw15 ho17 hap17 => ?_))
          have hn18 := Inn.put hn8 ho11 hd8_11
          have hl18 := LoI.put hl8 hl11
          have hz1_18 := BlR.put hz1_8 hg1_11
          have hz2_18 := BlR.put hz2_8 hg2_11
          have hd3_18 := DI.put hd3_8 (Dj.symm hd3_11)
          have hd5_18 := DI.put hd5_8 (Dj.symm hd5_11)
          have hd7_18 := DI.put hd7_8 (Dj.symm hd7_11)
          have hd16_18 := DI.put hd8_16 hd11_16
          have hnp18 := hn18
          have hl17 := Lo.app hl7 hB hap17
          have hd3_17 := Dj.app hd3_7 ho3.ltO hap17
          have hd5_17 := Dj.app hd5_7 ho5.ltO hap17
          have hd16_17 := Dj.app (Dj.symm hd7_16) ho16.ltO hap17
          have hd17_18 := DI.app hd7_18 hn18 hap17
          have hk1_17 := OkN.app hU1 hk1_7 hap17
          have hg1_17 := OgR.app hg1_7 hU1.size hap17
          have hk2_17 := OkN.app hU2 hk2_7 hap17
          have hg2_17 := OgR.app hg2_7 hU2.size hap17
          have hB := hB.updL hXw15 hl7
          have ho3 := ho3.updD hXw15 hd3_7
          have ho5 := ho5.updD hXw15 hd5_7
          have ho16 := ho16.updD hXw15 (Dj.symm hd7_16)
          have hn18 := hn18.updD hXw15 hd7_18
          have hU1 := hU1.step hXw15 hk1_7
          have hU2 := hU2.step hXw15 hk2_7
          refine WL.asg rfl rfl ?_
          refine WL.nilS ?_
          refine CW.reg ?_
          refine WL.mv rfl rfl ?_
          refine WL.mv rfl rfl ?_
          refine WL.mv rfl rfl ?_
          first
            | refine WL.at (x := .tmp 155) (y := .tmp 156) (E := EI) (0) rfl rfl (by first | assumption | exact Inn.rd (by assumption) (by omega)) (by first | omega | (simp only [List.length_set]; omega) | (simp only [List.length_append, List.length_take, List.length_replicate, List.length_drop]; omega)) (fun p17 csp17 hpp17 hcp17 hq => ?_)
            | refine WL.atZ (x := .tmp 155) (y := .tmp 156) (E := EI) (0) rfl rfl (by first | assumption | exact Inn.rd (by assumption) (by omega)) (by first | omega | (simp only [List.length_set]; omega) | (simp only [List.length_append, List.length_take, List.length_replicate, List.length_drop]; omega)) (fun p17 csp17 hpp17 hzp17 hcp17 hq => ?_)
          cases hq
          refine WL.pure rfl rfl rfl ((by first | exact PV.indexAddr hpp17 rfl rfl T.sl22 | exact PV.indexAddr hpp17 rfl (by rw [← hzp17]; rfl) T.sl22)) ?_
          refine WL.pure rfl rfl rfl ((by first | exact PV.load0 T.na2 rfl (by first | exact Cells.up (by assumption) hB | exact Bx.cells (by assumption) | assumption) (Ext.refl _) rfl | exact PV.load1 T.na2 rfl (by first | exact Cells.up (by assumption) hB | exact Bx.cells (by assumption) | assumption) (Ext.refl _) rfl)) ?_
          refine WL.mv rfl rfl ?_
          first
            | refine WL.atO (x := .tmp 154) (y := .tmp 158) (f := VI) (0) rfl rfl ho5 (by first | omega | (simp only [List.length_set]; omega) | (simp only [List.length_append, List.length_take, List.length_replicate, List.length_drop]; omega)) (fun p18 hpp18 hcp18 => ?_)
            | refine WL.atOZ (x := .tmp 154) (y := .tmp 158) (f := VI) (0) rfl rfl ho5 (by first | omega | (simp only [List.length_set]; omega) | (simp only [List.length_append, List.length_take, List.length_replicate, List.length_drop]; omega)) (fun p18 hpp18 hzp18 hcp18 => ?_)
          refine WL.pure rfl rfl rfl ((by first | exact PV.indexAddr hpp18 rfl rfl T.sl22 | exact PV.indexAddr hpp18 rfl (by rw [← hzp18]; rfl) T.sl22)) ?_
          refine WL.op rfl (OpK.storeS VI T.sz2 rfl rfl rfl hpp18 ho5 (fun w16 hXw16 ho5 => ?_))
          have hB := hB.updL hXw16 hl5
          have ho3 := ho3.updD hXw16 hd3_5
          have ho16 := ho16.updD hXw16 (Dj.symm hd5_16)
          have hn18 := hn18.updD hXw16 hd5_18
          have ho17 := ho17.updD hXw16 (Dj.symm hd5_17)
          have hU1 := hU1.step hXw16 hk1_5
          have hU2 := hU2.step hXw16 hk2_5
          refine WL.nil ?_
          refine NQ.block ?_
          refine NQ.then ?_
          refine CW.reg ?_
          refine WL.mv rfl rfl ?_
          refine WL.pure rfl rfl rfl (PV.add rfl rfl (by constructor <;> omega)) ?_
          refine WL.asg rfl rfl ?_
          refine WL.nil ?_
          refine NQ.next (ρ := [(8, _), (10, _)]) ⟨rfl, rfl, rfl, rfl, rfl, rfl, rfl, trivial⟩ ?_
          exact ⟨_, ⟨v17, og17, _, (os7 ++ [og11]), i + 1, rfl, rfl, hU2, ho17, (by first | exact hg2_17 | exact OgR.weak hg2_17), innE hn18 (by first | exact ks_newS (by omega) | exact ks_oldS (by omega)), (by first | exact hz2_18 | exact BlR.weak hz2_18), osE ho5 (by rw [ei1]; exact nx_set (by rw [hix])), hd17_18, (by first | omega | assumption | (simp_all; done) | (simp_all; omega))⟩, by omega⟩
        try simp only [nq] at hc7
        refine CW.skipS ?_
        refine CW.reg ?_
        refine WL.mv rfl rfl ?_
        refine WL.mv rfl rfl ?_
        refine WL.mv rfl rfl ?_
        first
          | refine WL.at (x := .tmp 155) (y := .tmp 156) (E := EI) (0) rfl rfl (by first | assumption | exact Inn.rd (by assumption) (by omega)) (by first | omega | (simp only [List.length_set]; omega) | (simp only [List.length_append, List.length_take, List.length_replicate, List.length_drop]; omega)) (fun p19 csp19 hpp19 hcp19 hq => ?_)
          | refine WL.atZ (x := .tmp 155) (y := .tmp 156) (E := EI) (0) rfl rfl (by first | assumption | exact Inn.rd (by assumption) (by omega)) (by first | omega | (simp only [List.length_set]; omega) | (simp only [List.length_append, List.length_take, List.length_replicate, List.length_drop]; omega)) (fun p19 csp19 hpp19 hzp19 hcp19 hq => ?_)
        cases hq
        refine WL.pure rfl rfl rfl ((by first | exact PV.indexAddr hpp19 rfl rfl T.sl22 | exact PV.indexAddr hpp19 rfl (by rw [← hzp19]; rfl) T.sl22)) ?_
        refine WL.pure rfl rfl rfl ((by first | exact PV.load0 T.na2 rfl (by first | exact Cells.up (by assumption) hB | exact Bx.cells (by assumption) | assumption) (Ext.refl _) rfl | exact PV.load1 T.na2 rfl (by first | exact Cells.up (by assumption) hB | exact Bx.cells (by assumption) | assumption) (Ext.refl _) rfl)) ?_
        refine WL.mv rfl rfl ?_
        first
          | refine WL.atO (x := .tmp 154) (y := .tmp 158) (f := VI) (0) rfl rfl ho5 (by first | omega | (simp only [List.length_set]; omega) | (simp only [List.length_append, List.length_take, List.length_replicate, List.length_drop]; omega)) (fun p20 hpp20 hcp20 => ?_)
          | refine WL.atOZ (x := .tmp 154) (y := .tmp 158) (f := VI) (0) rfl rfl ho5 (by first | omega | (simp only [List.length_set]; omega) | (simp only [List.length_append, List.length_take, List.length_replicate, List.length_drop]; omega)) (fun p20 hpp20 hzp20 hcp20 => ?_)
        refine WL.pure rfl rfl rfl ((by first | exact PV.indexAddr hpp20 rfl rfl T.sl22 | exact PV.indexAddr hpp20 rfl (by rw [← hzp20]; rfl) T.sl22)) ?_
        refine WL.op rfl (OpK.storeS VI T.sz2 rfl rfl rfl hpp20 ho5 (fun w17 hXw17 ho5 => ?_))
        have hB := hB.updL hXw17 hl5
        have ho3 := ho3.updD hXw17 hd3_5
        have hn8 := hn8.updD hXw17 hd5_8
        have ho7 := ho7.updD hXw17 (Dj.symm hd5_7)
        have ho11 := ho11.updD hXw17 (Dj.symm hd5_11)
        have hU1 := hU1.step hXw17 hk1_5
        have hU2 := hU2.step hXw17 hk2_5
        refine WL.nil ?_
        refine NQ.block ?_
        refine NQ.then ?_
        refine CW.reg ?_
        refine WL.mv rfl rfl ?_
        refine WL.pure rfl rfl rfl (PV.add rfl rfl (by constructor <;> omega)) ?_
        refine WL.asg rfl rfl ?_
        refine WL.nil ?_
        refine NQ.next (ρ := [(8, _), (10, _)]) ⟨rfl, rfl, rfl, rfl, rfl, rfl, rfl, trivial⟩ ?_
        exact ⟨_, ⟨v7, og7, _, os7, i + 1, rfl, rfl, hU2, ho7, (by first | exact hg2_7 | exact OgR.weak hg2_7), innE hn8 (by first | exact ks_newS (by omega) | exact ks_oldS (by omega)), (by first | exact hz2_8 | exact BlR.weak hz2_8), osE ho5 (by rw [ei1]; exact nx_set (by rw [hix])), hd7_8, (by first | omega | assumption | (simp_all; done) | (simp_all; omega))⟩, by omega⟩
      try simp only [nq] at hc6
      refine WL.pureG rfl rfl rfl rfl rfl (PV.move rfl) ?_
      refine WL.pureG rfl rfl rfl rfl rfl (PV.move rfl) ?_
      first
        | refine WL.atO (x := .tmp 136) (y := .tmp 137) (f := VV) (.slice none 0 0) rfl rfl ho7 (by first | omega | (simp only [List.length_set]; omega) | (simp only [List.length_append, List.length_take, List.length_replicate, List.length_drop]; omega)) (fun p21 hpp21 hcp21 => ?_)
        | refine WL.atOZ (x := .tmp 136) (y := .tmp 137) (f := VV) (.slice none 0 0) rfl rfl ho7 (by first | omega | (simp only [List.length_set]; omega) | (simp only [List.length_append, List.length_take, List.length_replicate, List.length_drop]; omega)) (fun p21 hpp21 hzp21 hcp21 => ?_)
      refine WL.pureG rfl rfl rfl rfl rfl ((by first | exact PV.indexAddr hpp21 rfl rfl T.sl83 | exact PV.indexAddr hpp21 rfl (by rw [← hzp21]; rfl) T.sl83)) ?_
      refine WL.pureG rfl rfl rfl rfl rfl ((by first | exact PV.load0 T.na22 rfl (by first | exact Cells.up (by assumption) hB | exact Bx.cells (by assumption) | assumption) (Ext.refl _) rfl | exact PV.load1 T.na22 rfl (by first | exact Cells.up (by assumption) hB | exact Bx.cells (by assumption) | assumption) (Ext.refl _) rfl)) ?_
      refine WL.pureG rfl rfl rfl rfl rfl (PV.move rfl) ?_
      refine WL.opG rfl rfl rfl (OpK.callR rfl T.cf110 rfl (c_spec_l02Equal (by first | assumption | exact Rd.up (by assumption) hB | exact Osl.rd (by assumption) | exact Osn.rdR (by assumption) | exact NL.rd (by assumption) | exact rdII (by assumption) (by assumption) | exact Inn.rd (by assumption) (by omega)) (Osl.rd ho11)) (fun w18 hXw18 => ?_))
      have hB := hB.trans hXw18
      have ho3 := ho3.up hXw18
      have ho5 := ho5.up hXw18
      have hn8 := hn8.up hXw18
      have ho7 := ho7.up hXw18
      have ho11 := ho11.up hXw18
      have hU1 := hU1.ext hXw18
      have hU2 := hU2.ext hXw18
      have hU4 := hU4.ext hXw18
      refine WL.pureG rfl rfl rfl rfl rfl (PV.not rfl) ?_
      refine WL.pure rfl rfl rfl (PV.pickT rfl rfl) ?_
      refine WL.nilS ?_
      refine CW.cond rfl (fun hc8 => ?_) (fun hc8 => ?_)
      · skip
        try simp only [nq] at hc8
        refine CW.skipS ?_
        refine CW.block ?_
        refine CW.reg ?_
        refine WL.mv rfl rfl ?_
        refine WL.pure rfl rfl rfl (PV.add rfl rfl (by constructor <;> omega)) ?_
        refine WL.asg rfl rfl ?_
        refine WL.nil ?_
        refine NQ.block ?_
        refine NQ.next (ρ := [(13, _)]) ⟨rfl, rfl, rfl, rfl, rfl, rfl, rfl, rfl, rfl, trivial⟩ ?_
        exact ⟨_, ⟨t + 1, rfl, rfl, hU4, (by first | omega | assumption | (simp_all; done) | (simp_all; omega)), (by intro j h; rcases Nat.lt_succ_iff_lt_or_eq.1 h with h | rfl; exact hno j h; assumption)⟩, by omega⟩
      try simp only [nq] at hc8
      refine CW.exit ?_
      refine XQ.then ?_
      refine XQ.then ?_
      refine XQ.here ?_
      refine NQ.then ?_
      refine CW.seq ?_
      refine CW.seq ?_
      refine CW.reg ?_
      have hix : ixK (ksF a0 xa3 l (clF a0 xa4 xa3 l n) i) (keyF a0 xa3 l (clF a0 xa4 xa3 l n) i l.length) = t := (by first | exact ixK_hit hno (by omega) (by assumption) | exact (ixK_no hno (by omega)).trans (by omega))
      refine WL.mv rfl rfl ?_
      refine WL.mv rfl rfl ?_
      refine WL.pure rfl rfl rfl ((PV.lenOs rfl ho7 T.sl83)) ?_
      refine WL.pure rfl rfl rfl (PV.eql rfl rfl) ?_
      refine WL.nilS ?_
      refine CW.cond rfl (fun hc9 => ?_) (fun hc9 => ?_)
      · skip
        try simp only [nq] at hc9
        refine CW.reg ?_
        refine WL.mv rfl rfl ?_
        refine WL.mv rfl rfl ?_
        refine WL.op rfl (OpK.buildS VV (os := [.tmp 151]) [_] rfl T.sl83 rfl rfl T.zv22 rfl (by intro z hz; first | rfl | (simp only [List.mem_cons, List.not_mem_nil, or_false] at hz; subst hz; exact (by first | exact Rd.cells1 (by assumption) | exact Osl.cells1 (by assumption) | exact Osn.cells1 (by assumption) | exact Rd.cells1 (NL.rd (by assumption)) | exact Inn.cell1 (by assumption) (by omega) | assumption | rfl))) rfl (fun v19 g19 w19 hXw19 ho19 hge19 => ?_))
        have hl19 := Lo.new hB hge19
        have hd3_19 := Dj.new ho3.ltO hge19
        have hd5_19 := Dj.new ho5.ltO hge19
        have hd8_19 := DI.new hn8 hge19
        have hd7_19 := Dj.new ho7.ltO hge19
        have hd11_19 := Dj.new ho11.ltO hge19
        have hk1_19 := OkN.new hU1 hge19
        have hg1_19 := OgR.new hU1.size hge19
        have hk2_19 := OkN.new hU2 hge19
        have hg2_19 := OgR.new hU2.size hge19
        have hB := hB.trans hXw19
        have ho3 := ho3.up hXw19
        have ho5 := ho5.up hXw19
        have hn8 := hn8.up hXw19
        have ho7 := ho7.up hXw19
        have ho11 := ho11.up hXw19
        have hU1 := hU1.ext hXw19
        have hU2 := hU2.ext hXw19
        refine WL.op rfl (OpK.appendS (f := VV) rfl T.sl83 T.zv22 rfl rfl ho7 rfl (Osl.srcM ho19 (one_mem (Osl.oneCell ho11))) (by first | (simp only [List.length_cons, List.length_nil]; omega) | (omega)) (fun v20 og20 w20 hXw20 ho20 hap20 => ?_))
        have hn21 := Inn.put hn8 ho11 hd8_11
        have hl21 := LoI.put hl8 hl11
        have hz1_21 := BlR.put hz1_8 hg1_11
        have hz2_21 := BlR.put hz2_8 hg2_11
        have hd3_21 := DI.put hd3_8 (Dj.symm hd3_11)
        have hd5_21 := DI.put hd5_8 (Dj.symm hd5_11)
        have hd7_21 := DI.put hd7_8 (Dj.symm hd7_11)
        have hd19_21 := DI.put hd8_19 hd11_19
        have hnp21 := hn21
        have hl20 := Lo.app hl7 hB hap20
        have hd3_20 := Dj.app hd3_7 ho3.ltO hap20
        have hd5_20 := Dj.app hd5_7 ho5.ltO hap20
        have hd19_20 := Dj.app (Dj.symm hd7_19) ho19.ltO hap20
        have hd20_21 := DI.app hd7_21 hn21 hap20
        have hk1_20 := OkN.app hU1 hk1_7 hap20
        have hg1_20 := OgR.app hg1_7 hU1.size hap20
        have hk2_20 := OkN.app hU2 hk2_7 hap20
        have hg2_20 := OgR.app hg2_7 hU2.size hap20
        have hB := hB.updL hXw20 hl7
        have ho3 := ho3.updD hXw20 hd3_7
        have ho5 := ho5.updD hXw20 hd5_7
        have ho19 := ho19.updD hXw20 (Dj.symm hd7_19)
        have hn21 := hn21.updD hXw20 hd7_21
        have hU1 := hU1.step hXw20 hk1_7
        have hU2 := hU2.step hXw20 hk2_7
        refine WL.asg rfl rfl ?_
        refine WL.nilS ?_
        refine CW.reg ?_
        refine WL.mv rfl rfl ?_
        refine WL.mv rfl rfl ?_
        refine WL.mv rfl rfl ?_
        first
          | refine WL.at (x := .tmp 155) (y := .tmp 156) (E := EI) (0) rfl rfl (by first | assumption | exact Inn.rd (by assumption) (by omega)) (by first | omega | (simp only [List.length_set]; omega) | (simp only [List.length_append, List.length_take, List.length_replicate, List.length_drop]; omega)) (fun p22 csp22 hpp22 hcp22 hq => ?_)
          | refine WL.atZ (x := .tmp 155) (y := .tmp 156) (E := EI) (0) rfl rfl (by first | assumption | exact Inn.rd (by assumption) (by omega)) (by first | omega | (simp only [List.length_set]; omega) | (simp only [List.length_append, List.length_take, List.length_replicate, List.length_drop]; omega)) (fun p22 csp22 hpp22 hzp22 hcp22 hq => ?_)
        cases hq
        refine WL.pure rfl rfl rfl ((by first | exact PV.indexAddr hpp22 rfl rfl T.sl22 | exact PV.indexAddr hpp22 rfl (by rw [← hzp22]; rfl) T.sl22)) ?_
        refine WL.pure rfl rfl rfl ((by first | exact PV.load0 T.na2 rfl (by first | exact Cells.up (by assumption) hB | exact Bx.cells (by assumption) | assumption) (Ext.refl _) rfl | exact PV.load1 T.na2 rfl (by first | exact Cells.up (by assumption) hB | exact Bx.cells (by assumption) | assumption) (Ext.refl _) rfl)) ?_
        refine WL.mv rfl rfl ?_
        first
          | refine WL.atO (x := .tmp 154) (y := .tmp 158) (f := VI) (0) rfl rfl ho5 (by first | omega | (simp only [List.length_set]; omega) | (simp only [List.length_append, List.length_take, List.length_replicate, List.length_drop]; omega)) (fun p23 hpp23 hcp23 => ?_)
          | refine WL.atOZ (x := .tmp 154) (y := .tmp 158) (f := VI) (0) rfl rfl ho5 (by first | omega | (simp only [List.length_set]; omega) | (simp only [List.length_append, List.length_take, List.length_replicate, List.length_drop]; omega)) (fun p23 hpp23 hzp23 hcp23 => ?_)
        refine WL.pure rfl rfl rfl ((by first | exact PV.indexAddr hpp23 rfl rfl T.sl22 | exact PV.indexAddr hpp23 rfl (by rw [← hzp23]; rfl) T.sl22)) ?_
        refine WL.op rfl (OpK.storeS VI T.sz2 rfl rfl rfl hpp23 ho5 (fun w21 hXw21 ho5 => ?_))
        have hB := hB.updL hXw21 hl5
        have ho3 := ho3.updD hXw21 hd3_5
        have ho19 := ho19.updD hXw21 (Dj.symm hd5_19)
        have hn21 := hn21.updD hXw21 hd5_21
        have ho20 := ho20.updD hXw21 (Dj.symm hd5_20)
        have hU1 := hU1.step hXw21 hk1_5
        have hU2 := hU2.step hXw21 hk2_5
        refine WL.nil ?_
        refine NQ.block ?_
        refine NQ.then ?_
        refine CW.reg ?_
        refine WL.mv rfl rfl ?_
        refine WL.pure rfl rfl rfl (PV.add rfl rfl (by constructor <;> omega)) ?_
        refine WL.asg rfl rfl ?_
        refine WL.nil ?_
        refine NQ.next (ρ := [(8, _), (10, _)]) ⟨rfl, rfl, rfl, rfl, rfl, rfl, rfl, trivial⟩ ?_
        exact ⟨_, ⟨v20, og20, _, (os7 ++ [og11]), i + 1, rfl, rfl, hU2, ho20, (by first | exact hg2_20 | exact OgR.weak hg2_20), innE hn21 (by first | exact ks_newS (by omega) | exact ks_oldS (by omega)), (by first | exact hz2_21 | exact BlR.weak hz2_21), osE ho5 (by rw [ei1]; exact nx_set (by rw [hix])), hd20_21, (by first | omega | assumption | (simp_all; done) | (simp_all; omega))⟩, by omega⟩
      try simp only [nq] at hc9
      refine CW.skipS ?_
      refine CW.reg ?_
      refine WL.mv rfl rfl ?_
      refine WL.mv rfl rfl ?_
      refine WL.mv rfl rfl ?_
      first
        | refine WL.at (x := .tmp 155) (y := .tmp 156) (E := EI) (0) rfl rfl (by first | assumption | exact Inn.rd (by assumption) (by omega)) (by first | omega | (simp only [List.length_set]; omega) | (simp only [List.length_append, List.length_take, List.length_replicate, List.length_drop]; omega)) (fun p24 csp24 hpp24 hcp24 hq => ?_)
        | refine WL.atZ (x := .tmp 155) (y := .tmp 156) (E := EI) (0) rfl rfl (by first | assumption | exact Inn.rd (by assumption) (by omega)) (by first | omega | (simp only [List.length_set]; omega) | (simp only [List.length_append, List.length_take, List.length_replicate, List.length_drop]; omega)) (fun p24 csp24 hpp24 hzp24 hcp24 hq => ?_)
      cases hq
      refine WL.pure rfl rfl rfl ((by first | exact PV.indexAddr hpp24 rfl rfl T.sl22 | exact PV.indexAddr hpp24 rfl (by rw [← hzp24]; rfl) T.sl22)) ?_
      refine WL.pure rfl rfl rfl ((by first | exact PV.load0 T.na2 rfl (by first | exact Cells.up (by assumption) hB | exact Bx.cells (by assumption) | assumption) (Ext.refl _) rfl | exact PV.load1 T.na2 rfl (by first | exact Cells.up (by assumption) hB | exact Bx.cells (by assumption) | assumption) (Ext.refl _) rfl)) ?_
      refine WL.mv rfl rfl ?_
      first
        | refine WL.atO (x := .tmp 154) (y := .tmp 158) (f := VI) (0) rfl rfl ho5 (by first | omega | (simp only [List.length_set]; omega) | (simp only [List.length_append, List.length_take, List.length_replicate, List.length_drop]; omega)) (fun p25 hpp25 hcp25 => ?_)
        | refine WL.atOZ (x := .tmp 154) (y := .tmp 158) (f := VI) (0) rfl rfl ho5 (by first | omega | (simp only [List.length_set]; omega) | (simp only [List.length_append, List.length_take, List.length_replicate, List.length_drop]; omega)) (fun p25 hpp25 hzp25 hcp25 => ?_)
      refine WL.pure rfl rfl rfl ((by first | exact PV.indexAddr hpp25 rfl rfl T.sl22 | exact PV.indexAddr hpp25 rfl (by rw [← hzp25]; rfl) T.sl22)) ?_
      refine WL.op rfl (OpK.storeS VI T.sz2 rfl rfl rfl hpp25 ho5 (fun w22 hXw22 ho5 => ?_))
      have hB := hB.updL hXw22 hl5
      have ho3 := ho3.updD hXw22 hd3_5
      have hn8 := hn8.updD hXw22 hd5_8
      have ho7 := ho7.updD hXw22 (Dj.symm hd5_7)
      have ho11 := ho11.updD hXw22 (Dj.symm hd5_11)
      have hU1 := hU1.step hXw22 hk1_5
      have hU2 := hU2.step hXw22 hk2_5
      refine WL.nil ?_
      refine NQ.block ?_
      refine NQ.then ?_
      refine CW.reg ?_
      refine WL.mv rfl rfl ?_
      refine WL.pure rfl rfl rfl (PV.add rfl rfl (by constructor <;> omega)) ?_
      refine WL.asg rfl rfl ?_
      refine WL.nil ?_
      refine NQ.next (ρ := [(8, _), (10, _)]) ⟨rfl, rfl, rfl, rfl, rfl, rfl, rfl, trivial⟩ ?_
      exact ⟨_, ⟨v7, og7, _, os7, i + 1, rfl, rfl, hU2, ho7, (by first | exact hg2_7 | exact OgR.weak hg2_7), innE hn8 (by first | exact ks_newS (by omega) | exact ks_oldS (by omega)), (by first | exact hz2_8 | exact BlR.weak hz2_8), osE ho5 (by rw [ei1]; exact nx_set (by rw [hix])), hd7_8, (by first | omega | assumption | (simp_all; done) | (simp_all; omega))⟩, by omega⟩
    try simp only [nq] at hc4
    refine CW.exit ?_
    refine XQ.then ?_
    refine XQ.then ?_
    refine XQ.here ?_
    refine NQ.then ?_
    refine CW.reg ?_
    refine WL.mv rfl rfl ?_
    refine WL.asg rfl rfl ?_
    refine WL.nil ?_
    refine NQ.block ?_
    refine NQ.then ?_
    refine CW.reg ?_
    refine WL.mv rfl rfl ?_
    refine WL.pure rfl rfl rfl (PV.add rfl rfl (by constructor <;> omega)) ?_
    refine WL.asg rfl rfl ?_
    refine WL.nil ?_
    refine NQ.next (ρ := [(5, _), (7, _)]) ⟨rfl, rfl, rfl, rfl, trivial⟩ ?_
    exact ⟨_, ⟨rv2, og5, n + 1, rfl, rfl, hU1, osE ho5 (by (obtain rfl : i = l.length := (by omega)); rfl), (by first | exact hg1_5 | exact OgR.weak hg1_5), (by first | omega | assumption | (simp_all; done) | (simp_all; omega))⟩, by omega⟩
  try simp only [nq] at hc3
  refine CW.exit ?_
  refine XQ.then ?_
  refine XQ.then ?_
  refine XQ.here ?_
  refine NQ.then ?_
  refine CW.seq ?_
  refine CW.reg ?_
  refine WL.mv rfl rfl ?_
  refine WL.asg rfl rfl ?_
  refine WL.nilS ?_
  refine CW.ret ?_
  refine RQ.r1 rfl ?_
  refine ⟨hB, v3, og3, ?_, osE ho3 ?_, hl3⟩
  · skip
    rfl
  · skip
    rw [clsF_eq]; obtain rfl : n = l.length := (by omega); rfl
set_option maxHeartbeats 4000000 in
theorem c_spec_LeastTrees {w : World} {a0 : Int} {a1 : Int} {va2 : Value} {xa2 : List Int} {va3 : Value} {xa3 : List Int} {va4 : Value} {xa4 : List Bool}  (ha2 : Rd EI w va2 xa2) (ha3 : Rd EI w va3 xa3) (ha4 : Rd EB w va4 xa4) : Calls Try.prog 35 #[.agg #[.int .i64 a0, .int .i64 a1, va2, va3, va4]] w (Ret1 (fun v w' => Ext w w' ∧ ∃ u2 og_u2 u3 og_u3 u4 og_u4, v = .tuple #[.agg #[.int .i64 (onI (treesB a0 a1 xa2 xa3 xa4) ((mbF (clsF a0 xa4 xa3 (foundL a0 xa3 xa2)) (foundL a0 xa3 xa2) (foundL a0 xa3 xa2).length).length : Nat)), .int .i64 (onI (treesB a0 a1 xa2 xa3 xa4) a1), u2, u3, u4], .bool (treesB a0 a1 xa2 xa3 xa4)] ∧ Osl VI w' og_u2 u2 (onT (treesB a0 a1 xa2 xa3 xa4) (mpL (clsF a0 xa4 xa3 (foundL a0 xa3 xa2)) xa2)) ∧ Lo w og_u2 ∧ Osl VI w' og_u3 u3 (onT (treesB a0 a1 xa2 xa3 xa4) (nxL a0 xa3 (clsF a0 xa4 xa3 (foundL a0 xa3 xa2)) (mbF (clsF a0 xa4 xa3 (foundL a0 xa3 xa2)) (foundL a0 xa3 xa2) (foundL a0 xa3 xa2).length) (mbF (clsF a0 xa4 xa3 (foundL a0 xa3 xa2)) (foundL a0 xa3 xa2) (foundL a0 xa3 xa2).length))) ∧ Lo w og_u3 ∧ Osl VB w' og_u4 u4 (onT (treesB a0 a1 xa2 xa3 xa4) (enL xa4 (mbF (clsF a0 xa4 xa3 (foundL a0 xa3 xa2)) (foundL a0 xa3 xa2) (foundL a0 xa3 xa2).length))) ∧ Lo w og_u4 ∧ Dj og_u2 og_u3 ∧ Dj og_u2 og_u4 ∧ Dj og_u3 og_u4)) := by
  have hB : Ext w w := Ext.refl w
  have hla2 := ha2.leI; have hla3 := ha3.leI; have hla4 := ha4.leI
  refine callsOf (vs := [_]) Try.func35 rfl Try.ntmps35 rfl rfl ?_
  refine CW.seq ?_
  refine CW.reg ?_
  refine WL.op rfl (OpK.box rfl rfl (by first | exact Rd.cells1 (by assumption) | exact Osl.cells1 (by assumption) | exact Osn.cells1 (by assumption) | exact Rd.cells1 (NL.rd (by assumption)) | exact Inn.cell1 (by assumption) (by omega) | assumption | rfl) (fun b1 w1 hXw1 hb1 hge1 => ?_))
  have hl1 := Lo.new hB hge1
  have hB := hB.trans hXw1
  refine WL.op rfl (OpK.alloc rfl T.zv36 rfl (fun b2 w2 hXw2 hb2 hge2 => ?_))
  have hl2 := Lo.new hB hge2
  have hd1_2 := Dj.new hb1.ltO hge2
  have hB := hB.trans hXw2
  have hb1 := hb1.up hXw2
  refine WL.asg rfl rfl ?_
  refine WL.nilS ?_
  refine CW.seq ?_
  refine CW.seq ?_
  refine CW.reg ?_
  refine WL.op rfl (OpK.callR rfl T.cf65 rfl (c_spec_l06Trees (by first | exact Bx.cells (by assumption) | exact Cells.up (by assumption) hB | assumption | exact Cells.add (Bx.cells (by assumption)) _ | exact Cells.add (Cells.up (by assumption) hB) _) (by first | assumption | exact Rd.up (by assumption) hB | exact Osl.rd (by assumption) | exact Osn.rdR (by assumption) | exact NL.rd (by assumption) | exact rdII (by assumption) (by assumption) | exact Inn.rd (by assumption) (by omega)) (by first | assumption | exact Rd.up (by assumption) hB | exact Osl.rd (by assumption) | exact Osn.rdR (by assumption) | exact NL.rd (by assumption) | exact rdII (by assumption) (by assumption) | exact Inn.rd (by assumption) (by omega)) (by first | assumption | exact Rd.up (by assumption) hB | exact Osl.rd (by assumption) | exact Osn.rdR (by assumption) | exact NL.rd (by assumption) | exact rdII (by assumption) (by assumption) | exact Inn.rd (by assumption) (by omega))) (fun w3 hXw3 => ?_))
  have hB := hB.trans hXw3
  have hb1 := hb1.up hXw3
  have hb2 := hb2.up hXw3
  refine WL.pure rfl rfl rfl (PV.not rfl) ?_
  refine WL.nilS ?_
  refine CW.cond rfl (fun hc1 => ?_) (fun hc1 => ?_)
  · skip
    try simp only [nq] at hc1
    refine CW.seq ?_
    refine CW.reg ?_
    refine WL.pure rfl rfl rfl (PV.build (ks := []) (os := []) (css := []) (ds := [_, _, _, _, _]) T.bu36 rfl rfl trivial rfl) ?_
    refine WL.op rfl (OpK.storeA T.sz36 rfl rfl rfl rfl (by simp [Value.oneCell'] <;> first | done | (repeat' apply And.intro) <;> first | rfl | exact Inn.one1 (by assumption) (by omega) | exact Osl.oneCell (by assumption) | exact Osn.oneCell (by assumption) | exact Rd.oneCell (by assumption) | exact Rd.oneCell (NL.rd (by assumption)) | assumption) hb2 (fun w4 hXw4 hb2 => ?_))
    have hB := hB.updL hXw4 hl2
    have hb1 := hb1.updD hXw4 hd1_2
    refine WL.asg rfl rfl ?_
    refine WL.nilS ?_
    refine CW.ret ?_
    refine RQ.then ?_
    refine RQ.rc1 T.ag36 rfl (by first | exact Cells.up (by assumption) hB | exact Bx.cells (by assumption) | assumption) rfl rfl ?_
    refine ⟨hB, (.slice none 0 0), none, (.slice none 0 0), none, (.slice none 0 0), none, ?_, osE (Osl.nil _ _) ?_, Lo.nl _, osE (Osl.nil _ _) ?_, Lo.nl _, osE (Osl.nil _ _) ?_, Lo.nl _, (Dj.nl _), (Dj.nl _), (Dj.nl _)⟩
    · skip
      first | (exact tE2 (by rw [onI_yes (treesB_yes (by assumption)), onI_yes (treesB_yes (by assumption))]) (bE (treesB_yes (by assumption)).symm)) | (exact tE2 (by rw [onI_no (treesB_no (by assumption)), onI_no (treesB_no (by assumption))]) (bE (Bool.eq_false_iff.2 (treesB_no (by assumption))).symm))
    · skip
      first | (rw [onT_no (treesB_no (by assumption))]; done) | (rw [onT_yes (treesB_yes (by assumption)), List.take_of_length_le (by omega)])
    · skip
      first | (rw [onT_no (treesB_no (by assumption))]; done) | (rw [onT_yes (treesB_yes (by assumption)), List.take_of_length_le (by omega)])
    · skip
      first | (rw [onT_no (treesB_no (by assumption))]; done) | (rw [onT_yes (treesB_yes (by assumption)), List.take_of_length_le (by omega)])
  try simp only [nq] at hc1
  have hv : (1 ≤ a0 ∧ a0 ≤ 16) ∧ (1 ≤ a1 ∧ a1 ≤ 4) ∧ (xa2.length : Int) = a1 ∧ (xa3.length : Int) = a0 * a0 ∧ (xa4.length : Int) = a0 ∧ allIn xa2 0 (a0 - 1) = true ∧ allIn xa3 0 (a0 - 1) = true := (by assumption); have hvb := treesB_yes hv; have tv : TV a0 a1 xa2 xa3 := ⟨hv.1, hv.2.1, hv.2.2.1, hv.2.2.2.1, hv.2.2.2.2.2.1, hv.2.2.2.2.2.2⟩; have tvs := tv.s; have tvl := tv.ll; have tvn := tv.nl; have hF0 := found_ok tv; have hFn := hF0.len; have hv5 := hv.2.2.2.2.1; have htl := trF_len2 (foundL a0 xa3 xa2); have hpos := found_pos tv; have hNm := nm_of (en := xa4) (nx := xa3) hF0 hpos; have hcls : (clsF a0 xa4 xa3 (foundL a0 xa3 xa2)).length = a0.toNat := (by rw [clsF_eq]; exact clF_len _); have hmbl := mbF_le (cl := (clsF a0 xa4 xa3 (foundL a0 xa3 xa2))) (l := foundL a0 xa3 xa2) (foundL a0 xa3 xa2).length; have hml := map1_len (foundL a0 xa3 xa2)
  refine CW.skipS ?_
  refine CW.seq ?_
  refine CW.reg ?_
  refine WL.op rfl (OpK.call rfl T.cf74 rfl (c_spec_l06Found (by first | exact Bx.cells (by assumption) | exact Cells.up (by assumption) hB | assumption | exact Cells.add (Bx.cells (by assumption)) _ | exact Cells.add (Cells.up (by assumption) hB) _) (by first | assumption | exact Rd.up (by assumption) hB | exact Osl.rd (by assumption) | exact Osn.rdR (by assumption) | exact NL.rd (by assumption) | exact rdII (by assumption) (by assumption) | exact Inn.rd (by assumption) (by omega)) (by first | assumption | exact Rd.up (by assumption) hB | exact Osl.rd (by assumption) | exact Osn.rdR (by assumption) | exact NL.rd (by assumption) | exact rdII (by assumption) (by assumption) | exact Inn.rd (by assumption) (by omega)) (by first | assumption | exact Rd.up (by assumption) hB | exact Osl.rd (by assumption) | exact Osn.rdR (by assumption) | exact NL.rd (by assumption) | exact rdII (by assumption) (by assumption) | exact Inn.rd (by assumption) (by omega)) (by first | assumption | omega | (simp only [marks_len, marksB_len, marksR_len]; omega))) (fun rv1 w5 hR => ?_))
  obtain ⟨hXw5, v3, og3, v4, og4, vs5, os5, rfl, ho3, hq3, ho4, hq4, hn5, hq5, hd4_5, hd3_4, hd3_5⟩ := hR
  have hl3 := Lo.up hq3 hB
  have hd1_3 := Dj.lo hb1.ltO hq3
  have hd2_3 := Dj.lo hb2.ltO hq3
  have hl4 := Lo.up hq4 hB
  have hd1_4 := Dj.lo hb1.ltO hq4
  have hd2_4 := Dj.lo hb2.ltO hq4
  have hl5 := LoI.up hq5 hB
  have hlv5 := hn5.lv
  have hd1_5 := DI.lo hb1.ltO hq5
  have hd2_5 := DI.lo hb2.ltO hq5
  have hB := hB.trans hXw5
  have hb1 := hb1.up hXw5
  have hb2 := hb2.up hXw5
  refine WL.mv rfl rfl ?_
  refine WL.pure rfl rfl rfl (PV.extract rfl rfl) ?_
  refine WL.pure rfl rfl rfl (PV.extract rfl rfl) ?_
  refine WL.asg rfl rfl ?_
  refine WL.asg rfl rfl ?_
  refine WL.nilS ?_
  refine CW.seq ?_
  refine CW.reg ?_
  refine WL.mv rfl rfl ?_
  refine WL.op rfl (OpK.call rfl T.cf77 rfl (c_spec_l06Apart (by first | exact Bx.cells (by assumption) | exact Cells.up (by assumption) hB | assumption | exact Cells.add (Bx.cells (by assumption)) _ | exact Cells.add (Cells.up (by assumption) hB) _) (by first | assumption | exact Rd.up (by assumption) hB | exact Osl.rd (by assumption) | exact Osn.rdR (by assumption) | exact NL.rd (by assumption) | exact rdII (by assumption) (by assumption) | exact Inn.rd (by assumption) (by omega)) (by first | assumption | exact Rd.up (by assumption) hB | exact Osl.rd (by assumption) | exact Osn.rdR (by assumption) | exact NL.rd (by assumption) | exact rdII (by assumption) (by assumption) | exact Inn.rd (by assumption) (by omega)) (by first | assumption | exact Rd.up (by assumption) hB | exact Osl.rd (by assumption) | exact Osn.rdR (by assumption) | exact NL.rd (by assumption) | exact rdII (by assumption) (by assumption) | exact Inn.rd (by assumption) (by omega)) (Osl.rd ho3) (by rfl) (by first | assumption | omega | (simp only [marks_len, marksB_len, marksR_len]; omega)) (by first | assumption | omega | (simp only [marks_len, marksB_len, marksR_len]; omega))) (fun rv2 w6 hR => ?_))
  obtain ⟨hXw6, v6, og6, rfl, ho6, hq6⟩ := hR
  have hl6 := Lo.up hq6 hB
  have hd1_6 := Dj.lo hb1.ltO hq6
  have hd2_6 := Dj.lo hb2.ltO hq6
  have hd3_6 := Dj.lo ho3.ltO hq6
  have hd4_6 := Dj.lo ho4.ltO hq6
  have hd5_6 := DI.fresh hn5 hq6
  have hB := hB.trans hXw6
  have hb1 := hb1.up hXw6
  have hb2 := hb2.up hXw6
  have ho3 := ho3.up hXw6
  have ho4 := ho4.up hXw6
  have hn5 := hn5.up hXw6
  refine WL.asg rfl rfl ?_
  refine WL.nilS ?_
  refine CW.seq ?_
  refine CW.reg ?_
  refine WL.op rfl (OpK.buildS VI (os := []) [] rfl T.sl22 rfl rfl T.zv2 rfl (by intro z hz; cases hz) rfl (fun v7 g7 w7 hXw7 ho7 hge7 => ?_))
  have hl7 := Lo.new hB hge7
  have hd1_7 := Dj.new hb1.ltO hge7
  have hd2_7 := Dj.new hb2.ltO hge7
  have hd3_7 := Dj.new ho3.ltO hge7
  have hd4_7 := Dj.new ho4.ltO hge7
  have hd5_7 := DI.new hn5 hge7
  have hd6_7 := Dj.new ho6.ltO hge7
  have hB := hB.trans hXw7
  have hb1 := hb1.up hXw7
  have hb2 := hb2.up hXw7
  have ho3 := ho3.up hXw7
  have ho4 := ho4.up hXw7
  have hn5 := hn5.up hXw7
  have ho6 := ho6.up hXw7
  refine WL.asg rfl rfl ?_
  refine WL.nilS ?_
  refine CW.seq ?_
  refine CW.reg ?_
  refine WL.op rfl (OpK.buildS VI (os := []) [] rfl T.sl22 rfl rfl T.zv2 rfl (by intro z hz; cases hz) rfl (fun v8 g8 w8 hXw8 ho8 hge8 => ?_))
  have hl8 := Lo.new hB hge8
  have hd1_8 := Dj.new hb1.ltO hge8
  have hd2_8 := Dj.new hb2.ltO hge8
  have hd3_8 := Dj.new ho3.ltO hge8
  have hd4_8 := Dj.new ho4.ltO hge8
  have hd5_8 := DI.new hn5 hge8
  have hd6_8 := Dj.new ho6.ltO hge8
  have hd7_8 := Dj.new ho7.ltO hge8
  have hB := hB.trans hXw8
  have hb1 := hb1.up hXw8
  have hb2 := hb2.up hXw8
  have ho3 := ho3.up hXw8
  have ho4 := ho4.up hXw8
  have hn5 := hn5.up hXw8
  have ho6 := ho6.up hXw8
  have ho7 := ho7.up hXw8
  refine WL.asg rfl rfl ?_
  refine WL.nilS ?_
  refine CW.seq ?_
  refine CW.seq ?_
  refine CW.reg ?_
  refine WL.asg rfl rfl ?_
  refine WL.nilS ?_
  refine CW.block ?_
  have hlt1 := hb1.ltO
  have hlt2 := hb2.ltO
  have hlt3 := ho3.ltO
  have hlt4 := ho4.ltO
  have hlt5 := hn5.ltO
  have hlt6 := ho6.ltO
  have hlt7 := ho7.ltO
  have hlt8 := ho8.ltO
  refine CW.loop (σk := [(1, _), (2, _), (4, _), (6, _)]) (fun ρ wz m => ∃ (v9 : Value) (og9 : Option Nat) (v10 : Value) (og10 : Option Nat) (k : Nat), ρ = [(7, v9), (8, v10), (9, .int .i64 (k : Nat))] ∧ m = (foundL a0 xa3 xa2).length - k ∧ UpdL [(some g7), (some g8)] w8 wz ∧ Osl VI wz og9 v9 (rgI (mbF (clsF a0 xa4 xa3 (foundL a0 xa3 xa2)) (foundL a0 xa3 xa2) k).length) ∧ OgR w8 (some g7) og9 ∧ Osl VI wz og10 v10 (mbF (clsF a0 xa4 xa3 (foundL a0 xa3 xa2)) (foundL a0 xa3 xa2) k) ∧ OgR w8 (some g8) og10 ∧ Dj og9 og10 ∧ (k ≤ (foundL a0 xa3 xa2).length)) (ρ₀ := [(7, _), (8, _), (9, _)]) (m₀ := _) ⟨rfl, rfl, rfl, rfl, rfl, rfl, rfl, trivial⟩ ⟨v7, (some g7), v8, (some g8), 0, rfl, rfl, (UpdL.refl _ _), osE ho7 (by rfl), OgR.refl _ _, osE ho8 (by rfl), OgR.refl _ _, hd7_8, (by first | omega | rfl | (simp; done) | assumption | (simp_all; done))⟩ ?_
  rintro _ wl1 _ ⟨v9, og9, v10, og10, k, rfl, rfl, hU0, ho9, ha9, ho10, ha10, hd9_10, hk⟩
  have hb1 := hb1.loop hU0 ⟨hd1_7, hd1_8, trivial⟩
  have hb2 := hb2.loop hU0 ⟨hd2_7, hd2_8, trivial⟩
  have ho3 := ho3.loop hU0 ⟨hd3_7, hd3_8, trivial⟩
  have ho4 := ho4.loop hU0 ⟨hd4_7, hd4_8, trivial⟩
  have hn5 := hn5.loop hU0 ⟨hd5_7, hd5_8, trivial⟩
  have ho6 := ho6.loop hU0 ⟨hd6_7, hd6_8, trivial⟩
  have hl9 := Lo.ogr hl7 hB ha9
  have hg0_9 := ha9
  have hk0_9 : OkB [(some g7), (some g8)] w8 og9 := OkB.ogr (OkB.mem (by simp)) (Nat.le_refl _) ha9
  have hd1_9 := Dj.ogr hd1_7 hlt1 ha9
  have hd2_9 := Dj.ogr hd2_7 hlt2 ha9
  have hd3_9 := Dj.ogr hd3_7 hlt3 ha9
  have hd4_9 := Dj.ogr hd4_7 hlt4 ha9
  have hd5_9 := DI.ogr hd5_7 hlt5 ha9
  have hd6_9 := Dj.ogr hd6_7 hlt6 ha9
  have hl10 := Lo.ogr hl8 hB ha10
  have hg0_10 := ha10
  have hk0_10 : OkB [(some g7), (some g8)] w8 og10 := OkB.ogr (OkB.mem (by simp)) (Nat.le_refl _) ha10
  have hd1_10 := Dj.ogr hd1_8 hlt1 ha10
  have hd2_10 := Dj.ogr hd2_8 hlt2 ha10
  have hd3_10 := Dj.ogr hd3_8 hlt3 ha10
  have hd4_10 := Dj.ogr hd4_8 hlt4 ha10
  have hd5_10 := DI.ogr hd5_8 hlt5 ha10
  have hd6_10 := Dj.ogr hd6_8 hlt6 ha10
  have hB := hB.loop hU0 ⟨hl7, hl8, trivial⟩
  refine CW.seq ?_
  refine CW.seq ?_
  refine CW.reg ?_
  refine WL.mv rfl rfl ?_
  refine WL.mv rfl rfl ?_
  refine WL.pure rfl rfl rfl ((PV.lenOs rfl ho3 T.sl22)) ?_
  refine WL.pure rfl rfl rfl (PV.lss rfl rfl) ?_
  refine WL.nilS ?_
  refine CW.cond rfl (fun hc2 => ?_) (fun hc2 => ?_)
  · skip
    try simp only [nq] at hc2
    refine CW.skipS ?_
    refine CW.seq ?_
    refine CW.block ?_
    refine CW.seq ?_
    refine CW.reg ?_
    have e1 := map1_get (foundL a0 xa3 xa2) k; have hst := hF0.st (i := k) (by omega); rw [← e1] at hst; have hmk := mbF_le (cl := (clsF a0 xa4 xa3 (foundL a0 xa3 xa2))) (l := foundL a0 xa3 xa2) k; have hrg := rgI_len (mbF (clsF a0 xa4 xa3 (foundL a0 xa3 xa2)) (foundL a0 xa3 xa2) k).length
    refine WL.mv rfl rfl ?_
    refine WL.mv rfl rfl ?_
    refine WL.mv rfl rfl ?_
    refine WL.mv rfl rfl ?_
    first
      | refine WL.atO (x := .tmp 40) (y := .tmp 41) (f := VI) (0) rfl rfl ho3 (by first | omega | (simp only [List.length_set]; omega) | (simp only [List.length_append, List.length_take, List.length_replicate, List.length_drop]; omega)) (fun p1 hpp1 hcp1 => ?_)
      | refine WL.atOZ (x := .tmp 40) (y := .tmp 41) (f := VI) (0) rfl rfl ho3 (by first | omega | (simp only [List.length_set]; omega) | (simp only [List.length_append, List.length_take, List.length_replicate, List.length_drop]; omega)) (fun p1 hpp1 hzp1 hcp1 => ?_)
    refine WL.pure rfl rfl rfl ((by first | exact PV.indexAddr hpp1 rfl rfl T.sl22 | exact PV.indexAddr hpp1 rfl (by rw [← hzp1]; rfl) T.sl22)) ?_
    refine WL.pure rfl rfl rfl ((by first | exact PV.load0 T.na2 rfl (by first | exact Cells.up (by assumption) hB | exact Bx.cells (by assumption) | assumption) (Ext.refl _) rfl | exact PV.load1 T.na2 rfl (by first | exact Cells.up (by assumption) hB | exact Bx.cells (by assumption) | assumption) (Ext.refl _) rfl)) ?_
    first
      | refine WL.atO (x := .tmp 39) (y := .tmp 43) (f := VI) (0) rfl rfl ho6 (by first | omega | (simp only [List.length_set]; omega) | (simp only [List.length_append, List.length_take, List.length_replicate, List.length_drop]; omega)) (fun p2 hpp2 hcp2 => ?_)
      | refine WL.atOZ (x := .tmp 39) (y := .tmp 43) (f := VI) (0) rfl rfl ho6 (by first | omega | (simp only [List.length_set]; omega) | (simp only [List.length_append, List.length_take, List.length_replicate, List.length_drop]; omega)) (fun p2 hpp2 hzp2 hcp2 => ?_)
    refine WL.pure rfl rfl rfl ((by first | exact PV.indexAddr hpp2 rfl rfl T.sl22 | exact PV.indexAddr hpp2 rfl (by rw [← hzp2]; rfl) T.sl22)) ?_
    refine WL.pure rfl rfl rfl ((by first | exact PV.load0 T.na2 rfl (by first | exact Cells.up (by assumption) hB | exact Bx.cells (by assumption) | assumption) (Ext.refl _) rfl | exact PV.load1 T.na2 rfl (by first | exact Cells.up (by assumption) hB | exact Bx.cells (by assumption) | assumption) (Ext.refl _) rfl)) ?_
    have hrdo9 := Osl.rd ho9
    refine WL.op rfl (OpK.call rfl T.cf78 rfl (c_spec_l02Index hB (by first | assumption | exact Dj.symm (by assumption)) (by first | assumption | exact Lo.nl _) (by first | assumption | omega | (simp only [marks_len, marksB_len, marksR_len]; omega))) (fun rv3 w9 hR => ?_))
    have hlt1 := hb1.ltO
    have hlt2 := hb2.ltO
    have hlt3 := ho3.ltO
    have hlt4 := ho4.ltO
    have hlt5 := hn5.ltO
    have hlt6 := ho6.ltO
    have hlt9 := ho9.ltO
    have hlt10 := ho10.ltO
    obtain ⟨hUC11, v12, og12, rfl, ho12, hr12, hrk9⟩ := hR
    have hl12 := Lo.ogr hl9 hB hr12
    have hd1_12 := Dj.ogr hd1_9 hlt1 hr12
    have hd2_12 := Dj.ogr hd2_9 hlt2 hr12
    have hd3_12 := Dj.ogr hd3_9 hlt3 hr12
    have hd4_12 := Dj.ogr hd4_9 hlt4 hr12
    have hd5_12 := DI.ogr hd5_9 hlt5 hr12
    have hd6_12 := Dj.ogr hd6_9 hlt6 hr12
    have hd10_12 := Dj.ogr (Dj.symm hd9_10) hlt10 hr12
    have hk0_12 := OkB.ogr hk0_9 hU0.size hr12
    have hg0_12 := OgR.trans hg0_9 hU0.size hr12
    have hU0 := hU0.trans hUC11 ⟨hk0_9, trivial⟩
    have hb1 := hb1.loop hUC11 ⟨hd1_9, trivial⟩
    have hb2 := hb2.loop hUC11 ⟨hd2_9, trivial⟩
    have ho3 := ho3.loop hUC11 ⟨hd3_9, trivial⟩
    have ho4 := ho4.loop hUC11 ⟨hd4_9, trivial⟩
    have hn5 := hn5.loop hUC11 ⟨hd5_9, trivial⟩
    have ho6 := ho6.loop hUC11 ⟨hd6_9, trivial⟩
    have ho10 := ho10.loop hUC11 ⟨(Dj.symm hd9_10), trivial⟩
    have hB := hB.loop hUC11 ⟨hl9, trivial⟩
    refine WL.mv rfl rfl ?_
    refine WL.pure rfl rfl rfl (PV.extract rfl rfl) ?_
    refine WL.pure rfl rfl rfl (PV.extract rfl rfl) ?_
    refine WL.asg rfl rfl ?_
    refine WL.asg rfl rfl ?_
    refine WL.nilS ?_
    refine CW.seq ?_
    refine CW.seq ?_
    refine CW.reg ?_
    refine WL.mv rfl rfl ?_
    refine WL.pure rfl rfl rfl ((PV.lenOs rfl ho12 T.sl22)) ?_
    refine WL.mv rfl rfl ?_
    refine WL.pure rfl rfl rfl ((PV.len rfl hrdo9 T.sl22)) ?_
    refine WL.pure rfl rfl rfl (PV.gtr rfl rfl) ?_
    refine WL.nilS ?_
    refine CW.cond rfl (fun hc3 => ?_) (fun hc3 => ?_)
    · skip
      try simp only [nq] at hc3
      have hgt := (hNm.new (k := k) (by omega)).1 (by rw [← e1]; exact putI_gt.1 (by omega))
      refine CW.reg ?_
      refine WL.mv rfl rfl ?_
      refine WL.mv rfl rfl ?_
      refine WL.mv rfl rfl ?_
      first
        | refine WL.atO (x := .tmp 55) (y := .tmp 56) (f := VI) (0) rfl rfl ho3 (by first | omega | (simp only [List.length_set]; omega) | (simp only [List.length_append, List.length_take, List.length_replicate, List.length_drop]; omega)) (fun p3 hpp3 hcp3 => ?_)
        | refine WL.atOZ (x := .tmp 55) (y := .tmp 56) (f := VI) (0) rfl rfl ho3 (by first | omega | (simp only [List.length_set]; omega) | (simp only [List.length_append, List.length_take, List.length_replicate, List.length_drop]; omega)) (fun p3 hpp3 hzp3 hcp3 => ?_)
      refine WL.pure rfl rfl rfl ((by first | exact PV.indexAddr hpp3 rfl rfl T.sl22 | exact PV.indexAddr hpp3 rfl (by rw [← hzp3]; rfl) T.sl22)) ?_
      refine WL.pure rfl rfl rfl ((by first | exact PV.load0 T.na2 rfl (by first | exact Cells.up (by assumption) hB | exact Bx.cells (by assumption) | assumption) (Ext.refl _) rfl | exact PV.load1 T.na2 rfl (by first | exact Cells.up (by assumption) hB | exact Bx.cells (by assumption) | assumption) (Ext.refl _) rfl)) ?_
      refine WL.op rfl (OpK.buildS VI (os := [.tmp 58]) [_] rfl T.sl22 rfl rfl T.zv2 rfl (by intro z hz; first | rfl | (simp only [List.mem_cons, List.not_mem_nil, or_false] at hz; subst hz; exact (by first | exact Rd.cells1 (by assumption) | exact Osl.cells1 (by assumption) | exact Osn.cells1 (by assumption) | exact Rd.cells1 (NL.rd (by assumption)) | exact Inn.cell1 (by assumption) (by omega) | assumption | rfl))) rfl (fun v13 g13 w10 hXw10 ho13 hge13 => ?_))
      have hl13 := Lo.new hB hge13
      have hd1_13 := Dj.new hb1.ltO hge13
      have hd2_13 := Dj.new hb2.ltO hge13
      have hd3_13 := Dj.new ho3.ltO hge13
      have hd4_13 := Dj.new ho4.ltO hge13
      have hd5_13 := DI.new hn5 hge13
      have hd6_13 := Dj.new ho6.ltO hge13
      have hd10_13 := Dj.new ho10.ltO hge13
      have hd12_13 := Dj.new ho12.ltO hge13
      have hk0_13 := OkN.new hU0 hge13
      have hg0_13 := OgR.new hU0.size hge13
      have hB := hB.trans hXw10
      have hb1 := hb1.up hXw10
      have hb2 := hb2.up hXw10
      have ho3 := ho3.up hXw10
      have ho4 := ho4.up hXw10
      have hn5 := hn5.up hXw10
      have ho6 := ho6.up hXw10
      have ho10 := ho10.up hXw10
      have ho12 := ho12.up hXw10
      have hU0 := hU0.ext hXw10
      refine WL.op rfl (OpK.appendS (f := VI) rfl T.sl22 T.zv2 rfl rfl ho10 rfl (Osl.src ho13 (fun _ => rfl)) (by first | (simp only [List.length_cons, List.length_nil]; omega) | (simp only [List.length_append, List.length_cons, List.length_nil]; omega)) (fun v14 og14 w11 hXw11 ho14 hap14 => ?_))
      have hl14 := Lo.app hl10 hB hap14
      have hd1_14 := Dj.app hd1_10 hb1.ltO hap14
      have hd2_14 := Dj.app hd2_10 hb2.ltO hap14
      have hd3_14 := Dj.app hd3_10 ho3.ltO hap14
      have hd4_14 := Dj.app hd4_10 ho4.ltO hap14
      have hd5_14 := DI.app hd5_10 hn5 hap14
      have hd6_14 := Dj.app hd6_10 ho6.ltO hap14
      have hd12_14 := Dj.app (Dj.symm hd10_12) ho12.ltO hap14
      have hd13_14 := Dj.app (Dj.symm hd10_13) ho13.ltO hap14
      have hk0_14 := OkN.app hU0 hk0_10 hap14
      have hg0_14 := OgR.app hg0_10 hU0.size hap14
      have hB := hB.updL hXw11 hl10
      have hb1 := hb1.updD hXw11 hd1_10
      have hb2 := hb2.updD hXw11 hd2_10
      have ho3 := ho3.updD hXw11 hd3_10
      have ho4 := ho4.updD hXw11 hd4_10
      have hn5 := hn5.updD hXw11 hd5_10
      have ho6 := ho6.updD hXw11 hd6_10
      have ho12 := ho12.updD hXw11 (Dj.symm hd10_12)
      have ho13 := ho13.updD hXw11 (Dj.symm hd10_13)
      have hU0 := hU0.step hXw11 hk0_10
      refine WL.asg rfl rfl ?_
      refine WL.nilS ?_
      refine CW.reg ?_
      refine WL.mv rfl rfl ?_
      refine WL.asg rfl rfl ?_
      refine WL.nil ?_
      refine NQ.block ?_
      refine NQ.then ?_
      refine CW.reg ?_
      refine WL.mv rfl rfl ?_
      refine WL.pure rfl rfl rfl (PV.add rfl rfl (by constructor <;> omega)) ?_
      refine WL.asg rfl rfl ?_
      refine WL.nil ?_
      refine NQ.next (ρ := [(7, _), (8, _), (9, _)]) ⟨rfl, rfl, rfl, rfl, rfl, rfl, rfl, trivial⟩ ?_
      exact ⟨_, ⟨v12, og12, v14, og14, k + 1, rfl, rfl, hU0, osE ho12 (by rw [e1]; exact hNm.put (by omega)), (by first | exact hg0_12 | exact OgR.weak hg0_12), osE ho14 (by first | (rw [e1]; exact (mbF_yes hgt).symm) | exact (mbF_no hle).symm), (by first | exact hg0_14 | exact OgR.weak hg0_14), hd12_14, (by first | omega | assumption | (simp_all; done) | (simp_all; omega))⟩, by omega⟩
    try simp only [nq] at hc3
    have hle : ¬ (clsF a0 xa4 xa3 (foundL a0 xa3 xa2)).getD (rS (foundL a0 xa3 xa2) k).toNat 0 = ((mbF (clsF a0 xa4 xa3 (foundL a0 xa3 xa2)) (foundL a0 xa3 xa2) k).length : Int) := fun h9 => absurd (putI_gt.2 ((hNm.new (k := k) (by omega)).2 h9)) (by rw [← e1]; omega)
    refine CW.skipS ?_
    refine CW.reg ?_
    refine WL.mv rfl rfl ?_
    refine WL.asg rfl rfl ?_
    refine WL.nil ?_
    refine NQ.block ?_
    refine NQ.then ?_
    refine CW.reg ?_
    refine WL.mv rfl rfl ?_
    refine WL.pure rfl rfl rfl (PV.add rfl rfl (by constructor <;> omega)) ?_
    refine WL.asg rfl rfl ?_
    refine WL.nil ?_
    refine NQ.next (ρ := [(7, _), (8, _), (9, _)]) ⟨rfl, rfl, rfl, rfl, rfl, rfl, rfl, trivial⟩ ?_
    exact ⟨_, ⟨v12, og12, v10, og10, k + 1, rfl, rfl, hU0, osE ho12 (by rw [e1]; exact hNm.put (by omega)), (by first | exact hg0_12 | exact OgR.weak hg0_12), osE ho10 (by first | (rw [e1]; exact (mbF_yes hgt).symm) | exact (mbF_no hle).symm), (by first | exact hg0_10 | exact OgR.weak hg0_10), (Dj.symm hd10_12), (by first | omega | assumption | (simp_all; done) | (simp_all; omega))⟩, by omega⟩
  try simp only [nq] at hc2
  refine CW.exit ?_
  refine XQ.then ?_
  refine XQ.then ?_
  refine XQ.here ?_
  refine NQ.then ?_
  refine CW.seq ?_
  refine CW.reg ?_
  (obtain rfl : k = (foundL a0 xa3 xa2).length := (by omega)); have hrg := rgI_len (mbF (clsF a0 xa4 xa3 (foundL a0 xa3 xa2)) (foundL a0 xa3 xa2) (foundL a0 xa3 xa2).length).length
  refine WL.mv rfl rfl ?_
  refine WL.pure rfl rfl rfl ((PV.lenOs rfl ho9 T.sl22)) ?_
  refine WL.pure rfl rfl rfl (PV.fieldAddr T.fl36_1 rfl hb1.cells) ?_
  refine WL.pure rfl rfl rfl (PV.load1 T.na2 rfl hb1.cells (Ext.refl _) rfl) ?_
  refine WL.pure rfl rfl rfl (PV.build (ks := [0, 1]) (os := [.tmp 63, .tmp 65]) (css := [[_], [_]]) (ds := [_, _, _, _, _]) T.bu36 rfl rfl ⟨rfl, rfl, trivial⟩ rfl) ?_
  refine WL.op rfl (OpK.alloc rfl T.zv36 rfl (fun b15 w12 hXw12 hb15 hge15 => ?_))
  have hl15 := Lo.new hB hge15
  have hd1_15 := Dj.new hb1.ltO hge15
  have hd2_15 := Dj.new hb2.ltO hge15
  have hd3_15 := Dj.new ho3.ltO hge15
  have hd4_15 := Dj.new ho4.ltO hge15
  have hd5_15 := DI.new hn5 hge15
  have hd6_15 := Dj.new ho6.ltO hge15
  have hd9_15 := Dj.new ho9.ltO hge15
  have hd10_15 := Dj.new ho10.ltO hge15
  have hB := hB.trans hXw12
  have hb1 := hb1.up hXw12
  have hb2 := hb2.up hXw12
  have ho3 := ho3.up hXw12
  have ho4 := ho4.up hXw12
  have hn5 := hn5.up hXw12
  have ho6 := ho6.up hXw12
  have ho9 := ho9.up hXw12
  have ho10 := ho10.up hXw12
  refine WL.op rfl (OpK.storeA T.sz36 rfl rfl rfl rfl (by simp [Value.oneCell'] <;> first | done | (repeat' apply And.intro) <;> first | rfl | exact Inn.one1 (by assumption) (by omega) | exact Osl.oneCell (by assumption) | exact Osn.oneCell (by assumption) | exact Rd.oneCell (by assumption) | exact Rd.oneCell (NL.rd (by assumption)) | assumption) hb15 (fun w13 hXw13 hb15 => ?_))
  have hB := hB.updL hXw13 hl15
  have hb1 := hb1.updD hXw13 hd1_15
  have hb2 := hb2.updD hXw13 hd2_15
  have ho3 := ho3.updD hXw13 hd3_15
  have ho4 := ho4.updD hXw13 hd4_15
  have hn5 := hn5.updD hXw13 hd5_15
  have ho6 := ho6.updD hXw13 hd6_15
  have ho9 := ho9.updD hXw13 hd9_15
  have ho10 := ho10.updD hXw13 hd10_15
  refine WL.nilS ?_
  refine CW.seq ?_
  refine CW.seq ?_
  refine CW.reg ?_
  refine WL.asg rfl rfl ?_
  refine WL.nilS ?_
  refine CW.block ?_
  have ho16 : Osl VI w13 none (.slice none 0 0) [] := (Osl.nil _ _)
  have hl16 : Lo w none := Lo.nl _
  have hd1_16 : Dj (some b1.block) none := Dj.nlR _
  have hd2_16 : Dj (some b2.block) none := Dj.nlR _
  have hd3_16 : Dj og3 none := Dj.nlR _
  have hd4_16 : Dj og4 none := Dj.nlR _
  have hd5_16 : DI os5 none := DI.nl _
  have hd6_16 : Dj og6 none := Dj.nlR _
  have hd9_16 : Dj og9 none := Dj.nlR _
  have hd10_16 : Dj og10 none := Dj.nlR _
  have hd15_16 : Dj (some b15.block) none := Dj.nlR _
  have ho17 : Osl VI w13 none (.slice none 0 0) [] := (Osl.nil _ _)
  have hl17 : Lo w none := Lo.nl _
  have hd1_17 : Dj (some b1.block) none := Dj.nlR _
  have hd2_17 : Dj (some b2.block) none := Dj.nlR _
  have hd3_17 : Dj og3 none := Dj.nlR _
  have hd4_17 : Dj og4 none := Dj.nlR _
  have hd5_17 : DI os5 none := DI.nl _
  have hd6_17 : Dj og6 none := Dj.nlR _
  have hd9_17 : Dj og9 none := Dj.nlR _
  have hd10_17 : Dj og10 none := Dj.nlR _
  have hd15_17 : Dj (some b15.block) none := Dj.nlR _
  have hd16_17 : Dj none none := Dj.nlR _
  have ho18 : Osl VB w13 none (.slice none 0 0) [] := (Osl.nil _ _)
  have hl18 : Lo w none := Lo.nl _
  have hd1_18 : Dj (some b1.block) none := Dj.nlR _
  have hd2_18 : Dj (some b2.block) none := Dj.nlR _
  have hd3_18 : Dj og3 none := Dj.nlR _
  have hd4_18 : Dj og4 none := Dj.nlR _
  have hd5_18 : DI os5 none := DI.nl _
  have hd6_18 : Dj og6 none := Dj.nlR _
  have hd9_18 : Dj og9 none := Dj.nlR _
  have hd10_18 : Dj og10 none := Dj.nlR _
  have hd15_18 : Dj (some b15.block) none := Dj.nlR _
  have hd16_18 : Dj none none := Dj.nlR _
  have hd17_18 : Dj none none := Dj.nlR _
  have hlt1 := hb1.ltO
  have hlt2 := hb2.ltO
  have hlt3 := ho3.ltO
  have hlt4 := ho4.ltO
  have hlt5 := hn5.ltO
  have hlt6 := ho6.ltO
  have hlt9 := ho9.ltO
  have hlt10 := ho10.ltO
  have hlt15 := hb15.ltO
  have hlt16 := ho16.ltO
  have hlt17 := ho17.ltO
  have hlt18 := ho18.ltO
  refine CW.loop (σk := [(1, _), (2, _), (6, _), (7, _), (8, _), (12, _)]) (fun ρ wz m => ∃ (v19 : Value) (og19 : Option Nat) (v20 : Value) (og20 : Option Nat) (v21 : Value) (og21 : Option Nat) (j : Nat), ρ = [(13, .int .i64 (j : Nat))] ∧ m = xa2.length - j ∧ UpdL [none, none, none, (some b15.block)] w13 wz ∧ Osl VI wz og19 v19 (mpL (clsF a0 xa4 xa3 (foundL a0 xa3 xa2)) (xa2.take j)) ∧ OgR w13 none og19 ∧ Osl VI wz og20 v20 (([] : List Int)) ∧ OgR w13 none og20 ∧ Osl VB wz og21 v21 (([] : List Bool)) ∧ OgR w13 none og21 ∧ Bx wz b15 [.int .i64 ((mbF (clsF a0 xa4 xa3 (foundL a0 xa3 xa2)) (foundL a0 xa3 xa2) (foundL a0 xa3 xa2).length).length : Nat), .int .i64 a1, v19, v20, v21] ∧ Dj og19 og20 ∧ Dj og19 og21 ∧ Dj og20 og21 ∧ (j ≤ xa2.length)) (ρ₀ := [(13, _)]) (m₀ := _) ⟨rfl, rfl, rfl, rfl, rfl, rfl, rfl, trivial⟩ ⟨(.slice none 0 0), none, (.slice none 0 0), none, (.slice none 0 0), none, 0, rfl, rfl, (UpdL.refl _ _), osE ho16 (by rfl), OgR.refl _ _, osE ho17 (by rfl), OgR.refl _ _, osE ho18 (by rfl), OgR.refl _ _, bxE hb15 (by first | rfl | rw [rgI_len]), hd16_17, hd16_18, hd17_18, (by first | omega | rfl | (simp; done) | assumption | (simp_all; done))⟩ ?_
  rintro _ wl2 _ ⟨v19, og19, v20, og20, v21, og21, j, rfl, rfl, hU1, ho19, ha19, ho20, ha20, ho21, ha21, hb15, hd19_20, hd19_21, hd20_21, hj⟩
  have hb1 := hb1.loop hU1 ⟨hd1_16, hd1_17, hd1_18, hd1_15, trivial⟩
  have hb2 := hb2.loop hU1 ⟨hd2_16, hd2_17, hd2_18, hd2_15, trivial⟩
  have ho3 := ho3.loop hU1 ⟨hd3_16, hd3_17, hd3_18, hd3_15, trivial⟩
  have ho4 := ho4.loop hU1 ⟨hd4_16, hd4_17, hd4_18, hd4_15, trivial⟩
  have hn5 := hn5.loop hU1 ⟨hd5_16, hd5_17, hd5_18, hd5_15, trivial⟩
  have ho6 := ho6.loop hU1 ⟨hd6_16, hd6_17, hd6_18, hd6_15, trivial⟩
  have ho9 := ho9.loop hU1 ⟨hd9_16, hd9_17, hd9_18, hd9_15, trivial⟩
  have ho10 := ho10.loop hU1 ⟨hd10_16, hd10_17, hd10_18, hd10_15, trivial⟩
  have hl19 := Lo.ogr hl16 hB ha19
  have hg1_19 := ha19
  have hk1_19 : OkB [none, none, none, (some b15.block)] w13 og19 := OkB.ogr (OkB.mem (by simp)) (Nat.le_refl _) ha19
  have hd1_19 := Dj.ogr hd1_16 hlt1 ha19
  have hd2_19 := Dj.ogr hd2_16 hlt2 ha19
  have hd3_19 := Dj.ogr hd3_16 hlt3 ha19
  have hd4_19 := Dj.ogr hd4_16 hlt4 ha19
  have hd5_19 := DI.ogr hd5_16 hlt5 ha19
  have hd6_19 := Dj.ogr hd6_16 hlt6 ha19
  have hd9_19 := Dj.ogr hd9_16 hlt9 ha19
  have hd10_19 := Dj.ogr hd10_16 hlt10 ha19
  have hd15_19 := Dj.ogr hd15_16 hlt15 ha19
  have hl20 := Lo.ogr hl17 hB ha20
  have hg1_20 := ha20
  have hk1_20 : OkB [none, none, none, (some b15.block)] w13 og20 := OkB.ogr (OkB.mem (by simp)) (Nat.le_refl _) ha20
  have hd1_20 := Dj.ogr hd1_17 hlt1 ha20
  have hd2_20 := Dj.ogr hd2_17 hlt2 ha20
  have hd3_20 := Dj.ogr hd3_17 hlt3 ha20
  have hd4_20 := Dj.ogr hd4_17 hlt4 ha20
  have hd5_20 := DI.ogr hd5_17 hlt5 ha20
  have hd6_20 := Dj.ogr hd6_17 hlt6 ha20
  have hd9_20 := Dj.ogr hd9_17 hlt9 ha20
  have hd10_20 := Dj.ogr hd10_17 hlt10 ha20
  have hd15_20 := Dj.ogr hd15_17 hlt15 ha20
  have hl21 := Lo.ogr hl18 hB ha21
  have hg1_21 := ha21
  have hk1_21 : OkB [none, none, none, (some b15.block)] w13 og21 := OkB.ogr (OkB.mem (by simp)) (Nat.le_refl _) ha21
  have hd1_21 := Dj.ogr hd1_18 hlt1 ha21
  have hd2_21 := Dj.ogr hd2_18 hlt2 ha21
  have hd3_21 := Dj.ogr hd3_18 hlt3 ha21
  have hd4_21 := Dj.ogr hd4_18 hlt4 ha21
  have hd5_21 := DI.ogr hd5_18 hlt5 ha21
  have hd6_21 := Dj.ogr hd6_18 hlt6 ha21
  have hd9_21 := Dj.ogr hd9_18 hlt9 ha21
  have hd10_21 := Dj.ogr hd10_18 hlt10 ha21
  have hd15_21 := Dj.ogr hd15_18 hlt15 ha21
  have hk1_15 : OkB [none, none, none, (some b15.block)] w13 (some b15.block) := OkB.mem (by simp)
  have hB := hB.loop hU1 ⟨hl16, hl17, hl18, hl15, trivial⟩
  refine CW.seq ?_
  refine CW.seq ?_
  refine CW.reg ?_
  refine WL.mv rfl rfl ?_
  refine WL.pure rfl rfl rfl (PV.fieldAddr T.fl36_1 rfl hb1.cells) ?_
  refine WL.pure rfl rfl rfl (PV.load1 T.na2 rfl hb1.cells (Ext.refl _) rfl) ?_
  refine WL.pure rfl rfl rfl (PV.lss rfl rfl) ?_
  refine WL.nilS ?_
  refine CW.cond rfl (fun hc4 => ?_) (fun hc4 => ?_)
  · skip
    try simp only [nq] at hc4
    refine CW.skipS ?_
    refine CW.seq ?_
    refine CW.block ?_
    refine CW.seq ?_
    refine CW.reg ?_
    have hlf := allIn_get tv.li (k := j) (by omega); have hme := hNm.mem (found_leaf tv (k := j) (by omega)); have hin : (clsF a0 xa4 xa3 (foundL a0 xa3 xa2)).getD (xa2.getD j 0).toNat 0 ∈ rgI (mbF (clsF a0 xa4 xa3 (foundL a0 xa3 xa2)) (foundL a0 xa3 xa2) (foundL a0 xa3 xa2).length).length := rgI_mem.2 hme; have hixx := ixI_rg hme; have hmp := mpL_len (cl := (clsF a0 xa4 xa3 (foundL a0 xa3 xa2))) (xa2.take j); have htk := List.length_take (i := j) (l := xa2)
    refine WL.mv rfl rfl ?_
    refine WL.mv rfl rfl ?_
    refine WL.pure rfl rfl rfl (PV.fieldAddr T.fl36_2 rfl hb1.cells) ?_
    refine WL.pure rfl rfl rfl (PV.load1 T.na22 rfl hb1.cells (Ext.refl _) rfl) ?_
    refine WL.mv rfl rfl ?_
    first
      | refine WL.at (x := .tmp 77) (y := .tmp 78) (E := EI) (0) rfl rfl (by first | assumption | exact Inn.rd (by assumption) (by omega)) (by omega) (fun p4 csp4 hpp4 hcp4 hq => ?_)
      | refine WL.atZ (x := .tmp 77) (y := .tmp 78) (E := EI) (0) rfl rfl (by first | assumption | exact Inn.rd (by assumption) (by omega)) (by omega) (fun p4 csp4 hpp4 hzp4 hcp4 hq => ?_)
    cases hq
    refine WL.pure rfl rfl rfl ((by first | exact PV.indexAddr hpp4 rfl rfl T.sl22 | exact PV.indexAddr hpp4 rfl (by rw [← hzp4]; rfl) T.sl22)) ?_
    refine WL.pure rfl rfl rfl ((by first | exact PV.load0 T.na2 rfl (by first | exact Cells.up (by assumption) hB | exact Bx.cells (by assumption) | assumption) (Ext.refl _) rfl | exact PV.load1 T.na2 rfl (by first | exact Cells.up (by assumption) hB | exact Bx.cells (by assumption) | assumption) (Ext.refl _) rfl)) ?_
    first
      | refine WL.atO (x := .tmp 75) (y := .tmp 80) (f := VI) (0) rfl rfl ho6 (by first | omega | (simp only [List.length_set]; omega) | (simp only [List.length_append, List.length_take, List.length_replicate, List.length_drop]; omega)) (fun p5 hpp5 hcp5 => ?_)
      | refine WL.atOZ (x := .tmp 75) (y := .tmp 80) (f := VI) (0) rfl rfl ho6 (by first | omega | (simp only [List.length_set]; omega) | (simp only [List.length_append, List.length_take, List.length_replicate, List.length_drop]; omega)) (fun p5 hpp5 hzp5 hcp5 => ?_)
    refine WL.pure rfl rfl rfl ((by first | exact PV.indexAddr hpp5 rfl rfl T.sl22 | exact PV.indexAddr hpp5 rfl (by rw [← hzp5]; rfl) T.sl22)) ?_
    refine WL.pure rfl rfl rfl ((by first | exact PV.load0 T.na2 rfl (by first | exact Cells.up (by assumption) hB | exact Bx.cells (by assumption) | assumption) (Ext.refl _) rfl | exact PV.load1 T.na2 rfl (by first | exact Cells.up (by assumption) hB | exact Bx.cells (by assumption) | assumption) (Ext.refl _) rfl)) ?_
    refine WL.op rfl (OpK.callR rfl T.cf78 rfl (c_spec_l02Index_in (Osl.rd ho9) (by assumption)) (fun w14 hXw14 => ?_))
    have hB := hB.trans hXw14
    have hb1 := hb1.up hXw14
    have hb2 := hb2.up hXw14
    have ho3 := ho3.up hXw14
    have ho4 := ho4.up hXw14
    have hn5 := hn5.up hXw14
    have ho6 := ho6.up hXw14
    have ho9 := ho9.up hXw14
    have ho10 := ho10.up hXw14
    have hb15 := hb15.up hXw14
    have ho19 := ho19.up hXw14
    have ho20 := ho20.up hXw14
    have ho21 := ho21.up hXw14
    have hU1 := hU1.ext hXw14
    refine WL.mv rfl rfl ?_
    refine WL.pure rfl rfl rfl (PV.extract rfl rfl) ?_
    refine WL.pure rfl rfl rfl (PV.extract rfl rfl) ?_
    refine WL.asg rfl rfl ?_
    refine WL.asg rfl rfl ?_
    refine WL.nilS ?_
    refine CW.reg ?_
    refine WL.pure rfl rfl rfl (PV.fieldAddr T.fl36_2 rfl hb15.cells) ?_
    refine WL.pure rfl rfl rfl (PV.load1 T.na22 rfl hb15.cells (Ext.refl _) rfl) ?_
    refine WL.mv rfl rfl ?_
    refine WL.op rfl (OpK.buildS VI (os := [.tmp 88]) [_] rfl T.sl22 rfl rfl T.zv2 rfl (by intro z hz; first | rfl | (simp only [List.mem_cons, List.not_mem_nil, or_false] at hz; subst hz; exact (by first | exact Rd.cells1 (by assumption) | exact Osl.cells1 (by assumption) | exact Osn.cells1 (by assumption) | exact Rd.cells1 (NL.rd (by assumption)) | exact Inn.cell1 (by assumption) (by omega) | assumption | rfl))) rfl (fun v23 g23 w15 hXw15 ho23 hge23 => ?_))
    have hl23 := Lo.new hB hge23
    have hd1_23 := Dj.new hb1.ltO hge23
    have hd2_23 := Dj.new hb2.ltO hge23
    have hd3_23 := Dj.new ho3.ltO hge23
    have hd4_23 := Dj.new ho4.ltO hge23
    have hd5_23 := DI.new hn5 hge23
    have hd6_23 := Dj.new ho6.ltO hge23
    have hd9_23 := Dj.new ho9.ltO hge23
    have hd10_23 := Dj.new ho10.ltO hge23
    have hd15_23 := Dj.new hb15.ltO hge23
    have hd19_23 := Dj.new ho19.ltO hge23
    have hd20_23 := Dj.new ho20.ltO hge23
    have hd21_23 := Dj.new ho21.ltO hge23
    have hk1_23 := OkN.new hU1 hge23
    have hg1_23 := OgR.new hU1.size hge23
    have hB := hB.trans hXw15
    have hb1 := hb1.up hXw15
    have hb2 := hb2.up hXw15
    have ho3 := ho3.up hXw15
    have ho4 := ho4.up hXw15
    have hn5 := hn5.up hXw15
    have ho6 := ho6.up hXw15
    have ho9 := ho9.up hXw15
    have ho10 := ho10.up hXw15
    have hb15 := hb15.up hXw15
    have ho19 := ho19.up hXw15
    have ho20 := ho20.up hXw15
    have ho21 := ho21.up hXw15
    have hU1 := hU1.ext hXw15
    refine WL.op rfl (OpK.appendS (f := VI) rfl T.sl22 T.zv2 rfl rfl ho19 rfl (Osl.src ho23 (fun _ => rfl)) (by first | (simp only [List.length_cons, List.length_nil]; omega) | (simp only [List.length_append, List.length_cons, List.length_nil]; omega)) (fun v24 og24 w16 hXw16 ho24 hap24 => ?_))
    have hl24 := Lo.app hl19 hB hap24
    have hd1_24 := Dj.app hd1_19 hb1.ltO hap24
    have hd2_24 := Dj.app hd2_19 hb2.ltO hap24
    have hd3_24 := Dj.app hd3_19 ho3.ltO hap24
    have hd4_24 := Dj.app hd4_19 ho4.ltO hap24
    have hd5_24 := DI.app hd5_19 hn5 hap24
    have hd6_24 := Dj.app hd6_19 ho6.ltO hap24
    have hd9_24 := Dj.app hd9_19 ho9.ltO hap24
    have hd10_24 := Dj.app hd10_19 ho10.ltO hap24
    have hd15_24 := Dj.app hd15_19 hb15.ltO hap24
    have hd20_24 := Dj.app (Dj.symm hd19_20) ho20.ltO hap24
    have hd21_24 := Dj.app (Dj.symm hd19_21) ho21.ltO hap24
    have hd23_24 := Dj.app (Dj.symm hd19_23) ho23.ltO hap24
    have hk1_24 := OkN.app hU1 hk1_19 hap24
    have hg1_24 := OgR.app hg1_19 hU1.size hap24
    have hB := hB.updL hXw16 hl19
    have hb1 := hb1.updD hXw16 hd1_19
    have hb2 := hb2.updD hXw16 hd2_19
    have ho3 := ho3.updD hXw16 hd3_19
    have ho4 := ho4.updD hXw16 hd4_19
    have hn5 := hn5.updD hXw16 hd5_19
    have ho6 := ho6.updD hXw16 hd6_19
    have ho9 := ho9.updD hXw16 hd9_19
    have ho10 := ho10.updD hXw16 hd10_19
    have hb15 := hb15.updD hXw16 hd15_19
    have ho20 := ho20.updD hXw16 (Dj.symm hd19_20)
    have ho21 := ho21.updD hXw16 (Dj.symm hd19_21)
    have ho23 := ho23.updD hXw16 (Dj.symm hd19_23)
    have hU1 := hU1.step hXw16 hk1_19
    refine WL.pure rfl rfl rfl (PV.fieldAddr T.fl36_2 rfl hb15.cells) ?_
    refine WL.op rfl (OpK.storeB T.sz22 rfl rfl (by first | rfl | exact Inn.one1 (by assumption) (by omega) | exact Osl.oneCell (by assumption) | exact Osn.oneCell (by assumption) | exact Rd.oneCell (by assumption) | exact Rd.oneCell (NL.rd (by assumption)) | assumption) hb15 rfl (fun w17 hXw17 hb15 => ?_))
    have hB := hB.updL hXw17 hl15
    have hb1 := hb1.updD hXw17 hd1_15
    have hb2 := hb2.updD hXw17 hd2_15
    have ho3 := ho3.updD hXw17 hd3_15
    have ho4 := ho4.updD hXw17 hd4_15
    have hn5 := hn5.updD hXw17 hd5_15
    have ho6 := ho6.updD hXw17 hd6_15
    have ho9 := ho9.updD hXw17 hd9_15
    have ho10 := ho10.updD hXw17 hd10_15
    have ho20 := ho20.updD hXw17 (Dj.symm hd15_20)
    have ho21 := ho21.updD hXw17 (Dj.symm hd15_21)
    have ho23 := ho23.updD hXw17 (Dj.symm hd15_23)
    have ho24 := ho24.updD hXw17 (Dj.symm hd15_24)
    have hU1 := hU1.step hXw17 hk1_15
    refine WL.nil ?_
    refine NQ.block ?_
    refine NQ.then ?_
    refine CW.reg ?_
    refine WL.mv rfl rfl ?_
    refine WL.pure rfl rfl rfl (PV.add rfl rfl (by constructor <;> omega)) ?_
    refine WL.asg rfl rfl ?_
    refine WL.nil ?_
    refine NQ.next (ρ := [(13, _)]) ⟨rfl, rfl, rfl, rfl, rfl, rfl, rfl, trivial⟩ ?_
    exact ⟨_, ⟨v24, og24, v20, og20, v21, og21, j + 1, rfl, rfl, hU1, osE ho24 (by rw [hixx]; exact mpL_put (by omega)), (by first | exact hg1_24 | exact OgR.weak hg1_24), osE ho20 (by first | rfl | (simp_all; done) | (simp_all; omega)), (by first | exact hg1_20 | exact OgR.weak hg1_20), osE ho21 (by first | rfl | (simp_all; done) | (simp_all; omega)), (by first | exact hg1_21 | exact OgR.weak hg1_21), bxE hb15 (by first | rfl | (simp_all; done) | (simp_all; omega)), (Dj.symm hd20_24), (Dj.symm hd21_24), hd20_21, (by first | omega | assumption | (simp_all; done) | (simp_all; omega))⟩, by omega⟩
  try simp only [nq] at hc4
  refine CW.exit ?_
  refine XQ.then ?_
  refine XQ.then ?_
  refine XQ.here ?_
  refine NQ.then ?_
  refine CW.seq ?_
  refine CW.seq ?_
  refine CW.reg ?_
  refine WL.asg rfl rfl ?_
  refine WL.nilS ?_
  refine CW.block ?_
  have hlt1 := hb1.ltO
  have hlt2 := hb2.ltO
  have hlt3 := ho3.ltO
  have hlt4 := ho4.ltO
  have hlt5 := hn5.ltO
  have hlt6 := ho6.ltO
  have hlt9 := ho9.ltO
  have hlt10 := ho10.ltO
  have hlt15 := hb15.ltO
  have hlt19 := ho19.ltO
  have hlt20 := ho20.ltO
  have hlt21 := ho21.ltO
  refine CW.loop (σk := [(1, _), (2, _), (6, _), (7, _), (8, _), (12, _)]) (fun ρ wz m => ∃ (v25 : Value) (og25 : Option Nat) (v26 : Value) (og26 : Option Nat) (v27 : Value) (og27 : Option Nat) (i : Nat), ρ = [(16, .int .i64 (i : Nat))] ∧ m = (mbF (clsF a0 xa4 xa3 (foundL a0 xa3 xa2)) (foundL a0 xa3 xa2) (foundL a0 xa3 xa2).length).length - i ∧ UpdL [og19, og20, og21, (some b15.block)] wl2 wz ∧ Osl VI wz og25 v25 (mpL (clsF a0 xa4 xa3 (foundL a0 xa3 xa2)) (xa2.take xa2.length)) ∧ OgR wl2 og19 og25 ∧ Osl VI wz og26 v26 (nxL a0 xa3 (clsF a0 xa4 xa3 (foundL a0 xa3 xa2)) (mbF (clsF a0 xa4 xa3 (foundL a0 xa3 xa2)) (foundL a0 xa3 xa2) (foundL a0 xa3 xa2).length) ((mbF (clsF a0 xa4 xa3 (foundL a0 xa3 xa2)) (foundL a0 xa3 xa2) (foundL a0 xa3 xa2).length).take i)) ∧ OgR wl2 og20 og26 ∧ Osl VB wz og27 v27 (enL xa4 ((mbF (clsF a0 xa4 xa3 (foundL a0 xa3 xa2)) (foundL a0 xa3 xa2) (foundL a0 xa3 xa2).length).take i)) ∧ OgR wl2 og21 og27 ∧ Bx wz b15 [.int .i64 ((mbF (clsF a0 xa4 xa3 (foundL a0 xa3 xa2)) (foundL a0 xa3 xa2) (foundL a0 xa3 xa2).length).length : Nat), .int .i64 a1, v25, v26, v27] ∧ Dj og25 og26 ∧ Dj og25 og27 ∧ Dj og26 og27 ∧ (i ≤ (mbF (clsF a0 xa4 xa3 (foundL a0 xa3 xa2)) (foundL a0 xa3 xa2) (foundL a0 xa3 xa2).length).length)) (ρ₀ := [(16, _)]) (m₀ := _) ⟨rfl, rfl, rfl, rfl, rfl, rfl, rfl, trivial⟩ ⟨v19, og19, v20, og20, v21, og21, 0, rfl, rfl, (UpdL.refl _ _), osE ho19 (by (obtain rfl : j = xa2.length := (by omega)); rfl), OgR.refl _ _, osE ho20 (by rfl), OgR.refl _ _, osE ho21 (by rfl), OgR.refl _ _, bxE hb15 (by first | rfl | rw [rgI_len]), hd19_20, hd19_21, hd20_21, (by first | omega | rfl | (simp; done) | assumption | (simp_all; done))⟩ ?_
  rintro _ wl3 _ ⟨v25, og25, v26, og26, v27, og27, i, rfl, rfl, hU2, ho25, ha25, ho26, ha26, ho27, ha27, hb15, hd25_26, hd25_27, hd26_27, hi⟩
  have hb1 := hb1.loop hU2 ⟨hd1_19, hd1_20, hd1_21, hd1_15, trivial⟩
  have hb2 := hb2.loop hU2 ⟨hd2_19, hd2_20, hd2_21, hd2_15, trivial⟩
  have ho3 := ho3.loop hU2 ⟨hd3_19, hd3_20, hd3_21, hd3_15, trivial⟩
  have ho4 := ho4.loop hU2 ⟨hd4_19, hd4_20, hd4_21, hd4_15, trivial⟩
  have hn5 := hn5.loop hU2 ⟨hd5_19, hd5_20, hd5_21, hd5_15, trivial⟩
  have ho6 := ho6.loop hU2 ⟨hd6_19, hd6_20, hd6_21, hd6_15, trivial⟩
  have ho9 := ho9.loop hU2 ⟨hd9_19, hd9_20, hd9_21, hd9_15, trivial⟩
  have ho10 := ho10.loop hU2 ⟨hd10_19, hd10_20, hd10_21, hd10_15, trivial⟩
  have hl25 := Lo.ogr hl19 hB ha25
  have hg2_25 := ha25
  have hk2_25 : OkB [og19, og20, og21, (some b15.block)] wl2 og25 := OkB.ogr (OkB.mem (by simp)) (Nat.le_refl _) ha25
  have hd1_25 := Dj.ogr hd1_19 hlt1 ha25
  have hd2_25 := Dj.ogr hd2_19 hlt2 ha25
  have hd3_25 := Dj.ogr hd3_19 hlt3 ha25
  have hd4_25 := Dj.ogr hd4_19 hlt4 ha25
  have hd5_25 := DI.ogr hd5_19 hlt5 ha25
  have hd6_25 := Dj.ogr hd6_19 hlt6 ha25
  have hd9_25 := Dj.ogr hd9_19 hlt9 ha25
  have hd10_25 := Dj.ogr hd10_19 hlt10 ha25
  have hd15_25 := Dj.ogr hd15_19 hlt15 ha25
  have hl26 := Lo.ogr hl20 hB ha26
  have hg2_26 := ha26
  have hk2_26 : OkB [og19, og20, og21, (some b15.block)] wl2 og26 := OkB.ogr (OkB.mem (by simp)) (Nat.le_refl _) ha26
  have hd1_26 := Dj.ogr hd1_20 hlt1 ha26
  have hd2_26 := Dj.ogr hd2_20 hlt2 ha26
  have hd3_26 := Dj.ogr hd3_20 hlt3 ha26
  have hd4_26 := Dj.ogr hd4_20 hlt4 ha26
  have hd5_26 := DI.ogr hd5_20 hlt5 ha26
  have hd6_26 := Dj.ogr hd6_20 hlt6 ha26
  have hd9_26 := Dj.ogr hd9_20 hlt9 ha26
  have hd10_26 := Dj.ogr hd10_20 hlt10 ha26
  have hd15_26 := Dj.ogr hd15_20 hlt15 ha26
  have hl27 := Lo.ogr hl21 hB ha27
  have hg2_27 := ha27
  have hk2_27 : OkB [og19, og20, og21, (some b15.block)] wl2 og27 := OkB.ogr (OkB.mem (by simp)) (Nat.le_refl _) ha27
  have hd1_27 := Dj.ogr hd1_21 hlt1 ha27
  have hd2_27 := Dj.ogr hd2_21 hlt2 ha27
  have hd3_27 := Dj.ogr hd3_21 hlt3 ha27
  have hd4_27 := Dj.ogr hd4_21 hlt4 ha27
  have hd5_27 := DI.ogr hd5_21 hlt5 ha27
  have hd6_27 := Dj.ogr hd6_21 hlt6 ha27
  have hd9_27 := Dj.ogr hd9_21 hlt9 ha27
  have hd10_27 := Dj.ogr hd10_21 hlt10 ha27
  have hd15_27 := Dj.ogr hd15_21 hlt15 ha27
  have hk2_15 : OkB [og19, og20, og21, (some b15.block)] wl2 (some b15.block) := OkB.mem (by simp)
  have hB := hB.loop hU2 ⟨hl19, hl20, hl21, hl15, trivial⟩
  refine CW.seq ?_
  refine CW.seq ?_
  refine CW.reg ?_
  refine WL.mv rfl rfl ?_
  refine WL.mv rfl rfl ?_
  refine WL.pure rfl rfl rfl ((PV.lenOs rfl ho10 T.sl22)) ?_
  refine WL.pure rfl rfl rfl (PV.lss rfl rfl) ?_
  refine WL.nilS ?_
  refine CW.cond rfl (fun hc5 => ?_) (fun hc5 => ?_)
  · skip
    try simp only [nq] at hc5
    refine CW.skipS ?_
    refine CW.seq ?_
    refine CW.block ?_
    refine CW.seq ?_
    refine CW.seq ?_
    refine CW.reg ?_
    refine WL.asg rfl rfl ?_
    refine WL.nilS ?_
    refine CW.block ?_
    have hlt1 := hb1.ltO
    have hlt2 := hb2.ltO
    have hlt3 := ho3.ltO
    have hlt4 := ho4.ltO
    have hlt5 := hn5.ltO
    have hlt6 := ho6.ltO
    have hlt9 := ho9.ltO
    have hlt10 := ho10.ltO
    have hlt15 := hb15.ltO
    have hlt25 := ho25.ltO
    have hlt26 := ho26.ltO
    have hlt27 := ho27.ltO
    refine CW.loop (σk := [(1, _), (2, _), (6, _), (7, _), (8, _), (12, _), (16, _)]) (fun ρ wz m => ∃ (v29 : Value) (og29 : Option Nat) (v30 : Value) (og30 : Option Nat) (v31 : Value) (og31 : Option Nat) (y : Nat), ρ = [(17, .int .i64 (y : Nat))] ∧ m = (mbF (clsF a0 xa4 xa3 (foundL a0 xa3 xa2)) (foundL a0 xa3 xa2) (foundL a0 xa3 xa2).length).length - y ∧ UpdL [og25, og26, og27, (some b15.block)] wl3 wz ∧ Osl VI wz og29 v29 (mpL (clsF a0 xa4 xa3 (foundL a0 xa3 xa2)) (xa2.take xa2.length)) ∧ OgR wl3 og25 og29 ∧ Osl VI wz og30 v30 (nxL a0 xa3 (clsF a0 xa4 xa3 (foundL a0 xa3 xa2)) (mbF (clsF a0 xa4 xa3 (foundL a0 xa3 xa2)) (foundL a0 xa3 xa2) (foundL a0 xa3 xa2).length) ((mbF (clsF a0 xa4 xa3 (foundL a0 xa3 xa2)) (foundL a0 xa3 xa2) (foundL a0 xa3 xa2).length).take i) ++ rwL a0 xa3 (clsF a0 xa4 xa3 (foundL a0 xa3 xa2)) ((mbF (clsF a0 xa4 xa3 (foundL a0 xa3 xa2)) (foundL a0 xa3 xa2) (foundL a0 xa3 xa2).length).take y) ((mbF (clsF a0 xa4 xa3 (foundL a0 xa3 xa2)) (foundL a0 xa3 xa2) (foundL a0 xa3 xa2).length).getD i 0)) ∧ OgR wl3 og26 og30 ∧ Osl VB wz og31 v31 (enL xa4 ((mbF (clsF a0 xa4 xa3 (foundL a0 xa3 xa2)) (foundL a0 xa3 xa2) (foundL a0 xa3 xa2).length).take i)) ∧ OgR wl3 og27 og31 ∧ Bx wz b15 [.int .i64 ((mbF (clsF a0 xa4 xa3 (foundL a0 xa3 xa2)) (foundL a0 xa3 xa2) (foundL a0 xa3 xa2).length).length : Nat), .int .i64 a1, v29, v30, v31] ∧ Dj og29 og30 ∧ Dj og29 og31 ∧ Dj og30 og31 ∧ (y ≤ (mbF (clsF a0 xa4 xa3 (foundL a0 xa3 xa2)) (foundL a0 xa3 xa2) (foundL a0 xa3 xa2).length).length)) (ρ₀ := [(17, _)]) (m₀ := _) ⟨rfl, rfl, rfl, rfl, rfl, rfl, rfl, rfl, trivial⟩ ⟨v25, og25, v26, og26, v27, og27, 0, rfl, rfl, (UpdL.refl _ _), osE ho25 (by rfl), OgR.refl _ _, osE ho26 (by exact (List.append_nil _).symm), OgR.refl _ _, osE ho27 (by rfl), OgR.refl _ _, bxE hb15 (by first | rfl | rw [rgI_len]), hd25_26, hd25_27, hd26_27, (by first | omega | rfl | (simp; done) | assumption | (simp_all; done))⟩ ?_
    rintro _ wl4 _ ⟨v29, og29, v30, og30, v31, og31, y, rfl, rfl, hU3, ho29, ha29, ho30, ha30, ho31, ha31, hb15, hd29_30, hd29_31, hd30_31, hy⟩
    have hU2 := hU2.trans hU3 ⟨hk2_25, hk2_26, hk2_27, hk2_15, trivial⟩
    have hb1 := hb1.loop hU3 ⟨hd1_25, hd1_26, hd1_27, hd1_15, trivial⟩
    have hb2 := hb2.loop hU3 ⟨hd2_25, hd2_26, hd2_27, hd2_15, trivial⟩
    have ho3 := ho3.loop hU3 ⟨hd3_25, hd3_26, hd3_27, hd3_15, trivial⟩
    have ho4 := ho4.loop hU3 ⟨hd4_25, hd4_26, hd4_27, hd4_15, trivial⟩
    have hn5 := hn5.loop hU3 ⟨hd5_25, hd5_26, hd5_27, hd5_15, trivial⟩
    have ho6 := ho6.loop hU3 ⟨hd6_25, hd6_26, hd6_27, hd6_15, trivial⟩
    have ho9 := ho9.loop hU3 ⟨hd9_25, hd9_26, hd9_27, hd9_15, trivial⟩
    have ho10 := ho10.loop hU3 ⟨hd10_25, hd10_26, hd10_27, hd10_15, trivial⟩
    have hl29 := Lo.ogr hl25 hB ha29
    have hg3_29 := ha29
    have hk3_29 : OkB [og25, og26, og27, (some b15.block)] wl3 og29 := OkB.ogr (OkB.mem (by simp)) (Nat.le_refl _) ha29
    have hk2_29 := OkB.ogr hk2_25 (by first | assumption | exact UpdL.size (by assumption)) ha29
    have hg2_29 := OgR.trans hg2_25 (by first | assumption | exact UpdL.size (by assumption)) ha29
    have hd1_29 := Dj.ogr hd1_25 hlt1 ha29
    have hd2_29 := Dj.ogr hd2_25 hlt2 ha29
    have hd3_29 := Dj.ogr hd3_25 hlt3 ha29
    have hd4_29 := Dj.ogr hd4_25 hlt4 ha29
    have hd5_29 := DI.ogr hd5_25 hlt5 ha29
    have hd6_29 := Dj.ogr hd6_25 hlt6 ha29
    have hd9_29 := Dj.ogr hd9_25 hlt9 ha29
    have hd10_29 := Dj.ogr hd10_25 hlt10 ha29
    have hd15_29 := Dj.ogr hd15_25 hlt15 ha29
    have hl30 := Lo.ogr hl26 hB ha30
    have hg3_30 := ha30
    have hk3_30 : OkB [og25, og26, og27, (some b15.block)] wl3 og30 := OkB.ogr (OkB.mem (by simp)) (Nat.le_refl _) ha30
    have hk2_30 := OkB.ogr hk2_26 (by first | assumption | exact UpdL.size (by assumption)) ha30
    have hg2_30 := OgR.trans hg2_26 (by first | assumption | exact UpdL.size (by assumption)) ha30
    have hd1_30 := Dj.ogr hd1_26 hlt1 ha30
    have hd2_30 := Dj.ogr hd2_26 hlt2 ha30
    have hd3_30 := Dj.ogr hd3_26 hlt3 ha30
    have hd4_30 := Dj.ogr hd4_26 hlt4 ha30
    have hd5_30 := DI.ogr hd5_26 hlt5 ha30
    have hd6_30 := Dj.ogr hd6_26 hlt6 ha30
    have hd9_30 := Dj.ogr hd9_26 hlt9 ha30
    have hd10_30 := Dj.ogr hd10_26 hlt10 ha30
    have hd15_30 := Dj.ogr hd15_26 hlt15 ha30
    have hl31 := Lo.ogr hl27 hB ha31
    have hg3_31 := ha31
    have hk3_31 : OkB [og25, og26, og27, (some b15.block)] wl3 og31 := OkB.ogr (OkB.mem (by simp)) (Nat.le_refl _) ha31
    have hk2_31 := OkB.ogr hk2_27 (by first | assumption | exact UpdL.size (by assumption)) ha31
    have hg2_31 := OgR.trans hg2_27 (by first | assumption | exact UpdL.size (by assumption)) ha31
    have hd1_31 := Dj.ogr hd1_27 hlt1 ha31
    have hd2_31 := Dj.ogr hd2_27 hlt2 ha31
    have hd3_31 := Dj.ogr hd3_27 hlt3 ha31
    have hd4_31 := Dj.ogr hd4_27 hlt4 ha31
    have hd5_31 := DI.ogr hd5_27 hlt5 ha31
    have hd6_31 := Dj.ogr hd6_27 hlt6 ha31
    have hd9_31 := Dj.ogr hd9_27 hlt9 ha31
    have hd10_31 := Dj.ogr hd10_27 hlt10 ha31
    have hd15_31 := Dj.ogr hd15_27 hlt15 ha31
    have hk3_15 : OkB [og25, og26, og27, (some b15.block)] wl3 (some b15.block) := OkB.mem (by simp)
    have hB := hB.loop hU3 ⟨hl25, hl26, hl27, hl15, trivial⟩
    refine CW.seq ?_
    refine CW.seq ?_
    refine CW.reg ?_
    refine WL.mv rfl rfl ?_
    refine WL.mv rfl rfl ?_
    refine WL.pure rfl rfl rfl ((PV.lenOs rfl ho10 T.sl22)) ?_
    refine WL.pure rfl rfl rfl (PV.lss rfl rfl) ?_
    refine WL.nilS ?_
    refine CW.cond rfl (fun hc6 => ?_) (fun hc6 => ?_)
    · skip
      try simp only [nq] at hc6
      refine CW.skipS ?_
      refine CW.seq ?_
      refine CW.block ?_
      refine CW.seq ?_
      refine CW.draw T.mixed (by kernel_rfl) (fun _ _ _ _ _ h => h) (fun w8 w9 => Upd og9 w8 w9) 26 (.take 0 (.take 1 (.take 2 (.take 3 (.take 4 (.take 5 (.take 6 (.take 7 (.take 8 (.take 9 (.take 10 (.take 11 (.take 12 (.take 13 (.take 14 (.take 15 (.take 16 (.take 17 (.take 18 (.take 19 (.must 20 (.take 21 (.take 22 (.take 23 (.take 24 (.take 25 .done)))))))))))))))))))))))))) (by kernel_rfl) (fun w18 hXd => ?_)
      have hB := hB.trans hXd
      have hb1 := hb1.up hXd
      have hb2 := hb2.up hXd
      have ho3 := ho3.up hXd
      have ho4 := ho4.up hXd
      have hn5 := hn5.up hXd
      have ho6 := ho6.up hXd
      have ho9 := ho9.up hXd
      have ho10 := ho10.up hXd
      have hb15 := hb15.up hXd
      have ho29 := ho29.up hXd
      have ho30 := ho30.up hXd
      have ho31 := ho31.up hXd
      have hU2 := hU2.ext hXd
      have hU3 := hU3.ext hXd
      have hBr := hB
      have hS : Upd og9 w18 w18 := Ext.toUpd (Ext.refl _)
      have hUR : UpdL [og9] w18 w18 := UpdL.refl _ _
      have hkR_9 : OkB [og9] w18 og9 := OkB.mem (by simp)
      have hgR_9 := OgR.refl w18 og9
      have hs1 := mb_rng hF0 (cl := (clsF a0 xa4 xa3 (foundL a0 xa3 xa2))) (x := i) (by omega); have hs2 := mb_rng hF0 (cl := (clsF a0 xa4 xa3 (foundL a0 xa3 xa2))) (x := y) (by omega); have hjn := tv.join hs1 hs2; have hnl := nxL_le (a0 := a0) (nx := xa3) (cl := (clsF a0 xa4 xa3 (foundL a0 xa3 xa2))) (mb := (mbF (clsF a0 xa4 xa3 (foundL a0 xa3 xa2)) (foundL a0 xa3 xa2) (foundL a0 xa3 xa2).length)) (by omega) i; have hrl := rwL_len (a0 := a0) (nx := xa3) (cl := (clsF a0 xa4 xa3 (foundL a0 xa3 xa2))) ((mbF (clsF a0 xa4 xa3 (foundL a0 xa3 xa2)) (foundL a0 xa3 xa2) (foundL a0 xa3 xa2).length).take y) ((mbF (clsF a0 xa4 xa3 (foundL a0 xa3 xa2)) (foundL a0 xa3 xa2) (foundL a0 xa3 xa2).length).getD i 0); have htk := List.length_take (i := y) (l := (mbF (clsF a0 xa4 xa3 (foundL a0 xa3 xa2)) (foundL a0 xa3 xa2) (foundL a0 xa3 xa2).length)); have hix := sq_idx (q := ((mbF (clsF a0 xa4 xa3 (foundL a0 xa3 xa2)) (foundL a0 xa3 xa2) (foundL a0 xa3 xa2).length).getD i 0)) (r := ((mbF (clsF a0 xa4 xa3 (foundL a0 xa3 xa2)) (foundL a0 xa3 xa2) (foundL a0 xa3 xa2).length).getD y 0)) tvs (by omega) (by omega) tvn; have hme := hNm.mem (mb_join tv (cl := (clsF a0 xa4 xa3 (foundL a0 xa3 xa2))) (x := i) (y := y) (by omega) (by omega)); have hin : (clsF a0 xa4 xa3 (foundL a0 xa3 xa2)).getD (xa3.getD (((mbF (clsF a0 xa4 xa3 (foundL a0 xa3 xa2)) (foundL a0 xa3 xa2) (foundL a0 xa3 xa2).length).getD i 0) * a0 + ((mbF (clsF a0 xa4 xa3 (foundL a0 xa3 xa2)) (foundL a0 xa3 xa2) (foundL a0 xa3 xa2).length).getD y 0)).toNat 0).toNat 0 ∈ rgI (mbF (clsF a0 xa4 xa3 (foundL a0 xa3 xa2)) (foundL a0 xa3 xa2) (foundL a0 xa3 xa2).length).length := rgI_mem.2 hme; have hixx := ixI_rg hme
      refine HP.take rfl rfl rfl rfl hS (fun wS hS1 => PV.move rfl) ?_
      refine HP.take rfl rfl rfl rfl hS (fun wS hS1 => PV.move rfl) ?_
      refine HP.take rfl rfl rfl rfl hS (fun wS hS1 => PV.fieldAddr T.fl36_3 rfl hb1.cells) ?_
      refine HP.take rfl rfl rfl rfl hS (fun wS hS1 => PV.load1 T.na22 rfl (Bx.cells (Bx.updD (by assumption) hS1 (by first | assumption | exact Dj.symm (by assumption)))) (Ext.refl _) rfl) ?_
      refine HP.take rfl rfl rfl rfl hS (fun wS hS1 => PV.move rfl) ?_
      refine HP.take rfl rfl rfl rfl hS (fun wS hS1 => PV.move rfl) ?_
      first
        | refine HP.atO (wb := w18) (x := .tmp 109) (y := .tmp 110) (f := VI) (0) rfl rfl (by assumption) (by first | omega | (simp only [List.length_set]; omega) | (simp only [List.length_append, List.length_take, List.length_replicate, List.length_drop]; omega)) (fun p6 hpp6 hcp6 => ?_)
        | refine HP.atOZ (wb := w18) (x := .tmp 109) (y := .tmp 110) (f := VI) (0) rfl rfl (by assumption) (by first | omega | (simp only [List.length_set]; omega) | (simp only [List.length_append, List.length_take, List.length_replicate, List.length_drop]; omega)) (fun p6 hpp6 hzp6 hcp6 => ?_)
      refine HP.take rfl rfl rfl rfl hS (fun wS hS1 => (by first | exact PV.indexAddr hpp6 rfl rfl T.sl22 | exact PV.indexAddr hpp6 rfl (by rw [← hzp6]; rfl) T.sl22)) ?_
      refine HP.take rfl rfl rfl rfl hS (fun wS hS1 => (by first | exact PV.load0 T.na2 rfl (by first | exact Cells.updO hpp6 ho10 hcp6 hS1 (by first | assumption | exact Dj.symm (by assumption)) | exact Cells.up (by assumption) (hBr.updL hS1 hl9) | exact Bx.cells (Bx.updD (by assumption) hS1 (by first | assumption | exact Dj.symm (by assumption))) | exact Cells.upd (by assumption) hS1 (by simp)) (Ext.refl _) rfl | exact PV.load1 T.na2 rfl (by first | exact Cells.updO hpp6 ho10 hcp6 hS1 (by first | assumption | exact Dj.symm (by assumption)) | exact Cells.up (by assumption) (hBr.updL hS1 hl9) | exact Bx.cells (Bx.updD (by assumption) hS1 (by first | assumption | exact Dj.symm (by assumption))) | exact Cells.upd (by assumption) hS1 (by simp)) (Ext.refl _) rfl)) ?_
      refine HP.take rfl rfl rfl rfl hS (fun wS hS1 => PV.fieldAddr T.fl36_0 rfl hb1.cells) ?_
      refine HP.take rfl rfl rfl rfl hS (fun wS hS1 => PV.load1 T.na2 rfl (Bx.cells (Bx.updD (by assumption) hS1 (by first | assumption | exact Dj.symm (by assumption)))) (Ext.refl _) rfl) ?_
      refine HP.take rfl rfl rfl rfl hS (fun wS hS1 => PV.mul rfl rfl (by constructor <;> omega)) ?_
      refine HP.take rfl rfl rfl rfl hS (fun wS hS1 => PV.move rfl) ?_
      refine HP.take rfl rfl rfl rfl hS (fun wS hS1 => PV.move rfl) ?_
      first
        | refine HP.atO (wb := w18) (x := .tmp 116) (y := .tmp 117) (f := VI) (0) rfl rfl (by assumption) (by first | omega | (simp only [List.length_set]; omega) | (simp only [List.length_append, List.length_take, List.length_replicate, List.length_drop]; omega)) (fun p7 hpp7 hcp7 => ?_)
        | refine HP.atOZ (wb := w18) (x := .tmp 116) (y := .tmp 117) (f := VI) (0) rfl rfl (by assumption) (by first | omega | (simp only [List.length_set]; omega) | (simp only [List.length_append, List.length_take, List.length_replicate, List.length_drop]; omega)) (fun p7 hpp7 hzp7 hcp7 => ?_)
      refine HP.take rfl rfl rfl rfl hS (fun wS hS1 => (by first | exact PV.indexAddr hpp7 rfl rfl T.sl22 | exact PV.indexAddr hpp7 rfl (by rw [← hzp7]; rfl) T.sl22)) ?_
      refine HP.take rfl rfl rfl rfl hS (fun wS hS1 => (by first | exact PV.load0 T.na2 rfl (by first | exact Cells.updO hpp7 ho10 hcp7 hS1 (by first | assumption | exact Dj.symm (by assumption)) | exact Cells.up (by assumption) (hBr.updL hS1 hl9) | exact Bx.cells (Bx.updD (by assumption) hS1 (by first | assumption | exact Dj.symm (by assumption))) | exact Cells.upd (by assumption) hS1 (by simp)) (Ext.refl _) rfl | exact PV.load1 T.na2 rfl (by first | exact Cells.updO hpp7 ho10 hcp7 hS1 (by first | assumption | exact Dj.symm (by assumption)) | exact Cells.up (by assumption) (hBr.updL hS1 hl9) | exact Bx.cells (Bx.updD (by assumption) hS1 (by first | assumption | exact Dj.symm (by assumption))) | exact Cells.upd (by assumption) hS1 (by simp)) (Ext.refl _) rfl)) ?_
      refine HP.take rfl rfl rfl rfl hS (fun wS hS1 => PV.add rfl rfl (by constructor <;> omega)) ?_
      first
        | refine HP.at (x := .tmp 108) (y := .tmp 120) (E := EI) (0) rfl rfl (by first | assumption | exact Inn.rd (by assumption) (by omega)) (by first | omega | (simp only [List.length_set]; omega) | (simp only [List.length_append, List.length_take, List.length_replicate, List.length_drop]; omega)) (fun p8 csp8 hpp8 hcp8 hq => ?_)
        | refine HP.atZ (x := .tmp 108) (y := .tmp 120) (E := EI) (0) rfl rfl (by first | assumption | exact Inn.rd (by assumption) (by omega)) (by first | omega | (simp only [List.length_set]; omega) | (simp only [List.length_append, List.length_take, List.length_replicate, List.length_drop]; omega)) (fun p8 csp8 hpp8 hzp8 hcp8 hq => ?_)
      cases hq
      refine HP.take rfl rfl rfl rfl hS (fun wS hS1 => (by first | exact PV.indexAddr hpp8 rfl rfl T.sl22 | exact PV.indexAddr hpp8 rfl (by rw [← hzp8]; rfl) T.sl22)) ?_
      refine HP.take rfl rfl rfl rfl hS (fun wS hS1 => (by first | exact PV.load0 T.na2 rfl (by first | exact Cells.up (by assumption) (hBr.updL hS1 hl9) | exact Bx.cells (Bx.updD (by assumption) hS1 (by first | assumption | exact Dj.symm (by assumption))) | exact Cells.upd (by assumption) hS1 (by simp)) (Ext.refl _) rfl | exact PV.load1 T.na2 rfl (by first | exact Cells.up (by assumption) (hBr.updL hS1 hl9) | exact Bx.cells (Bx.updD (by assumption) hS1 (by first | assumption | exact Dj.symm (by assumption))) | exact Cells.upd (by assumption) hS1 (by simp)) (Ext.refl _) rfl)) ?_
      first
        | refine HP.atO (wb := w18) (x := .tmp 106) (y := .tmp 122) (f := VI) (0) rfl rfl (by assumption) (by first | omega | (simp only [List.length_set]; omega) | (simp only [List.length_append, List.length_take, List.length_replicate, List.length_drop]; omega)) (fun p9 hpp9 hcp9 => ?_)
        | refine HP.atOZ (wb := w18) (x := .tmp 106) (y := .tmp 122) (f := VI) (0) rfl rfl (by assumption) (by first | omega | (simp only [List.length_set]; omega) | (simp only [List.length_append, List.length_take, List.length_replicate, List.length_drop]; omega)) (fun p9 hpp9 hzp9 hcp9 => ?_)
      refine HP.take rfl rfl rfl rfl hS (fun wS hS1 => (by first | exact PV.indexAddr hpp9 rfl rfl T.sl22 | exact PV.indexAddr hpp9 rfl (by rw [← hzp9]; rfl) T.sl22)) ?_
      refine HP.take rfl rfl rfl rfl hS (fun wS hS1 => (by first | exact PV.load0 T.na2 rfl (by first | exact Cells.updO hpp9 ho6 hcp9 hS1 (by first | assumption | exact Dj.symm (by assumption)) | exact Cells.up (by assumption) (hBr.updL hS1 hl9) | exact Bx.cells (Bx.updD (by assumption) hS1 (by first | assumption | exact Dj.symm (by assumption))) | exact Cells.upd (by assumption) hS1 (by simp)) (Ext.refl _) rfl | exact PV.load1 T.na2 rfl (by first | exact Cells.updO hpp9 ho6 hcp9 hS1 (by first | assumption | exact Dj.symm (by assumption)) | exact Cells.up (by assumption) (hBr.updL hS1 hl9) | exact Bx.cells (Bx.updD (by assumption) hS1 (by first | assumption | exact Dj.symm (by assumption))) | exact Cells.upd (by assumption) hS1 (by simp)) (Ext.refl _) rfl)) ?_
      refine HP.must rfl rfl (OpK.callR rfl T.cf78 rfl (c_spec_l02Index_in (Osl.rd ho9) (by assumption)) (fun w19 hXw19 => ?_))
      refine ⟨Upd.trans hS (Ext.toUpd hXw19), ?_⟩
      have hS := Upd.trans hS (Ext.toUpd hXw19)
      have hB := hB.trans hXw19
      have hb1 := hb1.up hXw19
      have hb2 := hb2.up hXw19
      have ho3 := ho3.up hXw19
      have ho4 := ho4.up hXw19
      have hn5 := hn5.up hXw19
      have ho6 := ho6.up hXw19
      have ho9 := ho9.up hXw19
      have ho10 := ho10.up hXw19
      have hb15 := hb15.up hXw19
      have ho29 := ho29.up hXw19
      have ho30 := ho30.up hXw19
      have ho31 := ho31.up hXw19
      have hU2 := hU2.ext hXw19
      have hU3 := hU3.ext hXw19
      have hUR := hUR.ext hXw19
      refine HP.take rfl rfl rfl rfl hS (fun wS hS1 => PV.move rfl) ?_
      refine HP.take rfl rfl rfl rfl hS (fun wS hS1 => PV.extract rfl rfl) ?_
      refine HP.take rfl rfl rfl rfl hS (fun wS hS1 => PV.extract rfl rfl) ?_
      refine HP.take rfl rfl rfl rfl hS (fun wS hS1 => PV.assign rfl) ?_
      refine HP.take rfl rfl rfl rfl hS (fun wS hS1 => PV.assign rfl) ?_
      refine HP.doneS ?_
      refine CW.reg ?_
      refine WL.pure rfl rfl rfl (PV.fieldAddr T.fl36_3 rfl hb15.cells) ?_
      refine WL.pure rfl rfl rfl (PV.load1 T.na22 rfl hb15.cells (Ext.refl _) rfl) ?_
      refine WL.mv rfl rfl ?_
      refine WL.op rfl (OpK.buildS VI (os := [.tmp 130]) [_] rfl T.sl22 rfl rfl T.zv2 rfl (by intro z hz; first | rfl | (simp only [List.mem_cons, List.not_mem_nil, or_false] at hz; subst hz; exact (by first | exact Rd.cells1 (by assumption) | exact Osl.cells1 (by assumption) | exact Osn.cells1 (by assumption) | exact Rd.cells1 (NL.rd (by assumption)) | exact Inn.cell1 (by assumption) (by omega) | assumption | rfl))) rfl (fun v33 g33 w20 hXw20 ho33 hge33 => ?_))
      have hl33 := Lo.new hB hge33
      have hd1_33 := Dj.new hb1.ltO hge33
      have hd2_33 := Dj.new hb2.ltO hge33
      have hd3_33 := Dj.new ho3.ltO hge33
      have hd4_33 := Dj.new ho4.ltO hge33
      have hd5_33 := DI.new hn5 hge33
      have hd6_33 := Dj.new ho6.ltO hge33
      have hd9_33 := Dj.new ho9.ltO hge33
      have hd10_33 := Dj.new ho10.ltO hge33
      have hd15_33 := Dj.new hb15.ltO hge33
      have hd29_33 := Dj.new ho29.ltO hge33
      have hd30_33 := Dj.new ho30.ltO hge33
      have hd31_33 := Dj.new ho31.ltO hge33
      have hk2_33 := OkN.new hU2 hge33
      have hg2_33 := OgR.new hU2.size hge33
      have hk3_33 := OkN.new hU3 hge33
      have hg3_33 := OgR.new hU3.size hge33
      have hB := hB.trans hXw20
      have hb1 := hb1.up hXw20
      have hb2 := hb2.up hXw20
      have ho3 := ho3.up hXw20
      have ho4 := ho4.up hXw20
      have hn5 := hn5.up hXw20
      have ho6 := ho6.up hXw20
      have ho9 := ho9.up hXw20
      have ho10 := ho10.up hXw20
      have hb15 := hb15.up hXw20
      have ho29 := ho29.up hXw20
      have ho30 := ho30.up hXw20
      have ho31 := ho31.up hXw20
      have hU2 := hU2.ext hXw20
      have hU3 := hU3.ext hXw20
      refine WL.op rfl (OpK.appendS (f := VI) rfl T.sl22 T.zv2 rfl rfl ho30 rfl (Osl.src ho33 (fun _ => rfl)) (by first | (simp only [List.length_cons, List.length_nil]; omega) | (simp only [List.length_append, List.length_cons, List.length_nil]; omega)) (fun v34 og34 w21 hXw21 ho34 hap34 => ?_))
      have hl34 := Lo.app hl30 hB hap34
      have hd1_34 := Dj.app hd1_30 hb1.ltO hap34
      have hd2_34 := Dj.app hd2_30 hb2.ltO hap34
      have hd3_34 := Dj.app hd3_30 ho3.ltO hap34
      have hd4_34 := Dj.app hd4_30 ho4.ltO hap34
      have hd5_34 := DI.app hd5_30 hn5 hap34
      have hd6_34 := Dj.app hd6_30 ho6.ltO hap34
      have hd9_34 := Dj.app hd9_30 ho9.ltO hap34
      have hd10_34 := Dj.app hd10_30 ho10.ltO hap34
      have hd15_34 := Dj.app hd15_30 hb15.ltO hap34
      have hd29_34 := Dj.app hd29_30 ho29.ltO hap34
      have hd31_34 := Dj.app (Dj.symm hd30_31) ho31.ltO hap34
      have hd33_34 := Dj.app (Dj.symm hd30_33) ho33.ltO hap34
      have hk2_34 := OkN.app hU2 hk2_30 hap34
      have hg2_34 := OgR.app hg2_30 hU2.size hap34
      have hk3_34 := OkN.app hU3 hk3_30 hap34
      have hg3_34 := OgR.app hg3_30 hU3.size hap34
      have hB := hB.updL hXw21 hl30
      have hb1 := hb1.updD hXw21 hd1_30
      have hb2 := hb2.updD hXw21 hd2_30
      have ho3 := ho3.updD hXw21 hd3_30
      have ho4 := ho4.updD hXw21 hd4_30
      have hn5 := hn5.updD hXw21 hd5_30
      have ho6 := ho6.updD hXw21 hd6_30
      have ho9 := ho9.updD hXw21 hd9_30
      have ho10 := ho10.updD hXw21 hd10_30
      have hb15 := hb15.updD hXw21 hd15_30
      have ho29 := ho29.updD hXw21 hd29_30
      have ho31 := ho31.updD hXw21 (Dj.symm hd30_31)
      have ho33 := ho33.updD hXw21 (Dj.symm hd30_33)
      have hU2 := hU2.step hXw21 hk2_30
      have hU3 := hU3.step hXw21 hk3_30
      refine WL.pure rfl rfl rfl (PV.fieldAddr T.fl36_3 rfl hb15.cells) ?_
      refine WL.op rfl (OpK.storeB T.sz22 rfl rfl (by first | rfl | exact Inn.one1 (by assumption) (by omega) | exact Osl.oneCell (by assumption) | exact Osn.oneCell (by assumption) | exact Rd.oneCell (by assumption) | exact Rd.oneCell (NL.rd (by assumption)) | assumption) hb15 rfl (fun w22 hXw22 hb15 => ?_))
      have hB := hB.updL hXw22 hl15
      have hb1 := hb1.updD hXw22 hd1_15
      have hb2 := hb2.updD hXw22 hd2_15
      have ho3 := ho3.updD hXw22 hd3_15
      have ho4 := ho4.updD hXw22 hd4_15
      have hn5 := hn5.updD hXw22 hd5_15
      have ho6 := ho6.updD hXw22 hd6_15
      have ho9 := ho9.updD hXw22 hd9_15
      have ho10 := ho10.updD hXw22 hd10_15
      have ho29 := ho29.updD hXw22 (Dj.symm hd15_29)
      have ho31 := ho31.updD hXw22 (Dj.symm hd15_31)
      have ho33 := ho33.updD hXw22 (Dj.symm hd15_33)
      have ho34 := ho34.updD hXw22 (Dj.symm hd15_34)
      have hU2 := hU2.step hXw22 hk2_15
      have hU3 := hU3.step hXw22 hk3_15
      refine WL.nil ?_
      refine NQ.block ?_
      refine NQ.then ?_
      refine CW.reg ?_
      refine WL.mv rfl rfl ?_
      refine WL.pure rfl rfl rfl (PV.add rfl rfl (by constructor <;> omega)) ?_
      refine WL.asg rfl rfl ?_
      refine WL.nil ?_
      refine NQ.next (ρ := [(17, _)]) ⟨rfl, rfl, rfl, rfl, rfl, rfl, rfl, rfl, trivial⟩ ?_
      exact ⟨_, ⟨v29, og29, v34, og34, v31, og31, y + 1, rfl, rfl, hU3, osE ho29 (by first | rfl | (simp_all; done) | (simp_all; omega)), (by first | exact hg3_29 | exact OgR.weak hg3_29), osE ho34 (by rw [hixx, ← rwL_put (by omega), List.append_assoc]), (by first | exact hg3_34 | exact OgR.weak hg3_34), osE ho31 (by first | rfl | (simp_all; done) | (simp_all; omega)), (by first | exact hg3_31 | exact OgR.weak hg3_31), bxE hb15 (by first | rfl | (simp_all; done) | (simp_all; omega)), hd29_34, hd29_31, (Dj.symm hd31_34), (by first | omega | assumption | (simp_all; done) | (simp_all; omega))⟩, by omega⟩
    try simp only [nq] at hc6
    refine CW.exit ?_
    refine XQ.then ?_
    refine XQ.then ?_
    refine XQ.here ?_
    refine NQ.then ?_
    refine CW.draw T.mixed (by kernel_rfl) (fun _ _ _ _ _ h => h) (fun w8 w9 => Upd og31 w8 w9) 13 (.take 0 (.take 1 (.take 2 (.take 3 (.take 4 (.take 5 (.take 6 (.take 7 (.take 8 (.take 9 (.must 10 (.must 11 (.take 12 (.must 13 .done)))))))))))))) (by kernel_rfl) (fun w23 hXd => ?_)
    have hB := hB.trans hXd
    have hb1 := hb1.up hXd
    have hb2 := hb2.up hXd
    have ho3 := ho3.up hXd
    have ho4 := ho4.up hXd
    have hn5 := hn5.up hXd
    have ho6 := ho6.up hXd
    have ho9 := ho9.up hXd
    have ho10 := ho10.up hXd
    have hb15 := hb15.up hXd
    have ho29 := ho29.up hXd
    have ho30 := ho30.up hXd
    have ho31 := ho31.up hXd
    have hU2 := hU2.ext hXd
    have hBr := hB
    have hS : Upd og31 w23 w23 := Ext.toUpd (Ext.refl _)
    have hs1 := mb_rng hF0 (cl := (clsF a0 xa4 xa3 (foundL a0 xa3 xa2))) (x := i) (by omega); have hel := enL_len (en := xa4) ((mbF (clsF a0 xa4 xa3 (foundL a0 xa3 xa2)) (foundL a0 xa3 xa2) (foundL a0 xa3 xa2).length).take i); have htk := List.length_take (i := i) (l := (mbF (clsF a0 xa4 xa3 (foundL a0 xa3 xa2)) (foundL a0 xa3 xa2) (foundL a0 xa3 xa2).length))
    refine HP.take rfl rfl rfl rfl hS (fun wS hS1 => PV.fieldAddr T.fl36_4 rfl hb15.cells) ?_
    refine HP.take rfl rfl rfl rfl hS (fun wS hS1 => PV.load1 T.na31 rfl (Bx.cells (Bx.updD (by assumption) hS1 (by first | assumption | exact Dj.symm (by assumption)))) (Ext.refl _) rfl) ?_
    refine HP.take rfl rfl rfl rfl hS (fun wS hS1 => PV.fieldAddr T.fl36_4 rfl hb1.cells) ?_
    refine HP.take rfl rfl rfl rfl hS (fun wS hS1 => PV.load1 T.na31 rfl (Bx.cells (Bx.updD (by assumption) hS1 (by first | assumption | exact Dj.symm (by assumption)))) (Ext.refl _) rfl) ?_
    refine HP.take rfl rfl rfl rfl hS (fun wS hS1 => PV.move rfl) ?_
    refine HP.take rfl rfl rfl rfl hS (fun wS hS1 => PV.move rfl) ?_
    first
      | refine HP.atO (wb := w23) (x := .tmp 138) (y := .tmp 139) (f := VI) (0) rfl rfl (by assumption) (by first | omega | (simp only [List.length_set]; omega) | (simp only [List.length_append, List.length_take, List.length_replicate, List.length_drop]; omega)) (fun p10 hpp10 hcp10 => ?_)
      | refine HP.atOZ (wb := w23) (x := .tmp 138) (y := .tmp 139) (f := VI) (0) rfl rfl (by assumption) (by first | omega | (simp only [List.length_set]; omega) | (simp only [List.length_append, List.length_take, List.length_replicate, List.length_drop]; omega)) (fun p10 hpp10 hzp10 hcp10 => ?_)
    refine HP.take rfl rfl rfl rfl hS (fun wS hS1 => (by first | exact PV.indexAddr hpp10 rfl rfl T.sl22 | exact PV.indexAddr hpp10 rfl (by rw [← hzp10]; rfl) T.sl22)) ?_
    refine HP.take rfl rfl rfl rfl hS (fun wS hS1 => (by first | exact PV.load0 T.na2 rfl (by first | exact Cells.updO hpp10 ho10 hcp10 hS1 (by first | assumption | exact Dj.symm (by assumption)) | exact Cells.up (by assumption) (hBr.updL hS1 hl31) | exact Bx.cells (Bx.updD (by assumption) hS1 (by first | assumption | exact Dj.symm (by assumption))) | exact Cells.upd (by assumption) hS1 (by simp)) (Ext.refl _) rfl | exact PV.load1 T.na2 rfl (by first | exact Cells.updO hpp10 ho10 hcp10 hS1 (by first | assumption | exact Dj.symm (by assumption)) | exact Cells.up (by assumption) (hBr.updL hS1 hl31) | exact Bx.cells (Bx.updD (by assumption) hS1 (by first | assumption | exact Dj.symm (by assumption))) | exact Cells.upd (by assumption) hS1 (by simp)) (Ext.refl _) rfl)) ?_
    first
      | refine HP.at (x := .tmp 137) (y := .tmp 141) (E := EB) (false) rfl rfl (by first | assumption | exact Inn.rd (by assumption) (by omega)) (by first | omega | (simp only [List.length_set]; omega) | (simp only [List.length_append, List.length_take, List.length_replicate, List.length_drop]; omega)) (fun p11 csp11 hpp11 hcp11 hq => ?_)
      | refine HP.atZ (x := .tmp 137) (y := .tmp 141) (E := EB) (false) rfl rfl (by first | assumption | exact Inn.rd (by assumption) (by omega)) (by first | omega | (simp only [List.length_set]; omega) | (simp only [List.length_append, List.length_take, List.length_replicate, List.length_drop]; omega)) (fun p11 csp11 hpp11 hzp11 hcp11 hq => ?_)
    cases hq
    refine HP.take rfl rfl rfl rfl hS (fun wS hS1 => (by first | exact PV.indexAddr hpp11 rfl rfl T.sl31 | exact PV.indexAddr hpp11 rfl (by rw [← hzp11]; rfl) T.sl31)) ?_
    refine HP.take rfl rfl rfl rfl hS (fun wS hS1 => (by first | exact PV.load0 T.na4 rfl (by first | exact Cells.up (by assumption) (hBr.updL hS1 hl31) | exact Bx.cells (Bx.updD (by assumption) hS1 (by first | assumption | exact Dj.symm (by assumption))) | exact Cells.upd (by assumption) hS1 (by simp)) (Ext.refl _) rfl | exact PV.load1 T.na4 rfl (by first | exact Cells.up (by assumption) (hBr.updL hS1 hl31) | exact Bx.cells (Bx.updD (by assumption) hS1 (by first | assumption | exact Dj.symm (by assumption))) | exact Cells.upd (by assumption) hS1 (by simp)) (Ext.refl _) rfl)) ?_
    refine HP.must rfl rfl (OpK.buildS VB (os := [.tmp 143]) [_] rfl T.sl31 rfl rfl T.zv4 rfl (by intro z hz; first | rfl | (simp only [List.mem_cons, List.not_mem_nil, or_false] at hz; subst hz; exact (by first | exact Rd.cells1 (by assumption) | exact Osl.cells1 (by assumption) | exact Osn.cells1 (by assumption) | exact Rd.cells1 (NL.rd (by assumption)) | exact Inn.cell1 (by assumption) (by omega) | assumption | rfl))) rfl (fun v35 g35 w24 hXw24 ho35 hge35 => ?_))
    have hl35 := Lo.new hB hge35
    have hd1_35 := Dj.new hb1.ltO hge35
    have hd2_35 := Dj.new hb2.ltO hge35
    have hd3_35 := Dj.new ho3.ltO hge35
    have hd4_35 := Dj.new ho4.ltO hge35
    have hd5_35 := DI.new hn5 hge35
    have hd6_35 := Dj.new ho6.ltO hge35
    have hd9_35 := Dj.new ho9.ltO hge35
    have hd10_35 := Dj.new ho10.ltO hge35
    have hd15_35 := Dj.new hb15.ltO hge35
    have hd29_35 := Dj.new ho29.ltO hge35
    have hd30_35 := Dj.new ho30.ltO hge35
    have hd31_35 := Dj.new ho31.ltO hge35
    have hk2_35 := OkN.new hU2 hge35
    have hg2_35 := OgR.new hU2.size hge35
    refine ⟨Upd.trans hS (Ext.toUpd hXw24), ?_⟩
    have hS := Upd.trans hS (Ext.toUpd hXw24)
    have hB := hB.trans hXw24
    have hb1 := hb1.up hXw24
    have hb2 := hb2.up hXw24
    have ho3 := ho3.up hXw24
    have ho4 := ho4.up hXw24
    have hn5 := hn5.up hXw24
    have ho6 := ho6.up hXw24
    have ho9 := ho9.up hXw24
    have ho10 := ho10.up hXw24
    have hb15 := hb15.up hXw24
    have ho29 := ho29.up hXw24
    have ho30 := ho30.up hXw24
    have ho31 := ho31.up hXw24
    have hU2 := hU2.ext hXw24
    refine HP.must rfl rfl (OpK.appendS (f := VB) rfl T.sl31 T.zv4 rfl rfl ho31 rfl (Osl.src ho35 (fun _ => rfl)) (by first | (simp only [List.length_cons, List.length_nil]; omega) | (simp only [List.length_append, List.length_cons, List.length_nil]; omega)) (fun v36 og36 w25 hXw25 ho36 hap36 => ?_))
    have hl36 := Lo.app hl31 hB hap36
    have hd1_36 := Dj.app hd1_31 hb1.ltO hap36
    have hd2_36 := Dj.app hd2_31 hb2.ltO hap36
    have hd3_36 := Dj.app hd3_31 ho3.ltO hap36
    have hd4_36 := Dj.app hd4_31 ho4.ltO hap36
    have hd5_36 := DI.app hd5_31 hn5 hap36
    have hd6_36 := Dj.app hd6_31 ho6.ltO hap36
    have hd9_36 := Dj.app hd9_31 ho9.ltO hap36
    have hd10_36 := Dj.app hd10_31 ho10.ltO hap36
    have hd15_36 := Dj.app hd15_31 hb15.ltO hap36
    have hd29_36 := Dj.app hd29_31 ho29.ltO hap36
    have hd30_36 := Dj.app hd30_31 ho30.ltO hap36
    have hd35_36 := Dj.app (Dj.symm hd31_35) ho35.ltO hap36
    have hk2_36 := OkN.app hU2 hk2_31 hap36
    have hg2_36 := OgR.app hg2_31 hU2.size hap36
    refine ⟨Upd.trans hS hXw25, ?_⟩
    have hS := Upd.trans hS hXw25
    have hB := hB.updL hXw25 hl31
    have hb1 := hb1.updD hXw25 hd1_31
    have hb2 := hb2.updD hXw25 hd2_31
    have ho3 := ho3.updD hXw25 hd3_31
    have ho4 := ho4.updD hXw25 hd4_31
    have hn5 := hn5.updD hXw25 hd5_31
    have ho6 := ho6.updD hXw25 hd6_31
    have ho9 := ho9.updD hXw25 hd9_31
    have ho10 := ho10.updD hXw25 hd10_31
    have hb15 := hb15.updD hXw25 hd15_31
    have ho29 := ho29.updD hXw25 hd29_31
    have ho30 := ho30.updD hXw25 hd30_31
    have ho35 := ho35.updD hXw25 (Dj.symm hd31_35)
    have hU2 := hU2.step hXw25 hk2_31
    refine HP.take rfl rfl rfl rfl hS (fun wS hS1 => PV.fieldAddr T.fl36_4 rfl hb15.cells) ?_
    refine HP.last rfl rfl (OpK.storeB T.sz31 rfl rfl (by first | rfl | exact Inn.one1 (by assumption) (by omega) | exact Osl.oneCell (by assumption) | exact Osn.oneCell (by assumption) | exact Rd.oneCell (by assumption) | exact Rd.oneCell (NL.rd (by assumption)) | assumption) hb15 rfl (fun w26 hXw26 hb15 => ?_))
    have hB := hB.updL hXw26 hl15
    have hb1 := hb1.updD hXw26 hd1_15
    have hb2 := hb2.updD hXw26 hd2_15
    have ho3 := ho3.updD hXw26 hd3_15
    have ho4 := ho4.updD hXw26 hd4_15
    have hn5 := hn5.updD hXw26 hd5_15
    have ho6 := ho6.updD hXw26 hd6_15
    have ho9 := ho9.updD hXw26 hd9_15
    have ho10 := ho10.updD hXw26 hd10_15
    have ho29 := ho29.updD hXw26 (Dj.symm hd15_29)
    have ho30 := ho30.updD hXw26 (Dj.symm hd15_30)
    have ho35 := ho35.updD hXw26 (Dj.symm hd15_35)
    have ho36 := ho36.updD hXw26 (Dj.symm hd15_36)
    have hU2 := hU2.step hXw26 hk2_15
    refine HP.done ?_
    refine NQ.block ?_
    refine NQ.then ?_
    refine CW.reg ?_
    refine WL.mv rfl rfl ?_
    refine WL.pure rfl rfl rfl (PV.add rfl rfl (by constructor <;> omega)) ?_
    refine WL.asg rfl rfl ?_
    refine WL.nil ?_
    refine NQ.next (ρ := [(16, _)]) ⟨rfl, rfl, rfl, rfl, rfl, rfl, rfl, trivial⟩ ?_
    exact ⟨_, ⟨v29, og29, v30, og30, v36, og36, i + 1, rfl, rfl, hU2, osE ho29 (by first | rfl | (simp_all; done) | (simp_all; omega)), (by first | exact hg2_29 | exact OgR.weak hg2_29), osE ho30 (by (obtain rfl : y = (mbF (clsF a0 xa4 xa3 (foundL a0 xa3 xa2)) (foundL a0 xa3 xa2) (foundL a0 xa3 xa2).length).length := (by omega)); rw [List.take_of_length_le (Nat.le_refl _)]; exact nxL_put (by omega)), (by first | exact hg2_30 | exact OgR.weak hg2_30), osE ho36 (by exact enL_put (by omega)), (by first | exact hg2_36 | exact OgR.weak hg2_36), bxE hb15 (by first | rfl | (simp_all; done) | (simp_all; omega)), hd29_30, hd29_36, hd30_36, (by first | omega | assumption | (simp_all; done) | (simp_all; omega))⟩, by omega⟩
  try simp only [nq] at hc5
  refine CW.exit ?_
  refine XQ.then ?_
  refine XQ.then ?_
  refine XQ.here ?_
  refine NQ.then ?_
  refine CW.seq ?_
  refine CW.reg ?_
  refine WL.pure rfl rfl rfl (PV.loadA T.ag36 rfl hb15.cells (Ext.refl _) rfl) ?_
  refine WL.op rfl (OpK.storeA T.sz36 rfl rfl rfl rfl (by simp [Value.oneCell'] <;> first | done | (repeat' apply And.intro) <;> first | rfl | exact Inn.one1 (by assumption) (by omega) | exact Osl.oneCell (by assumption) | exact Osn.oneCell (by assumption) | exact Rd.oneCell (by assumption) | exact Rd.oneCell (NL.rd (by assumption)) | assumption) hb2 (fun w27 hXw27 hb2 => ?_))
  have hB := hB.updL hXw27 hl2
  have hb1 := hb1.updD hXw27 hd1_2
  have ho3 := ho3.updD hXw27 (Dj.symm hd2_3)
  have ho4 := ho4.updD hXw27 (Dj.symm hd2_4)
  have hn5 := hn5.updD hXw27 hd2_5
  have ho6 := ho6.updD hXw27 (Dj.symm hd2_6)
  have ho9 := ho9.updD hXw27 (Dj.symm hd2_9)
  have ho10 := ho10.updD hXw27 (Dj.symm hd2_10)
  have hb15 := hb15.updD hXw27 (Dj.symm hd2_15)
  have ho25 := ho25.updD hXw27 (Dj.symm hd2_25)
  have ho26 := ho26.updD hXw27 (Dj.symm hd2_26)
  have ho27 := ho27.updD hXw27 (Dj.symm hd2_27)
  refine WL.asg rfl rfl ?_
  refine WL.nilS ?_
  refine CW.ret ?_
  refine RQ.rc1 T.ag36 rfl (by first | exact Cells.up (by assumption) hB | exact Bx.cells (by assumption) | assumption) rfl rfl ?_
  refine ⟨hB, v25, og25, v26, og26, v27, og27, ?_, osE ho25 ?_, hl25, osE ho26 ?_, hl26, osE ho27 ?_, hl27, hd25_26, hd25_27, hd26_27⟩
  · skip
    first | (exact tE2 (by rw [onI_yes (treesB_yes (by assumption)), onI_yes (treesB_yes (by assumption))]) (bE (treesB_yes (by assumption)).symm)) | (exact tE2 (by rw [onI_no (treesB_no (by assumption)), onI_no (treesB_no (by assumption))]) (bE (Bool.eq_false_iff.2 (treesB_no (by assumption))).symm))
  · skip
    first | (rw [onT_no (treesB_no (by assumption))]; done) | (rw [onT_yes (treesB_yes (by assumption)), List.take_of_length_le (by omega)])
  · skip
    first | (rw [onT_no (treesB_no (by assumption))]; done) | (rw [onT_yes (treesB_yes (by assumption)), List.take_of_length_le (by omega)])
  · skip
    first | (rw [onT_no (treesB_no (by assumption))]; done) | (rw [onT_yes (treesB_yes (by assumption)), List.take_of_length_le (by omega)])
theorem c_impl_within {w : World} {n lo hi : Int} : Calls Try.prog 73 #[.int .i64 n, .int .i64 lo, .int .i64 hi] w (Ret1 (RQt (.bool (decide (lo ≤ n ∧ n ≤ hi))) w)) := by
  have hB : Ext w w := Ext.refl w
  refine callsOf (vs := [_, _, _]) Try.func73 rfl Try.ntmps73 rfl rfl ?_
  refine CW.seq ?_
  refine CW.reg ?_
  refine WL.asg rfl rfl ?_
  refine WL.nilS ?_
  refine CW.seq ?_
  refine CW.reg ?_
  refine WL.mv rfl rfl ?_
  refine WL.mv rfl rfl ?_
  refine WL.pure rfl rfl rfl (PV.geq rfl rfl) ?_
  refine WL.mv rfl rfl ?_
  refine WL.split (t := 10) rfl (fun hc1 => ?_) (fun hc1 => ?_)
  rotate_left
  · skip
    try simp only [nq] at hc1
    refine WL.skip rfl rfl rfl rfl rfl ?_
    refine WL.skip rfl rfl rfl rfl rfl ?_
    refine WL.skip rfl rfl rfl rfl rfl ?_
    refine WL.pure rfl rfl rfl (PV.pickF rfl rfl) ?_
    refine WL.asg rfl rfl ?_
    refine WL.nilS ?_
    refine CW.ret ?_
    refine RQ.r1 rfl ?_
    refine ⟨?_, hB⟩
    first | rfl | exact bT (by omega) | exact bF (by omega) | exact bD (by omega) | exact iE (by omega) | (simp_all; done) | (simp_all; omega) | (simp_all; intros; omega)
  try simp only [nq] at hc1
  refine WL.pureG rfl rfl rfl rfl rfl (PV.move rfl) ?_
  refine WL.pureG rfl rfl rfl rfl rfl (PV.move rfl) ?_
  refine WL.pureG rfl rfl rfl rfl rfl (PV.leq rfl rfl) ?_
  refine WL.pure rfl rfl rfl (PV.pickT rfl rfl) ?_
  refine WL.asg rfl rfl ?_
  refine WL.nilS ?_
  refine CW.ret ?_
  refine RQ.r1 rfl ?_
  refine ⟨?_, hB⟩
  first | rfl | exact bT (by omega) | exact bF (by omega) | exact bD (by omega) | exact iE (by omega) | (simp_all; done) | (simp_all; omega) | (simp_all; intros; omega)
theorem c_impl_areWithin {w : World} {va : Value} {xs : List Int} {lo hi : Int} (ha : Rd EI w va xs) : Calls Try.prog 105 #[va, .int .i64 lo, .int .i64 hi] w (Ret1 (RQt (.bool (allIn xs lo hi)) w)) := by
  have hB : Ext w w := Ext.refl w
  have hla := ha.leI
  refine callsOf (vs := [_, _, _]) Try.func105 rfl Try.ntmps105 rfl rfl ?_
  refine CW.seq ?_
  refine CW.reg ?_
  refine WL.asg rfl rfl ?_
  refine WL.nilS ?_
  refine CW.seq ?_
  refine CW.seq ?_
  refine CW.reg ?_
  refine WL.mv rfl rfl ?_
  refine WL.pure rfl rfl rfl ((by first | exact PV.len rfl (by assumption) T.sl22 | exact PV.lenOs rfl (by assumption) T.sl22 | exact PV.len rfl (NL.rd (by assumption)) T.sl22 | exact PV.len rfl (Inn.rd (by assumption) (by omega)) T.sl22)) ?_
  refine WL.mv rfl rfl ?_
  refine WL.nilS ?_
  refine CW.block ?_
  refine CW.loop (σk := [(1, _), (2, _), (9, _), (10, _)]) (fun ρ wz m => ∃ (k : Nat), ρ = [(11, .int .i64 (k : Nat))] ∧ m = xs.length - k ∧ UpdL [] w wz ∧ (k ≤ xs.length) ∧ (allIn (xs.take k) lo hi = true)) (ρ₀ := [(11, _)]) (m₀ := _) ⟨rfl, rfl, rfl, rfl, rfl, trivial⟩ ⟨0, rfl, rfl, (UpdL.refl _ _), (by first | omega | rfl | (simp; done) | assumption | (simp_all; done)), (by exact allIn_zero _ _ _)⟩ ?_
  rintro _ wl1 _ ⟨k, rfl, rfl, hU0, hk, he⟩
  have hB := hB.loop hU0 trivial
  refine CW.seq ?_
  refine CW.reg ?_
  refine WL.pure rfl rfl rfl (PV.lss rfl rfl) ?_
  refine WL.nilS ?_
  refine CW.seq ?_
  refine CW.cond rfl (fun hc1 => ?_) (fun hc1 => ?_)
  · skip
    try simp only [nq] at hc1
    refine CW.skipS ?_
    refine CW.seq ?_
    refine CW.block ?_
    refine CW.seq ?_
    refine CW.reg ?_
    first
      | refine WL.at (x := .tmp 9) (y := .tmp 11) (E := EI) (0) rfl rfl (by first | assumption | exact Inn.rd (by assumption) (by omega)) (by first | omega | (simp only [List.length_set]; omega) | (simp only [List.length_append, List.length_take, List.length_replicate, List.length_drop]; omega)) (fun p1 csp1 hpp1 hcp1 hq => ?_)
      | refine WL.atZ (x := .tmp 9) (y := .tmp 11) (E := EI) (0) rfl rfl (by first | assumption | exact Inn.rd (by assumption) (by omega)) (by first | omega | (simp only [List.length_set]; omega) | (simp only [List.length_append, List.length_take, List.length_replicate, List.length_drop]; omega)) (fun p1 csp1 hpp1 hzp1 hcp1 hq => ?_)
    cases hq
    refine WL.pure rfl rfl rfl ((by first | exact PV.indexAddr hpp1 rfl rfl T.sl22 | exact PV.indexAddr hpp1 rfl (by rw [← hzp1]; rfl) T.sl22)) ?_
    refine WL.pure rfl rfl rfl ((by first | exact PV.load0 T.na2 rfl (by first | exact Cells.up (by assumption) hB | exact Bx.cells (by assumption) | assumption) (Ext.refl _) rfl | exact PV.load1 T.na2 rfl (by first | exact Cells.up (by assumption) hB | exact Bx.cells (by assumption) | assumption) (Ext.refl _) rfl)) ?_
    refine WL.asg rfl rfl ?_
    refine WL.nilS ?_
    refine CW.seq ?_
    refine CW.reg ?_
    refine WL.mv rfl rfl ?_
    refine WL.mv rfl rfl ?_
    refine WL.mv rfl rfl ?_
    refine WL.op rfl (OpK.callR rfl T.cf73 rfl (c_impl_within) (fun w1 hXw1 => ?_))
    have hB := hB.trans hXw1
    have hU0 := hU0.ext hXw1
    refine WL.pure rfl rfl rfl (PV.not rfl) ?_
    refine WL.nilS ?_
    refine CW.cond rfl (fun hc2 => ?_) (fun hc2 => ?_)
    · skip
      try simp only [nq] at hc2
      refine CW.seq ?_
      refine CW.reg ?_
      refine WL.asg rfl rfl ?_
      refine WL.nilS ?_
      refine CW.ret ?_
      refine RQ.block ?_
      refine RQ.then ?_
      refine RQ.then ?_
      refine RQ.block ?_
      refine RQ.then ?_
      refine RQ.r1 rfl ?_
      refine ⟨?_, hB⟩
      exact bE (allIn_bad (k := k) (by omega) (by assumption)).symm
    try simp only [nq] at hc2
    refine CW.skip ?_
    refine NQ.block ?_
    refine NQ.then ?_
    refine CW.reg ?_
    refine WL.pure rfl rfl rfl (PV.add rfl rfl (by constructor <;> omega)) ?_
    refine WL.mv rfl rfl ?_
    refine WL.nil ?_
    refine NQ.next (ρ := [(11, _)]) ⟨rfl, rfl, rfl, rfl, rfl, trivial⟩ ?_
    exact ⟨_, ⟨k + 1, rfl, rfl, hU0, (by first | omega | assumption | (simp_all; done) | (simp_all; omega)), (by exact allIn_step (by omega) he (by assumption))⟩, by omega⟩
  try simp only [nq] at hc1
  refine CW.exit ?_
  refine XQ.then ?_
  refine XQ.then ?_
  refine XQ.here ?_
  refine NQ.then ?_
  refine CW.seq ?_
  refine CW.reg ?_
  refine WL.asg rfl rfl ?_
  refine WL.nilS ?_
  refine CW.ret ?_
  refine RQ.r1 rfl ?_
  refine ⟨?_, hB⟩
  exact bE (allIn_all (k := k) (by omega) he).symm
theorem c_impl_ValidTrees {w : World} {a0 : Int} {a1 : Int} {va2 : Value} {xa2 : List Int} {va3 : Value} {xa3 : List Int} {va4 : Value} {xa4 : List Bool}  (ha2 : Rd EI w va2 xa2) (ha3 : Rd EI w va3 xa3) (ha4 : Rd EB w va4 xa4) : Calls Try.prog 68 #[.agg #[.int .i64 a0, .int .i64 a1, va2, va3, va4]] w (Ret1 (RQt (.bool (decide ((1 ≤ a0 ∧ a0 ≤ 16) ∧ (1 ≤ a1 ∧ a1 ≤ 4) ∧ (xa2.length : Int) = a1 ∧ (xa3.length : Int) = a0 * a0 ∧ (xa4.length : Int) = a0 ∧ allIn xa2 0 (a0 - 1) = true ∧ allIn xa3 0 (a0 - 1) = true))) w)) := by
  have hB : Ext w w := Ext.refl w
  have hla2 := ha2.leI; have hla3 := ha3.leI; have hla4 := ha4.leI
  refine callsOf (vs := [_]) Try.func68 rfl Try.ntmps68 rfl rfl ?_
  refine CW.seq ?_
  refine CW.reg ?_
  refine WL.op rfl (OpK.box rfl rfl (by first | exact Rd.cells1 (by assumption) | exact Osl.cells1 (by assumption) | exact Osn.cells1 (by assumption) | exact Rd.cells1 (NL.rd (by assumption)) | exact Inn.cell1 (by assumption) (by omega) | assumption | rfl) (fun b1 w1 hXw1 hb1 hge1 => ?_))
  have hl1 := Lo.new hB hge1
  have hB := hB.trans hXw1
  refine WL.asg rfl rfl ?_
  refine WL.nilS ?_
  refine CW.seq ?_
  refine CW.reg ?_
  refine WL.pure rfl rfl rfl (PV.fieldAddr T.fl36_0 rfl hb1.cells) ?_
  refine WL.pure rfl rfl rfl (PV.load1 T.na2 rfl hb1.cells (Ext.refl _) rfl) ?_
  refine WL.op rfl (OpK.callR rfl T.cf73 rfl (c_impl_within) (fun w2 hXw2 => ?_))
  have hB := hB.trans hXw2
  have hb1 := hb1.up hXw2
  refine WL.mv rfl rfl ?_
  refine WL.split (t := 6) rfl (fun hc1 => ?_) (fun hc1 => ?_)
  rotate_left
  · skip
    try simp only [nq] at hc1
    refine WL.skip rfl rfl rfl rfl rfl ?_
    refine WL.skip rfl rfl rfl rfl rfl ?_
    refine WL.skip rfl rfl rfl rfl rfl ?_
    refine WL.pure rfl rfl rfl (PV.pickF rfl rfl) ?_
    refine WL.mv rfl rfl ?_
    refine WL.skip rfl rfl rfl rfl rfl ?_
    refine WL.skip rfl rfl rfl rfl rfl ?_
    refine WL.skip rfl rfl rfl rfl rfl ?_
    refine WL.skip rfl rfl rfl rfl rfl ?_
    refine WL.skip rfl rfl rfl rfl rfl ?_
    refine WL.skip rfl rfl rfl rfl rfl ?_
    refine WL.pure rfl rfl rfl (PV.pickF rfl rfl) ?_
    refine WL.mv rfl rfl ?_
    refine WL.skip rfl rfl rfl rfl rfl ?_
    refine WL.skip rfl rfl rfl rfl rfl ?_
    refine WL.skip rfl rfl rfl rfl rfl ?_
    refine WL.skip rfl rfl rfl rfl rfl ?_
    refine WL.skip rfl rfl rfl rfl rfl ?_
    refine WL.skip rfl rfl rfl rfl rfl ?_
    refine WL.pure rfl rfl rfl (PV.pickF rfl rfl) ?_
    refine WL.mv rfl rfl ?_
    refine WL.skip rfl rfl rfl rfl rfl ?_
    refine WL.skip rfl rfl rfl rfl rfl ?_
    refine WL.skip rfl rfl rfl rfl rfl ?_
    refine WL.skip rfl rfl rfl rfl rfl ?_
    refine WL.skip rfl rfl rfl rfl rfl ?_
    refine WL.skip rfl rfl rfl rfl rfl ?_
    refine WL.skip rfl rfl rfl rfl rfl ?_
    refine WL.skip rfl rfl rfl rfl rfl ?_
    refine WL.skip rfl rfl rfl rfl rfl ?_
    refine WL.pure rfl rfl rfl (PV.pickF rfl rfl) ?_
    refine WL.mv rfl rfl ?_
    refine WL.skip rfl rfl rfl rfl rfl ?_
    refine WL.skip rfl rfl rfl rfl rfl ?_
    refine WL.skip rfl rfl rfl rfl rfl ?_
    refine WL.skip rfl rfl rfl rfl rfl ?_
    refine WL.skip rfl rfl rfl rfl rfl ?_
    refine WL.skip rfl rfl rfl rfl rfl ?_
    refine WL.pure rfl rfl rfl (PV.pickF rfl rfl) ?_
    refine WL.mv rfl rfl ?_
    refine WL.skip rfl rfl rfl rfl rfl ?_
    refine WL.skip rfl rfl rfl rfl rfl ?_
    refine WL.skip rfl rfl rfl rfl rfl ?_
    refine WL.skip rfl rfl rfl rfl rfl ?_
    refine WL.skip rfl rfl rfl rfl rfl ?_
    refine WL.skip rfl rfl rfl rfl rfl ?_
    refine WL.pure rfl rfl rfl (PV.pickF rfl rfl) ?_
    refine WL.asg rfl rfl ?_
    refine WL.nilS ?_
    refine CW.ret ?_
    refine RQ.r1 rfl ?_
    refine ⟨?_, hB⟩
    first | exact bD ⟨fun h => ⟨by omega, by omega, by omega, by omega, by omega, by assumption, by assumption⟩, fun h => h.2.2.2.2.1⟩ | exact bF (by rintro ⟨h1, h2, h3, h4, h5, h6, h7⟩; first | omega | (simp_all; done))
  try simp only [nq] at hc1
  refine WL.pureG rfl rfl rfl rfl rfl (PV.fieldAddr T.fl36_1 rfl hb1.cells) ?_
  refine WL.pureG rfl rfl rfl rfl rfl (PV.load1 T.na2 rfl hb1.cells (Ext.refl _) rfl) ?_
  refine WL.opG rfl rfl rfl (OpK.callR rfl T.cf73 rfl (c_impl_within) (fun w3 hXw3 => ?_))
  have hB := hB.trans hXw3
  have hb1 := hb1.up hXw3
  refine WL.pure rfl rfl rfl (PV.pickT rfl rfl) ?_
  refine WL.mv rfl rfl ?_
  refine WL.split (t := 11) rfl (fun hc2 => ?_) (fun hc2 => ?_)
  rotate_left
  · skip
    try simp only [nq] at hc2
    refine WL.skip rfl rfl rfl rfl rfl ?_
    refine WL.skip rfl rfl rfl rfl rfl ?_
    refine WL.skip rfl rfl rfl rfl rfl ?_
    refine WL.skip rfl rfl rfl rfl rfl ?_
    refine WL.skip rfl rfl rfl rfl rfl ?_
    refine WL.skip rfl rfl rfl rfl rfl ?_
    refine WL.pure rfl rfl rfl (PV.pickF rfl rfl) ?_
    refine WL.mv rfl rfl ?_
    refine WL.skip rfl rfl rfl rfl rfl ?_
    refine WL.skip rfl rfl rfl rfl rfl ?_
    refine WL.skip rfl rfl rfl rfl rfl ?_
    refine WL.skip rfl rfl rfl rfl rfl ?_
    refine WL.skip rfl rfl rfl rfl rfl ?_
    refine WL.skip rfl rfl rfl rfl rfl ?_
    refine WL.pure rfl rfl rfl (PV.pickF rfl rfl) ?_
    refine WL.mv rfl rfl ?_
    refine WL.skip rfl rfl rfl rfl rfl ?_
    refine WL.skip rfl rfl rfl rfl rfl ?_
    refine WL.skip rfl rfl rfl rfl rfl ?_
    refine WL.skip rfl rfl rfl rfl rfl ?_
    refine WL.skip rfl rfl rfl rfl rfl ?_
    refine WL.skip rfl rfl rfl rfl rfl ?_
    refine WL.skip rfl rfl rfl rfl rfl ?_
    refine WL.skip rfl rfl rfl rfl rfl ?_
    refine WL.skip rfl rfl rfl rfl rfl ?_
    refine WL.pure rfl rfl rfl (PV.pickF rfl rfl) ?_
    refine WL.mv rfl rfl ?_
    refine WL.skip rfl rfl rfl rfl rfl ?_
    refine WL.skip rfl rfl rfl rfl rfl ?_
    refine WL.skip rfl rfl rfl rfl rfl ?_
    refine WL.skip rfl rfl rfl rfl rfl ?_
    refine WL.skip rfl rfl rfl rfl rfl ?_
    refine WL.skip rfl rfl rfl rfl rfl ?_
    refine WL.pure rfl rfl rfl (PV.pickF rfl rfl) ?_
    refine WL.mv rfl rfl ?_
    refine WL.skip rfl rfl rfl rfl rfl ?_
    refine WL.skip rfl rfl rfl rfl rfl ?_
    refine WL.skip rfl rfl rfl rfl rfl ?_
    refine WL.skip rfl rfl rfl rfl rfl ?_
    refine WL.skip rfl rfl rfl rfl rfl ?_
    refine WL.skip rfl rfl rfl rfl rfl ?_
    refine WL.pure rfl rfl rfl (PV.pickF rfl rfl) ?_
    refine WL.asg rfl rfl ?_
    refine WL.nilS ?_
    refine CW.ret ?_
    refine RQ.r1 rfl ?_
    refine ⟨?_, hB⟩
    first | exact bD ⟨fun h => ⟨by omega, by omega, by omega, by omega, by omega, by assumption, by assumption⟩, fun h => h.2.2.2.2.1⟩ | exact bF (by rintro ⟨h1, h2, h3, h4, h5, h6, h7⟩; first | omega | (simp_all; done))
  try simp only [nq] at hc2
  refine WL.pureG rfl rfl rfl rfl rfl (PV.fieldAddr T.fl36_2 rfl hb1.cells) ?_
  refine WL.pureG rfl rfl rfl rfl rfl (PV.load1 T.na22 rfl hb1.cells (Ext.refl _) rfl) ?_
  refine WL.pureG rfl rfl rfl rfl rfl ((by first | exact PV.len rfl (by assumption) T.sl22 | exact PV.lenOs rfl (by assumption) T.sl22 | exact PV.len rfl (NL.rd (by assumption)) T.sl22 | exact PV.len rfl (Inn.rd (by assumption) (by omega)) T.sl22)) ?_
  refine WL.pureG rfl rfl rfl rfl rfl (PV.fieldAddr T.fl36_1 rfl hb1.cells) ?_
  refine WL.pureG rfl rfl rfl rfl rfl (PV.load1 T.na2 rfl hb1.cells (Ext.refl _) rfl) ?_
  refine WL.pureG rfl rfl rfl rfl rfl (PV.eql rfl rfl) ?_
  refine WL.pure rfl rfl rfl (PV.pickT rfl rfl) ?_
  refine WL.mv rfl rfl ?_
  refine WL.split (t := 19) rfl (fun hc3 => ?_) (fun hc3 => ?_)
  rotate_left
  · skip
    try simp only [nq] at hc3
    refine WL.skip rfl rfl rfl rfl rfl ?_
    refine WL.skip rfl rfl rfl rfl rfl ?_
    refine WL.skip rfl rfl rfl rfl rfl ?_
    refine WL.skip rfl rfl rfl rfl rfl ?_
    refine WL.skip rfl rfl rfl rfl rfl ?_
    refine WL.skip rfl rfl rfl rfl rfl ?_
    refine WL.pure rfl rfl rfl (PV.pickF rfl rfl) ?_
    refine WL.mv rfl rfl ?_
    refine WL.skip rfl rfl rfl rfl rfl ?_
    refine WL.skip rfl rfl rfl rfl rfl ?_
    refine WL.skip rfl rfl rfl rfl rfl ?_
    refine WL.skip rfl rfl rfl rfl rfl ?_
    refine WL.skip rfl rfl rfl rfl rfl ?_
    refine WL.skip rfl rfl rfl rfl rfl ?_
    refine WL.skip rfl rfl rfl rfl rfl ?_
    refine WL.skip rfl rfl rfl rfl rfl ?_
    refine WL.skip rfl rfl rfl rfl rfl ?_
    refine WL.pure rfl rfl rfl (PV.pickF rfl rfl) ?_
    refine WL.mv rfl rfl ?_
    refine WL.skip rfl rfl rfl rfl rfl ?_
    refine WL.skip rfl rfl rfl rfl rfl ?_
    refine WL.skip rfl rfl rfl rfl rfl ?_
    refine WL.skip rfl rfl rfl rfl rfl ?_
    refine WL.skip rfl rfl rfl rfl rfl ?_
    refine WL.skip rfl rfl rfl rfl rfl ?_
    refine WL.pure rfl rfl rfl (PV.pickF rfl rfl) ?_
    refine WL.mv rfl rfl ?_
    refine WL.skip rfl rfl rfl rfl rfl ?_
    refine WL.skip rfl rfl rfl rfl rfl ?_
    refine WL.skip rfl rfl rfl rfl rfl ?_
    refine WL.skip rfl rfl rfl rfl rfl ?_
    refine WL.skip rfl rfl rfl rfl rfl ?_
    refine WL.skip rfl rfl rfl rfl rfl ?_
    refine WL.pure rfl rfl rfl (PV.pickF rfl rfl) ?_
    refine WL.asg rfl rfl ?_
    refine WL.nilS ?_
    refine CW.ret ?_
    refine RQ.r1 rfl ?_
    refine ⟨?_, hB⟩
    first | exact bD ⟨fun h => ⟨by omega, by omega, by omega, by omega, by omega, by assumption, by assumption⟩, fun h => h.2.2.2.2.1⟩ | exact bF (by rintro ⟨h1, h2, h3, h4, h5, h6, h7⟩; first | omega | (simp_all; done))
  try simp only [nq] at hc3
  refine WL.pureG rfl rfl rfl rfl rfl (PV.fieldAddr T.fl36_2 rfl hb1.cells) ?_
  refine WL.pureG rfl rfl rfl rfl rfl (PV.load1 T.na22 rfl hb1.cells (Ext.refl _) rfl) ?_
  refine WL.pureG rfl rfl rfl rfl rfl (PV.fieldAddr T.fl36_0 rfl hb1.cells) ?_
  refine WL.pureG rfl rfl rfl rfl rfl (PV.load1 T.na2 rfl hb1.cells (Ext.refl _) rfl) ?_
  refine WL.pureG rfl rfl rfl rfl rfl (PV.sub rfl rfl (by constructor <;> omega)) ?_
  refine WL.opG rfl rfl rfl (OpK.callR rfl T.cf105 rfl (c_impl_areWithin (by first | assumption | exact Rd.up (by assumption) hB | exact Osl.rd (by assumption) | exact Osn.rdR (by assumption) | exact NL.rd (by assumption) | exact rdII (by assumption) (by assumption) | exact Inn.rd (by assumption) (by omega))) (fun w4 hXw4 => ?_))
  have hB := hB.trans hXw4
  have hb1 := hb1.up hXw4
  refine WL.pure rfl rfl rfl (PV.pickT rfl rfl) ?_
  refine WL.mv rfl rfl ?_
  refine WL.split (t := 27) rfl (fun hc4 => ?_) (fun hc4 => ?_)
  rotate_left
  · skip
    try simp only [nq] at hc4
    refine WL.skip rfl rfl rfl rfl rfl ?_
    refine WL.skip rfl rfl rfl rfl rfl ?_
    refine WL.skip rfl rfl rfl rfl rfl ?_
    refine WL.skip rfl rfl rfl rfl rfl ?_
    refine WL.skip rfl rfl rfl rfl rfl ?_
    refine WL.skip rfl rfl rfl rfl rfl ?_
    refine WL.skip rfl rfl rfl rfl rfl ?_
    refine WL.skip rfl rfl rfl rfl rfl ?_
    refine WL.skip rfl rfl rfl rfl rfl ?_
    refine WL.pure rfl rfl rfl (PV.pickF rfl rfl) ?_
    refine WL.mv rfl rfl ?_
    refine WL.skip rfl rfl rfl rfl rfl ?_
    refine WL.skip rfl rfl rfl rfl rfl ?_
    refine WL.skip rfl rfl rfl rfl rfl ?_
    refine WL.skip rfl rfl rfl rfl rfl ?_
    refine WL.skip rfl rfl rfl rfl rfl ?_
    refine WL.skip rfl rfl rfl rfl rfl ?_
    refine WL.pure rfl rfl rfl (PV.pickF rfl rfl) ?_
    refine WL.mv rfl rfl ?_
    refine WL.skip rfl rfl rfl rfl rfl ?_
    refine WL.skip rfl rfl rfl rfl rfl ?_
    refine WL.skip rfl rfl rfl rfl rfl ?_
    refine WL.skip rfl rfl rfl rfl rfl ?_
    refine WL.skip rfl rfl rfl rfl rfl ?_
    refine WL.skip rfl rfl rfl rfl rfl ?_
    refine WL.pure rfl rfl rfl (PV.pickF rfl rfl) ?_
    refine WL.asg rfl rfl ?_
    refine WL.nilS ?_
    refine CW.ret ?_
    refine RQ.r1 rfl ?_
    refine ⟨?_, hB⟩
    first | exact bD ⟨fun h => ⟨by omega, by omega, by omega, by omega, by omega, by assumption, by assumption⟩, fun h => h.2.2.2.2.1⟩ | exact bF (by rintro ⟨h1, h2, h3, h4, h5, h6, h7⟩; first | omega | (simp_all; done))
  try simp only [nq] at hc4
  refine WL.pureG rfl rfl rfl rfl rfl (PV.fieldAddr T.fl36_3 rfl hb1.cells) ?_
  refine WL.pureG rfl rfl rfl rfl rfl (PV.load1 T.na22 rfl hb1.cells (Ext.refl _) rfl) ?_
  refine WL.pureG rfl rfl rfl rfl rfl ((by first | exact PV.len rfl (by assumption) T.sl22 | exact PV.lenOs rfl (by assumption) T.sl22 | exact PV.len rfl (NL.rd (by assumption)) T.sl22 | exact PV.len rfl (Inn.rd (by assumption) (by omega)) T.sl22)) ?_
  refine WL.pureG rfl rfl rfl rfl rfl (PV.fieldAddr T.fl36_0 rfl hb1.cells) ?_
  refine WL.pureG rfl rfl rfl rfl rfl (PV.load1 T.na2 rfl hb1.cells (Ext.refl _) rfl) ?_
  refine WL.pureG rfl rfl rfl rfl rfl (PV.fieldAddr T.fl36_0 rfl hb1.cells) ?_
  refine WL.pureG rfl rfl rfl rfl rfl (PV.load1 T.na2 rfl hb1.cells (Ext.refl _) rfl) ?_
  refine WL.pureG rfl rfl rfl rfl rfl (PV.mul rfl rfl (by constructor <;> (have hsq := sq16 (s := a0) (by omega); omega))) ?_
  refine WL.pureG rfl rfl rfl rfl rfl (PV.eql rfl rfl) ?_
  refine WL.pure rfl rfl rfl (PV.pickT rfl rfl) ?_
  refine WL.mv rfl rfl ?_
  refine WL.split (t := 38) rfl (fun hc5 => ?_) (fun hc5 => ?_)
  rotate_left
  · skip
    try simp only [nq] at hc5
    refine WL.skip rfl rfl rfl rfl rfl ?_
    refine WL.skip rfl rfl rfl rfl rfl ?_
    refine WL.skip rfl rfl rfl rfl rfl ?_
    refine WL.skip rfl rfl rfl rfl rfl ?_
    refine WL.skip rfl rfl rfl rfl rfl ?_
    refine WL.skip rfl rfl rfl rfl rfl ?_
    refine WL.pure rfl rfl rfl (PV.pickF rfl rfl) ?_
    refine WL.mv rfl rfl ?_
    refine WL.skip rfl rfl rfl rfl rfl ?_
    refine WL.skip rfl rfl rfl rfl rfl ?_
    refine WL.skip rfl rfl rfl rfl rfl ?_
    refine WL.skip rfl rfl rfl rfl rfl ?_
    refine WL.skip rfl rfl rfl rfl rfl ?_
    refine WL.skip rfl rfl rfl rfl rfl ?_
    refine WL.pure rfl rfl rfl (PV.pickF rfl rfl) ?_
    refine WL.asg rfl rfl ?_
    refine WL.nilS ?_
    refine CW.ret ?_
    refine RQ.r1 rfl ?_
    refine ⟨?_, hB⟩
    first | exact bD ⟨fun h => ⟨by omega, by omega, by omega, by omega, by omega, by assumption, by assumption⟩, fun h => h.2.2.2.2.1⟩ | exact bF (by rintro ⟨h1, h2, h3, h4, h5, h6, h7⟩; first | omega | (simp_all; done))
  try simp only [nq] at hc5
  refine WL.pureG rfl rfl rfl rfl rfl (PV.fieldAddr T.fl36_3 rfl hb1.cells) ?_
  refine WL.pureG rfl rfl rfl rfl rfl (PV.load1 T.na22 rfl hb1.cells (Ext.refl _) rfl) ?_
  refine WL.pureG rfl rfl rfl rfl rfl (PV.fieldAddr T.fl36_0 rfl hb1.cells) ?_
  refine WL.pureG rfl rfl rfl rfl rfl (PV.load1 T.na2 rfl hb1.cells (Ext.refl _) rfl) ?_
  refine WL.pureG rfl rfl rfl rfl rfl (PV.sub rfl rfl (by constructor <;> omega)) ?_
  refine WL.opG rfl rfl rfl (OpK.callR rfl T.cf105 rfl (c_impl_areWithin (by first | assumption | exact Rd.up (by assumption) hB | exact Osl.rd (by assumption) | exact Osn.rdR (by assumption) | exact NL.rd (by assumption) | exact rdII (by assumption) (by assumption) | exact Inn.rd (by assumption) (by omega))) (fun w5 hXw5 => ?_))
  have hB := hB.trans hXw5
  have hb1 := hb1.up hXw5
  refine WL.pure rfl rfl rfl (PV.pickT rfl rfl) ?_
  refine WL.mv rfl rfl ?_
  refine WL.split (t := 46) rfl (fun hc6 => ?_) (fun hc6 => ?_)
  rotate_left
  · skip
    try simp only [nq] at hc6
    refine WL.skip rfl rfl rfl rfl rfl ?_
    refine WL.skip rfl rfl rfl rfl rfl ?_
    refine WL.skip rfl rfl rfl rfl rfl ?_
    refine WL.skip rfl rfl rfl rfl rfl ?_
    refine WL.skip rfl rfl rfl rfl rfl ?_
    refine WL.skip rfl rfl rfl rfl rfl ?_
    refine WL.pure rfl rfl rfl (PV.pickF rfl rfl) ?_
    refine WL.asg rfl rfl ?_
    refine WL.nilS ?_
    refine CW.ret ?_
    refine RQ.r1 rfl ?_
    refine ⟨?_, hB⟩
    first | exact bD ⟨fun h => ⟨by omega, by omega, by omega, by omega, by omega, by assumption, by assumption⟩, fun h => h.2.2.2.2.1⟩ | exact bF (by rintro ⟨h1, h2, h3, h4, h5, h6, h7⟩; first | omega | (simp_all; done))
  try simp only [nq] at hc6
  refine WL.pureG rfl rfl rfl rfl rfl (PV.fieldAddr T.fl36_4 rfl hb1.cells) ?_
  refine WL.pureG rfl rfl rfl rfl rfl (PV.load1 T.na31 rfl hb1.cells (Ext.refl _) rfl) ?_
  refine WL.pureG rfl rfl rfl rfl rfl ((by first | exact PV.len rfl (by assumption) T.sl31 | exact PV.lenOs rfl (by assumption) T.sl31 | exact PV.len rfl (NL.rd (by assumption)) T.sl31 | exact PV.len rfl (Inn.rd (by assumption) (by omega)) T.sl31)) ?_
  refine WL.pureG rfl rfl rfl rfl rfl (PV.fieldAddr T.fl36_0 rfl hb1.cells) ?_
  refine WL.pureG rfl rfl rfl rfl rfl (PV.load1 T.na2 rfl hb1.cells (Ext.refl _) rfl) ?_
  refine WL.pureG rfl rfl rfl rfl rfl (PV.eql rfl rfl) ?_
  refine WL.pure rfl rfl rfl (PV.pickT rfl rfl) ?_
  refine WL.asg rfl rfl ?_
  refine WL.nilS ?_
  refine CW.ret ?_
  refine RQ.r1 rfl ?_
  refine ⟨?_, hB⟩
  first | exact bD ⟨fun h => ⟨by omega, by omega, by omega, by omega, by omega, by assumption, by assumption⟩, fun h => h.2.2.2.2.1⟩ | exact bF (by rintro ⟨h1, h2, h3, h4, h5, h6, h7⟩; first | omega | (simp_all; done))
theorem c_impl_TreeMachine_join {w : World} {a0 : Int} {a1 : Int} {va2 : Value} {xa2 : List Int} {va3 : Value} {xa3 : List Int} {va4 : Value} {xa4 : List Bool} {q r : Int} (ha2 : Rd EI w va2 xa2) (ha3 : Rd EI w va3 xa3) (ha4 : Rd EB w va4 xa4) (h1 : 1 ≤ a0 ∧ a0 ≤ 16) (hq : 0 ≤ q ∧ q < a0) (hr : 0 ≤ r ∧ r < a0) (hn : (xa3.length : Int) = a0 * a0) : Calls Try.prog 70 #[.agg #[.int .i64 a0, .int .i64 a1, va2, va3, va4], .int .i64 q, .int .i64 r] w (Ret1 (RQt (.int .i64 (xa3.getD (q * a0 + r).toNat 0)) w)) := by
  have hB : Ext w w := Ext.refl w
  have hla2 := ha2.leI; have hla3 := ha3.leI; have hla4 := ha4.leI; have hix := sq_idx h1 hq hr hn
  refine callsOf (vs := [_, _, _]) Try.func70 rfl Try.ntmps70 rfl rfl ?_
  refine CW.seq ?_
  refine CW.reg ?_
  refine WL.op rfl (OpK.box rfl rfl (by first | exact Rd.cells1 (by assumption) | exact Osl.cells1 (by assumption) | exact Osn.cells1 (by assumption) | exact Rd.cells1 (NL.rd (by assumption)) | exact Inn.cell1 (by assumption) (by omega) | assumption | rfl) (fun b1 w1 hXw1 hb1 hge1 => ?_))
  have hl1 := Lo.new hB hge1
  have hB := hB.trans hXw1
  refine WL.asg rfl rfl ?_
  refine WL.nilS ?_
  refine CW.seq ?_
  refine CW.reg ?_
  refine WL.pure rfl rfl rfl (PV.fieldAddr T.fl36_3 rfl hb1.cells) ?_
  refine WL.pure rfl rfl rfl (PV.load1 T.na22 rfl hb1.cells (Ext.refl _) rfl) ?_
  refine WL.mv rfl rfl ?_
  refine WL.pure rfl rfl rfl (PV.fieldAddr T.fl36_0 rfl hb1.cells) ?_
  refine WL.pure rfl rfl rfl (PV.load1 T.na2 rfl hb1.cells (Ext.refl _) rfl) ?_
  refine WL.pure rfl rfl rfl (PV.mul rfl rfl (by constructor <;> omega)) ?_
  refine WL.mv rfl rfl ?_
  refine WL.pure rfl rfl rfl (PV.add rfl rfl (by constructor <;> omega)) ?_
  first
    | refine WL.at (x := .tmp 8) (y := .tmp 14) (E := EI) (0) rfl rfl (by first | assumption | exact Inn.rd (by assumption) (by omega)) (by omega) (fun p1 csp1 hpp1 hcp1 hq => ?_)
    | refine WL.atZ (x := .tmp 8) (y := .tmp 14) (E := EI) (0) rfl rfl (by first | assumption | exact Inn.rd (by assumption) (by omega)) (by omega) (fun p1 csp1 hpp1 hzp1 hcp1 hq => ?_)
  cases hq
  refine WL.pure rfl rfl rfl ((by first | exact PV.indexAddr hpp1 rfl rfl T.sl22 | exact PV.indexAddr hpp1 rfl (by rw [← hzp1]; rfl) T.sl22)) ?_
  refine WL.pure rfl rfl rfl ((by first | exact PV.load0 T.na2 rfl (by first | exact Cells.up (by assumption) hB | exact Bx.cells (by assumption) | assumption) (Ext.refl _) rfl | exact PV.load1 T.na2 rfl (by first | exact Cells.up (by assumption) hB | exact Bx.cells (by assumption) | assumption) (Ext.refl _) rfl)) ?_
  refine WL.asg rfl rfl ?_
  refine WL.nilS ?_
  refine CW.ret ?_
  refine RQ.r1 rfl ?_
  refine ⟨?_, hB⟩
  first | rfl | exact bT (by omega) | exact bF (by omega) | exact bD (by omega) | exact iE (by omega) | (simp_all; done) | (simp_all; omega) | (simp_all; intros; omega)
theorem c_impl_TreeMachine_find_1_1 {w : World} {f0 f1 f2 f3 : Int} {g0 g1 g2 g3 : Int} {pf : Addr} (hpf : Cells w pf [.int .i64 f0, .int .i64 f1, .int .i64 f2, .int .i64 f3]) : Calls Try.prog 108 #[.agg #[.int .i64 g0, .int .i64 g1, .int .i64 g2, .int .i64 g3], .pointer (some pf)] w (Ret1 (RQt (.bool (decide (g0 = f0))) w)) := by
  have hB : Ext w w := Ext.refl w
  refine callsOf (vs := [_, _]) Try.func108 rfl Try.ntmps108 rfl rfl ?_
  refine CW.seq ?_
  refine CW.reg ?_
  refine WL.op rfl (OpK.box rfl rfl (by first | exact Rd.cells1 (by assumption) | exact Osl.cells1 (by assumption) | exact Osn.cells1 (by assumption) | exact Rd.cells1 (NL.rd (by assumption)) | exact Inn.cell1 (by assumption) (by omega) | assumption | rfl) (fun b1 w1 hXw1 hb1 hge1 => ?_))
  have hl1 := Lo.new hB hge1
  have hB := hB.trans hXw1
  refine WL.asg rfl rfl ?_
  refine WL.nilS ?_
  refine CW.seq ?_
  refine CW.reg ?_
  refine WL.pure rfl rfl rfl (PV.fieldAddr T.fl91_0 rfl hb1.cells) ?_
  refine WL.pure rfl rfl rfl (PV.load1 T.na2 rfl hb1.cells (Ext.refl _) rfl) ?_
  refine WL.pure rfl rfl rfl ((by first | exact PV.fieldAddr T.fl91_0 rfl (by first | assumption | exact Bx.cells (by assumption)) | exact PV.fieldAddrP T.fl91_0 rfl rfl)) ?_
  refine WL.pure rfl rfl rfl ((by first | exact PV.load0 T.na2 rfl (by first | exact Cells.up (by assumption) hB | exact Bx.cells (by assumption) | assumption) (Ext.refl _) rfl | exact PV.load1 T.na2 rfl (by first | exact Cells.up (by assumption) hB | exact Bx.cells (by assumption) | assumption) (Ext.refl _) rfl)) ?_
  refine WL.pure rfl rfl rfl (PV.eql rfl rfl) ?_
  refine WL.asg rfl rfl ?_
  refine WL.nilS ?_
  refine CW.ret ?_
  refine RQ.r1 rfl ?_
  refine ⟨?_, hB⟩
  rfl
theorem c_slices_IndexFunc_impl_found_impl_found {w : World} {f0 f1 f2 f3 : Int} {pf : Addr} {va : Value} {xs : List R4} (ha : Rd ER w va xs) (hpf : Cells w pf [.int .i64 f0, .int .i64 f1, .int .i64 f2, .int .i64 f3]) : Calls Try.prog 123 #[va, .func (.func 108) #[] #[.pointer (some pf)]] w (Ret1 (RQt (.int .i64 (ixS xs f0)) w)) := by
  have hB : Ext w w := Ext.refl w
  have hla := ha.leI
  refine callsOf (vs := [_, _]) Try.func123 rfl Try.ntmps123 rfl rfl ?_
  refine CW.seq ?_
  refine CW.reg ?_
  refine WL.asg rfl rfl ?_
  refine WL.nilS ?_
  refine CW.seq ?_
  refine CW.seq ?_
  refine CW.reg ?_
  refine WL.mv rfl rfl ?_
  refine WL.pure rfl rfl rfl ((by first | exact PV.len rfl (by assumption) T.sl88 | exact PV.lenOs rfl (by assumption) T.sl88 | exact PV.len rfl (NL.rd (by assumption)) T.sl88 | exact PV.len rfl (Inn.rd (by assumption) (by omega)) T.sl88)) ?_
  refine WL.mv rfl rfl ?_
  refine WL.nilS ?_
  refine CW.block ?_
  refine CW.loop (σk := [(0, _), (1, _), (7, _)]) (fun ρ wz m => ∃ (k : Nat), ρ = [(8, .int .i64 (k : Nat))] ∧ m = xs.length - k ∧ UpdL [] w wz ∧ (k ≤ xs.length) ∧ (∀ j : Nat, j < k → rS xs j ≠ f0)) (ρ₀ := [(8, _)]) (m₀ := _) ⟨rfl, rfl, rfl, rfl, trivial⟩ ⟨0, rfl, rfl, (UpdL.refl _ _), (by first | omega | rfl | (simp; done) | assumption | (simp_all; done)), (by intro j h; omega)⟩ ?_
  rintro _ wl1 _ ⟨k, rfl, rfl, hU0, hk, hno⟩
  have hB := hB.loop hU0 trivial
  refine CW.seq ?_
  refine CW.reg ?_
  refine WL.pure rfl rfl rfl (PV.lss rfl rfl) ?_
  refine WL.nilS ?_
  refine CW.seq ?_
  refine CW.cond rfl (fun hc1 => ?_) (fun hc1 => ?_)
  · skip
    try simp only [nq] at hc1
    refine CW.skipS ?_
    refine CW.seq ?_
    refine CW.block ?_
    refine CW.seq ?_
    refine CW.reg ?_
    refine WL.mv rfl rfl ?_
    refine WL.asg rfl rfl ?_
    refine WL.nilS ?_
    refine CW.seq ?_
    refine CW.reg ?_
    refine WL.mv rfl rfl ?_
    refine WL.mv rfl rfl ?_
    refine WL.mv rfl rfl ?_
    first
      | refine WL.at (x := .tmp 12) (y := .tmp 13) (E := ER) ((0, 0, 0, 0)) rfl rfl (by first | assumption | exact Inn.rd (by assumption) (by omega)) (by first | omega | (simp only [List.length_set]; omega) | (simp only [List.length_append, List.length_take, List.length_replicate, List.length_drop]; omega)) (fun p1 csp1 hpp1 hcp1 hq => ?_)
      | refine WL.atZ (x := .tmp 12) (y := .tmp 13) (E := ER) ((0, 0, 0, 0)) rfl rfl (by first | assumption | exact Inn.rd (by assumption) (by omega)) (by first | omega | (simp only [List.length_set]; omega) | (simp only [List.length_append, List.length_take, List.length_replicate, List.length_drop]; omega)) (fun p1 csp1 hpp1 hzp1 hcp1 hq => ?_)
    cases hq
    refine WL.pure rfl rfl rfl ((by first | exact PV.indexAddr hpp1 rfl rfl T.sl88 | exact PV.indexAddr hpp1 rfl (by rw [← hzp1]; rfl) T.sl88)) ?_
    refine WL.pure rfl rfl rfl ((by first | exact PV.loadA T.ag91 rfl (by first | exact Cells.up (by assumption) hB | exact Bx.cells (by assumption) | assumption) (Ext.refl _) rfl | exact PV.loadP (ds := [_, _, _, _]) T.ag91 rfl (by first | exact Cells.up (by assumption) hB | exact Bx.cells (by assumption) | assumption) (Ext.refl _) rfl rfl)) ?_
    refine WL.op rfl (OpK.callV rfl T.cf108 rfl rfl (c_impl_TreeMachine_find_1_1 (by first | exact Bx.cells (by assumption) | exact Cells.up (by assumption) hB | assumption | exact Cells.add (Bx.cells (by assumption)) _ | exact Cells.add (Cells.up (by assumption) hB) _)) (fun w1 hXw1 => ?_))
    have hB := hB.trans hXw1
    have hU0 := hU0.ext hXw1
    refine WL.nilS ?_
    refine CW.cond rfl (fun hc2 => ?_) (fun hc2 => ?_)
    · skip
      try simp only [nq] at hc2
      refine CW.seq ?_
      refine CW.reg ?_
      refine WL.mv rfl rfl ?_
      refine WL.asg rfl rfl ?_
      refine WL.nilS ?_
      refine CW.ret ?_
      refine RQ.block ?_
      refine RQ.then ?_
      refine RQ.then ?_
      refine RQ.block ?_
      refine RQ.then ?_
      refine RQ.r1 rfl ?_
      refine ⟨?_, hB⟩
      exact iE (ixS_hit hno (by omega) (by assumption)).symm
    try simp only [nq] at hc2
    refine CW.skip ?_
    refine NQ.block ?_
    refine NQ.then ?_
    refine CW.reg ?_
    refine WL.pure rfl rfl rfl (PV.add rfl rfl (by constructor <;> omega)) ?_
    refine WL.mv rfl rfl ?_
    refine WL.nil ?_
    refine NQ.next (ρ := [(8, _)]) ⟨rfl, rfl, rfl, rfl, trivial⟩ ?_
    exact ⟨_, ⟨k + 1, rfl, rfl, hU0, (by first | omega | assumption | (simp_all; done) | (simp_all; omega)), (by intro j h; rcases Nat.lt_succ_iff_lt_or_eq.1 h with h | rfl; exact hno j h; assumption)⟩, by omega⟩
  try simp only [nq] at hc1
  refine CW.exit ?_
  refine XQ.then ?_
  refine XQ.then ?_
  refine XQ.here ?_
  refine NQ.then ?_
  refine CW.seq ?_
  refine CW.reg ?_
  refine WL.asg rfl rfl ?_
  refine WL.nilS ?_
  refine CW.ret ?_
  refine RQ.r1 rfl ?_
  refine ⟨?_, hB⟩
  exact iE (ixS_no hno (by omega)).symm
theorem c_slices_ContainsFunc_impl_found_impl_found {w : World} {f0 f1 f2 f3 : Int} {pf : Addr} {va : Value} {xs : List R4} (ha : Rd ER w va xs) (hpf : Cells w pf [.int .i64 f0, .int .i64 f1, .int .i64 f2, .int .i64 f3]) : Calls Try.prog 107 #[va, .func (.func 108) #[] #[.pointer (some pf)]] w (Ret1 (RQt (.bool (hasS xs f0)) w)) := by
  have hB : Ext w w := Ext.refl w
  have hla := ha.leI
  refine callsOf (vs := [_, _]) Try.func107 rfl Try.ntmps107 rfl rfl ?_
  refine CW.seq ?_
  refine CW.reg ?_
  refine WL.asg rfl rfl ?_
  refine WL.nilS ?_
  refine CW.seq ?_
  refine CW.reg ?_
  refine WL.mv rfl rfl ?_
  refine WL.mv rfl rfl ?_
  refine WL.op rfl (OpK.callR rfl T.cf123 rfl (c_slices_IndexFunc_impl_found_impl_found (by first | assumption | exact Rd.up (by assumption) hB | exact Osl.rd (by assumption) | exact Osn.rdR (by assumption) | exact NL.rd (by assumption) | exact rdII (by assumption) (by assumption) | exact Inn.rd (by assumption) (by omega)) (by first | exact Bx.cells (by assumption) | exact Cells.up (by assumption) hB | assumption | exact Cells.add (Bx.cells (by assumption)) _ | exact Cells.add (Cells.up (by assumption) hB) _)) (fun w1 hXw1 => ?_))
  have hB := hB.trans hXw1
  refine WL.pure rfl rfl rfl (PV.geq rfl rfl) ?_
  refine WL.asg rfl rfl ?_
  refine WL.nilS ?_
  refine CW.ret ?_
  refine RQ.r1 rfl ?_
  refine ⟨?_, hB⟩
  exact bE ixS_pos
theorem c_impl_TreeMachine_find_1 {w : World} {b : World} {vl : Value} {og : Option Nat} {f0 f1 f2 f3 : Int} {pl : Addr} {xs : List R4} (hB0 : Ext b w) (hmb : Bx w pl [vl]) (hmbl : Lo b (some pl.block)) (hmo : Osn 4 gR w og vl (xs)) (hmol : Lo b og) (hmd : Dj (some pl.block) og) (hN : xs.length ≤ 1000) : Calls Try.prog 106 #[.agg #[.int .i64 f0, .int .i64 f1, .int .i64 f2, .int .i64 f3], .pointer (some pl)] w (Ret1 (fun v w' => v = .tuple #[] ∧ UpdL [some pl.block, og] w w' ∧ ∃ v9 og9, Bx w' pl [v9] ∧ Osn 4 gR w' og9 v9 (putF xs (f0, f1, f2, f3)) ∧ OgR w og og9 ∧ Dj (some pl.block) og9)) := by
  have hB := hB0
  have hlo := hmo.leI
  refine callsOf (vs := [_, _]) Try.func106 rfl Try.ntmps106 rfl rfl ?_
  have hUB : UpdL [some pl.block, og] w w := UpdL.refl _ _
  have hb1 := hmb; have hl1 := hmbl; have ho2 := hmo; have hl2 := hmol; have hd1_2 := hmd
  have hkB_1 : OkB [some pl.block, og] w (some pl.block) := OkB.mem (by simp)
  have hgB_1 := OgR.refl w (some pl.block)
  have hkB_2 : OkB [some pl.block, og] w og := OkB.mem (by simp)
  have hgB_2 := OgR.refl w og
  refine CW.seq ?_
  refine CW.reg ?_
  refine WL.op rfl (OpK.box rfl rfl (by first | exact Rd.cells1 (by assumption) | exact Osl.cells1 (by assumption) | exact Osn.cells1 (by assumption) | exact Rd.cells1 (NL.rd (by assumption)) | exact Inn.cell1 (by assumption) (by omega) | assumption | rfl) (fun b3 w1 hXw1 hb3 hge3 => ?_))
  have hl3 := Lo.new hB hge3
  have hd1_3 := Dj.new hb1.ltO hge3
  have hd2_3 := Dj.new ho2.ltO hge3
  have hkB_3 := OkN.new hUB hge3
  have hgB_3 := OgR.new hUB.size hge3
  have hB := hB.trans hXw1
  have hb1 := hb1.up hXw1
  have ho2 := ho2.up hXw1
  have hUB := hUB.ext hXw1
  refine WL.nilS ?_
  refine CW.seq ?_
  refine CW.reg ?_
  refine WL.pure rfl rfl rfl (PV.load0 T.na88 rfl hb1.cells (Ext.refl _) rfl) ?_
  refine WL.pure rfl rfl rfl (PV.makeFunc (fs := []) (cs := [.tmp 2]) rfl rfl) ?_
  refine WL.op rfl (OpK.callR rfl T.cf107 rfl (c_slices_ContainsFunc_impl_found_impl_found (Osn.rdR ho2) (by first | exact Bx.cells (by assumption) | exact Cells.up (by assumption) hB | assumption | exact Cells.add (Bx.cells (by assumption)) _ | exact Cells.add (Cells.up (by assumption) hB) _)) (fun w2 hXw2 => ?_))
  have hB := hB.trans hXw2
  have hb1 := hb1.up hXw2
  have ho2 := ho2.up hXw2
  have hb3 := hb3.up hXw2
  have hUB := hUB.ext hXw2
  refine WL.pure rfl rfl rfl (PV.not rfl) ?_
  refine WL.nilS ?_
  refine CW.cond rfl (fun hc1 => ?_) (fun hc1 => ?_)
  · skip
    try simp only [nq] at hc1
    refine CW.reg ?_
    refine WL.pure rfl rfl rfl (PV.load0 T.na88 rfl hb1.cells (Ext.refl _) rfl) ?_
    refine WL.pure rfl rfl rfl (PV.loadA T.ag91 rfl hb3.cells (Ext.refl _) rfl) ?_
    refine WL.op rfl (OpK.build4 (os := [.tmp 8]) rfl T.sl88 rfl rfl T.zv91 rfl rfl (fun v4 g4 w3 hXw3 ho4 hge4 => ?_))
    have hl4 := Lo.new hB hge4
    have hd1_4 := Dj.new hb1.ltO hge4
    have hd2_4 := Dj.new ho2.ltO hge4
    have hd3_4 := Dj.new hb3.ltO hge4
    have hkB_4 := OkN.new hUB hge4
    have hgB_4 := OgR.new hUB.size hge4
    have hB := hB.trans hXw3
    have hb1 := hb1.up hXw3
    have ho2 := ho2.up hXw3
    have hb3 := hb3.up hXw3
    have hUB := hUB.ext hXw3
    refine WL.op rfl (OpK.appendN (g := gR) rfl T.sl88 T.zv91 rfl rfl ho2 rfl (Osn.src ho4) (by first | (simp only [List.length_cons, List.length_nil]; omega) | (simp_all; omega)) (fun v5 og5 w4 hXw4 ho5 hap5 => ?_))
    have hl5 := Lo.app hl2 hB hap5
    have hd1_5 := Dj.app hd1_2 hb1.ltO hap5
    have hd3_5 := Dj.app (Dj.symm hd2_3) hb3.ltO hap5
    have hd4_5 := Dj.app (Dj.symm hd2_4) ho4.ltO hap5
    have hkB_5 := OkN.app hUB hkB_2 hap5
    have hgB_5 := OgR.app hgB_2 hUB.size hap5
    have hB := hB.updL hXw4 hl2
    have hb1 := hb1.updD hXw4 hd1_2
    have hb3 := hb3.updD hXw4 (Dj.symm hd2_3)
    have ho4 := ho4.updD hXw4 (Dj.symm hd2_4)
    have hUB := hUB.step hXw4 hkB_2
    refine WL.op rfl (OpK.storeB0 T.sz88 rfl rfl (by first | rfl | exact Inn.one1 (by assumption) (by omega) | exact Osl.oneCell (by assumption) | exact Osn.oneCell (by assumption) | exact Rd.oneCell (by assumption) | exact Rd.oneCell (NL.rd (by assumption)) | assumption) hb1 (fun w5 hXw5 hb1 => ?_))
    have hB := hB.updL hXw5 hl1
    have hb3 := hb3.updD hXw5 (Dj.symm hd1_3)
    have ho4 := ho4.updD hXw5 (Dj.symm hd1_4)
    have ho5 := ho5.updD hXw5 (Dj.symm hd1_5)
    have hUB := hUB.step hXw5 hkB_1
    refine WL.nil ?_
    refine NQ.r0 ?_
    refine ⟨?_, hUB, _, _, hb1, osnE ho5 ?_, hgB_5, hd1_5⟩
    · skip
      rfl
    · skip
      first | exact (putF_has (by assumption)).symm | exact (putF_new (by assumption)).symm
  try simp only [nq] at hc1
  refine CW.skip ?_
  refine NQ.r0 ?_
  refine ⟨?_, hUB, _, _, hb1, osnE ho2 ?_, hgB_2, hd1_2⟩
  · skip
    rfl
  · skip
    first | exact (putF_has (by assumption)).symm | exact (putF_new (by assumption)).symm

end Go.Proofs.Ytfnmkcncofjjkaa
