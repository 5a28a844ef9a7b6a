/- Walks of the functions that the law FnExactOutputsOf reaches: each says what its function computes. No condition. -/
import Derived.Test.YthjeebjgdeldkaaProg
import Derived.Test.YthjeebjgdeldkaaLibM
import Derived.Test.YthjeebjgdeldkaaPlA
import Derived.Test.YthjeebjgdeldkaaPlG
import Derived.Test.YthjeebjgdeldkaaPlS
import Derived.Test.YthjeebjgdeldkaaLibMp
import Derived.Test.YthjeebjgdeldkaaPlRd
import Derived.Test.YthjeebjgdeldkaaLibV
import Derived.Test.YthjeebjgdeldkaaLibW
import Derived.Test.YthjeebjgdeldkaaPlI2
import Derived.Test.YthjeebjgdeldkaaWFnExactOutputsOfa
namespace Go.Proofs.Ythjeebjgdeldkaa
open Go Go.WX Go.Proofs
set_option linter.unusedSimpArgs false
set_option linter.unusedVariables false

set_option maxHeartbeats 4000000 in
theorem c_spec_l05Reads {w : World} {pa : Addr} {a0 : Int} {a1 : Int} {va2 : Value} {xa2 : List R4} {va3 : Value} {xa3 : List Bool} {vi vo : Value} {ins outs : List Int}  (hba : Cells w pa [.int .i64 a0, .int .i64 a1, va2, va3]) (ha2 : Rd ER w va2 xa2) (ha3 : Rd EB w va3 xa3) (hi : Rd EI w vi ins) (ho : Rd EI w vo outs) (hv : sidedV a0 a1 xa2 xa3) (hi12 : ins.length ≤ 12) (ho12 : outs.length ≤ 12) : Calls Try.prog 76 #[.pointer (some pa), vi, vo] w (Ret1 (RQt (.bool (rdB xa2 ins outs xa3)) w)) := by
  have hB : Ext w w := Ext.refl w
  have hla2 := ha2.leI; have hla3 := ha3.leI; have hli := hi.leI; have hlo := ho.leI; have hv8 := hv.1; have hvn := hv.2.2.1; have hve := hv.2.2.2.1; have hva := hv.2.2.2.2
  refine callsOf (vs := [_, _, _]) Try.func76 rfl Try.ntmps76 rfl rfl ?_
  refine CW.seq ?_
  refine CW.reg ?_
  refine WL.pure rfl rfl rfl (PV.assign rfl) ?_
  refine WL.nilS ?_
  refine CW.seq ?_
  refine CW.reg ?_
  refine WL.pure rfl rfl rfl (PV.move rfl) ?_
  refine WL.pure rfl rfl rfl ((by first | exact PV.len rfl (by assumption) T.sl26 | exact PV.lenOs rfl (by assumption) T.sl26 | exact PV.len rfl (NL.rd (by assumption)) T.sl26 | exact PV.len rfl (Inn.rd (by assumption) (by omega)) T.sl26)) ?_
  refine WL.pure rfl rfl rfl (PV.add rfl rfl (by constructor <;> omega)) ?_
  refine WL.pure rfl rfl rfl (PV.assign rfl) ?_
  refine WL.nilS ?_
  refine CW.seq ?_
  refine CW.reg ?_
  refine WL.pure rfl rfl rfl (PV.move rfl) ?_
  refine WL.pure rfl rfl rfl ((by first | exact PV.len rfl (by assumption) T.sl26 | exact PV.lenOs rfl (by assumption) T.sl26 | exact PV.len rfl (NL.rd (by assumption)) T.sl26 | exact PV.len rfl (Inn.rd (by assumption) (by omega)) T.sl26)) ?_
  refine WL.pure rfl rfl rfl (PV.add rfl rfl (by constructor <;> omega)) ?_
  refine WL.pure rfl rfl rfl (PV.move rfl) ?_
  refine WL.pure rfl rfl rfl (PV.mul rfl rfl (by have h9 := mul_rng (x := (ins.length : Int) + 1) (y := (outs.length : Int) + 1) (m := 13) (n := 13) (by omega) (by omega); exact ⟨by omega, by omega⟩)) ?_
  refine WL.pure rfl rfl rfl (PV.assign rfl) ?_
  refine WL.nilS ?_
  refine CW.seq ?_
  refine CW.reg ?_
  obtain ⟨W, hW⟩ : ∃ W, W = (outs.length : Int) + 1 := ⟨_, rfl⟩; obtain ⟨C, hC⟩ : ∃ C, C = ((ins.length : Int) + 1) * ((outs.length : Int) + 1) := ⟨_, rfl⟩; rw [← hC, ← hW]; rw [← hW] at hC; have hC9 := mul_rng (x := (ins.length : Int) + 1) (y := W) (m := 13) (n := 13) (by omega) (by omega); rw [← hC] at hC9; have hSC := mul_rng (x := a0) (y := C) (m := 8) (n := 169) (by omega) (by omega); have hz9 := (cod_rng hW hC (show InR ins outs a0 z3 from ⟨by simp only; omega, by simp only; omega, by simp only; omega⟩)); have hC1 : 1 ≤ C := (by have := hz9.1; simp only at this; omega); have hSC1 : 1 ≤ a0 * C := (by have := hz9.2; omega)
  refine WL.pure rfl rfl rfl (PV.move rfl) ?_
  refine WL.pure rfl rfl rfl (PV.nilCheck rfl) ?_
  refine WL.pure rfl rfl rfl ((by first | exact PV.fieldAddr T.fl33_0 rfl (by first | assumption | exact Bx.cells (by assumption)) | exact PV.fieldAddrP T.fl33_0 rfl rfl)) ?_
  refine WL.pure rfl rfl rfl ((by first | exact PV.load0 T.na2 rfl (by first | exact Cells.up (by assumption) hB | exact Bx.cells (by assumption) | assumption) (Ext.refl _) rfl | exact PV.load1 T.na2 rfl (by first | exact Cells.up (by assumption) hB | exact Bx.cells (by assumption) | assumption) (Ext.refl _) rfl)) ?_
  refine WL.pure rfl rfl rfl (PV.move rfl) ?_
  refine WL.pure rfl rfl rfl (PV.mul rfl rfl (by constructor <;> omega)) ?_
  first
    | refine WL.op rfl (OpK.makeS VB (false) rfl T.sl23 T.zv4 rfl rfl rfl (by constructor <;> omega) (fun v1 g1 w1 hXw1 ho1 hge1 => ?_))
    | refine WL.op rfl (OpK.makeSZ VB (false) rfl T.sl23 T.zv4 rfl rfl rfl (by omega) (by constructor <;> omega) (fun v1 g1 w1 hXw1 ho1 hge1 => ?_))
  have hl1 := Lo.new hB hge1
  have hB := hB.trans hXw1
  refine WL.pure rfl rfl rfl (PV.assign rfl) ?_
  refine WL.nilS ?_
  refine CW.seq ?_
  refine CW.reg ?_
  refine WL.op rfl (OpK.buildS VI (os := [.const (.int .i64 0)]) [_] rfl T.sl128 rfl rfl T.zv3 rfl (by intro z hz; first | rfl | (simp only [List.mem_cons, List.not_mem_nil, or_false] at hz; subst hz; exact (by first | exact Rd.cells1 (by assumption) | exact Osl.cells1 (by assumption) | exact Osn.cells1 (by assumption) | exact Rd.cells1 (NL.rd (by assumption)) | exact Inn.cell1 (by assumption) (by omega) | rfl))) rfl (fun v2 g2 w2 hXw2 ho2 hge2 => ?_))
  have hl2 := Lo.new hB hge2
  have hd1_2 := Dj.new ho1.ltO hge2
  have hB := hB.trans hXw2
  have ho1 := ho1.up hXw2
  refine WL.pure rfl rfl rfl (PV.assign rfl) ?_
  refine WL.nilS ?_
  refine CW.seq ?_
  refine CW.reg ?_
  refine WL.pure rfl rfl rfl (PV.move rfl) ?_
  first
    | refine WL.atO (x := .tmp 36) (y := .const (.int .i64 0)) (f := VB) (false) rfl rfl ho1 (by first | omega | (simp only [List.length_set]; omega) | (simp only [List.length_append, List.length_take, List.length_replicate, List.length_drop]; omega)) (fun p1 hpp1 hcp1 => ?_)
    | refine WL.atOZ (x := .tmp 36) (y := .const (.int .i64 0)) (f := VB) (false) rfl rfl ho1 (by first | omega | (simp only [List.length_set]; omega) | (simp only [List.length_append, List.length_take, List.length_replicate, List.length_drop]; omega)) (fun p1 hpp1 hzp1 hcp1 => ?_)
  refine WL.pure rfl rfl rfl ((by first | exact PV.indexAddr hpp1 rfl rfl T.sl23 | exact PV.indexAddr hpp1 rfl (by rw [← hzp1]; rfl) T.sl23)) ?_
  refine WL.op rfl (OpK.storeS VB T.sz4 rfl rfl rfl hpp1 ho1 (fun w3 hXw3 ho1 => ?_))
  have hB := hB.updL hXw3 hl1
  have ho2 := ho2.updD hXw3 (Dj.symm hd1_2)
  refine WL.nilS ?_
  refine CW.seq ?_
  refine CW.seq ?_
  refine CW.reg ?_
  refine WL.pure rfl rfl rfl (PV.assign rfl) ?_
  refine WL.nilS ?_
  refine CW.block ?_
  have hlt1 := ho1.ltO
  have hlt2 := ho2.ltO
  refine CW.loop (σk := [(0, _), (1, _), (2, _), (7, _), (8, _), (9, _)]) (fun ρ wz m => ∃ (v3 : Value) (og3 : Option Nat) (at_ : Nat) (ps : List P3) (sn : List Bool), ρ = [(10, v3), (11, .int .i64 (at_ : Nat))] ∧ m = 1352 - at_ ∧ UpdL [(some g2), (some g1)] w3 wz ∧ Osl VI wz og3 v3 (ps.map (codP W C)) ∧ OgR w3 (some g2) og3 ∧ Osl VB wz (some g1) v1 (sn) ∧ (BI xa2 ins outs xa3 at_ ps) ∧ (SN ins outs a0 W C sn ps)) (ρ₀ := [(10, _), (11, _)]) (m₀ := _) ⟨rfl, rfl, rfl, rfl, rfl, rfl, rfl, rfl, trivial⟩ ⟨v2, (some g2), 0, [z3], _, rfl, rfl, (UpdL.refl _ _), osE ho2 (by simp [codP]), OgR.refl _ _, osE ho1 (by rfl), (by exact BI.start _ _ _ _), (by exact SN.start hW hC (by omega) (by omega))⟩ ?_
  rintro _ wl1 _ ⟨v3, og3, at_, ps, sn, rfl, rfl, hU0, ho3, ha3, ho1, hBI, hSN⟩
  have hl3 := Lo.ogr hl2 hB ha3
  have hg0_3 := ha3
  have hk0_3 : OkB [(some g2), (some g1)] w3 og3 := OkB.ogr (OkB.mem (by simp)) (Nat.le_refl _) ha3
  have hd1_3 := Dj.ogr hd1_2 hlt1 ha3
  have hk0_1 : OkB [(some g2), (some g1)] w3 (some g1) := OkB.mem (by simp)
  have hB := hB.loop hU0 ⟨hl2, hl1, trivial⟩
  have hsm := hBI.small hv hi12 ho12; have hsl := hSN.1; have hml : (ps.map (codP W C)).length = ps.length := List.length_map _
  refine CW.seq ?_
  refine CW.seq ?_
  refine CW.reg ?_
  refine WL.pure rfl rfl rfl (PV.move rfl) ?_
  refine WL.pure rfl rfl rfl (PV.move rfl) ?_
  refine WL.pure rfl rfl rfl ((PV.lenOs rfl ho3 T.sl128)) ?_
  refine WL.pure rfl rfl rfl (PV.lss rfl rfl) ?_
  refine WL.nilS ?_
  refine CW.cond rfl (fun hc1 => ?_) (fun hc1 => ?_)
  · skip
    try simp only [decide_eq_true_eq, decide_eq_false_iff_not, Bool.not_eq_true', Bool.not_eq_false', Bool.not_eq_eq_eq_not, Bool.not_true, Bool.not_false, Int.not_lt, Int.not_le, Classical.not_not, beq_iff_eq, beq_eq_false_iff_ne] at hc1
    refine CW.skipS ?_
    refine CW.seq ?_
    refine CW.block ?_
    refine CW.seq ?_
    refine CW.reg ?_
    obtain ⟨p, hp⟩ : ∃ p, ps.getD at_ z3 = p := ⟨_, rfl⟩; have hpr : InR ins outs a0 p := (by rw [← hp]; exact hBI.inR hv (by omega)); have hpr1 : 0 ≤ p.1 ∧ p.1 ≤ ins.length := hpr.1; have hpr2 : 0 ≤ p.2.1 ∧ p.2.1 ≤ outs.length := hpr.2.1; have hpr3 : 0 ≤ p.2.2 ∧ p.2.2 ≤ a0 - 1 := hpr.2.2; have hcod : (ps.map (codP W C)).getD at_ 0 = codP W C p := (by rw [mapP_getD (by omega), hp]); have hcr := (cod_rng hW hC hpr).2; have hcr1 := (cod_rng hW hC hpr).1; have hdc := cod_dec hW hC hpr; have hdc1 : (codP W C p).tdiv C = p.2.2 := (by rw [Int.tdiv_eq_ediv_of_nonneg hcr.1]; exact hdc.1); have hdc3 : (p.1 * W + p.2.1).tdiv W = p.1 := (by rw [Int.tdiv_eq_ediv_of_nonneg hcr1.1]; exact hdc.2.2.1)
    refine WL.pure rfl rfl rfl (PV.move rfl) ?_
    refine WL.pure rfl rfl rfl (PV.move rfl) ?_
    first
      | refine WL.atO (x := .tmp 44) (y := .tmp 45) (f := VI) (0) rfl rfl ho3 (by first | omega | (simp only [List.length_set]; omega) | (simp only [List.length_append, List.length_take, List.length_replicate, List.length_drop]; omega)) (fun p2 hpp2 hcp2 => ?_)
      | refine WL.atOZ (x := .tmp 44) (y := .tmp 45) (f := VI) (0) rfl rfl ho3 (by first | omega | (simp only [List.length_set]; omega) | (simp only [List.length_append, List.length_take, List.length_replicate, List.length_drop]; omega)) (fun p2 hpp2 hzp2 hcp2 => ?_)
    refine WL.pure rfl rfl rfl ((by first | exact PV.indexAddr hpp2 rfl rfl T.sl128 | exact PV.indexAddr hpp2 rfl (by rw [← hzp2]; rfl) T.sl128)) ?_
    refine WL.pure rfl rfl rfl ((by first | exact PV.load0 T.na3 rfl (by first | exact Cells.up (by assumption) hB | exact Bx.cells (by assumption) | assumption) (Ext.refl _) rfl | exact PV.load1 T.na3 rfl (by first | exact Cells.up (by assumption) hB | exact Bx.cells (by assumption) | assumption) (Ext.refl _) rfl)) ?_
    rw [hcod]
    refine WL.pure rfl rfl rfl (PV.move rfl) ?_
    refine WL.pure rfl rfl rfl (PV.quoN rfl rfl (by omega)) ?_
    refine WL.pure rfl rfl rfl (PV.assign rfl) ?_
    refine WL.nilS ?_
    refine CW.seq ?_
    refine CW.reg ?_
    rw [hdc1]
    refine WL.pure rfl rfl rfl (PV.move rfl) ?_
    refine WL.pure rfl rfl rfl (PV.move rfl) ?_
    first
      | refine WL.atO (x := .tmp 50) (y := .tmp 51) (f := VI) (0) rfl rfl ho3 (by first | omega | (simp only [List.length_set]; omega) | (simp only [List.length_append, List.length_take, List.length_replicate, List.length_drop]; omega)) (fun p3 hpp3 hcp3 => ?_)
      | refine WL.atOZ (x := .tmp 50) (y := .tmp 51) (f := VI) (0) rfl rfl ho3 (by first | omega | (simp only [List.length_set]; omega) | (simp only [List.length_append, List.length_take, List.length_replicate, List.length_drop]; omega)) (fun p3 hpp3 hzp3 hcp3 => ?_)
    refine WL.pure rfl rfl rfl ((by first | exact PV.indexAddr hpp3 rfl rfl T.sl128 | exact PV.indexAddr hpp3 rfl (by rw [← hzp3]; rfl) T.sl128)) ?_
    refine WL.pure rfl rfl rfl ((by first | exact PV.load0 T.na3 rfl (by first | exact Cells.up (by assumption) hB | exact Bx.cells (by assumption) | assumption) (Ext.refl _) rfl | exact PV.load1 T.na3 rfl (by first | exact Cells.up (by assumption) hB | exact Bx.cells (by assumption) | assumption) (Ext.refl _) rfl)) ?_
    rw [hcod]
    refine WL.pure rfl rfl rfl (PV.move rfl) ?_
    refine WL.pure rfl rfl rfl (PV.rem rfl rfl (by omega) rfl) ?_
    rw [hdc.2.1]
    refine WL.pure rfl rfl rfl (PV.move rfl) ?_
    refine WL.pure rfl rfl rfl (PV.quoN rfl rfl (by omega)) ?_
    refine WL.pure rfl rfl rfl (PV.assign rfl) ?_
    refine WL.nilS ?_
    refine CW.seq ?_
    refine CW.reg ?_
    rw [hdc3]
    refine WL.pure rfl rfl rfl (PV.move rfl) ?_
    refine WL.pure rfl rfl rfl (PV.move rfl) ?_
    first
      | refine WL.atO (x := .tmp 58) (y := .tmp 59) (f := VI) (0) rfl rfl ho3 (by first | omega | (simp only [List.length_set]; omega) | (simp only [List.length_append, List.length_take, List.length_replicate, List.length_drop]; omega)) (fun p4 hpp4 hcp4 => ?_)
      | refine WL.atOZ (x := .tmp 58) (y := .tmp 59) (f := VI) (0) rfl rfl ho3 (by first | omega | (simp only [List.length_set]; omega) | (simp only [List.length_append, List.length_take, List.length_replicate, List.length_drop]; omega)) (fun p4 hpp4 hzp4 hcp4 => ?_)
    refine WL.pure rfl rfl rfl ((by first | exact PV.indexAddr hpp4 rfl rfl T.sl128 | exact PV.indexAddr hpp4 rfl (by rw [← hzp4]; rfl) T.sl128)) ?_
    refine WL.pure rfl rfl rfl ((by first | exact PV.load0 T.na3 rfl (by first | exact Cells.up (by assumption) hB | exact Bx.cells (by assumption) | assumption) (Ext.refl _) rfl | exact PV.load1 T.na3 rfl (by first | exact Cells.up (by assumption) hB | exact Bx.cells (by assumption) | assumption) (Ext.refl _) rfl)) ?_
    rw [hcod]
    refine WL.pure rfl rfl rfl (PV.move rfl) ?_
    refine WL.pure rfl rfl rfl (PV.rem rfl rfl (by omega) rfl) ?_
    refine WL.pure rfl rfl rfl (PV.assign rfl) ?_
    refine WL.nilS ?_
    refine CW.seq ?_
    refine CW.seq ?_
    refine CW.reg ?_
    rw [hdc.2.2.2]
    refine WL.pure rfl rfl rfl (PV.move rfl) ?_
    refine WL.pure rfl rfl rfl (PV.move rfl) ?_
    refine WL.pure rfl rfl rfl ((by first | exact PV.len rfl (by assumption) T.sl26 | exact PV.lenOs rfl (by assumption) T.sl26 | exact PV.len rfl (NL.rd (by assumption)) T.sl26 | exact PV.len rfl (Inn.rd (by assumption) (by omega)) T.sl26)) ?_
    refine WL.pure rfl rfl rfl (PV.eql rfl rfl) ?_
    refine WL.pure rfl rfl rfl (PV.move rfl) ?_
    refine WL.split (t := 68) rfl (fun hc2 => ?_) (fun hc2 => ?_)
    rotate_left
    · skip
      try simp only [decide_eq_true_eq, decide_eq_false_iff_not, Bool.not_eq_true', Bool.not_eq_false', Bool.not_eq_eq_eq_not, Bool.not_true, Bool.not_false, Int.not_lt, Int.not_le, Classical.not_not, beq_iff_eq, beq_eq_false_iff_ne] at hc2
      refine WL.skip rfl rfl rfl rfl rfl ?_
      refine WL.skip rfl rfl rfl rfl rfl ?_
      refine WL.skip rfl rfl rfl rfl rfl ?_
      refine WL.skip rfl rfl rfl rfl rfl ?_
      refine WL.pure rfl rfl rfl (PV.pickF rfl rfl) ?_
      refine WL.pure rfl rfl rfl (PV.move rfl) ?_
      refine WL.skip rfl rfl rfl rfl rfl ?_
      refine WL.skip rfl rfl rfl rfl rfl ?_
      refine WL.skip rfl rfl rfl rfl rfl ?_
      refine WL.skip rfl rfl rfl rfl rfl ?_
      refine WL.skip rfl rfl rfl rfl rfl ?_
      refine WL.skip rfl rfl rfl rfl rfl ?_
      refine WL.skip rfl rfl rfl rfl rfl ?_
      refine WL.pure rfl rfl rfl (PV.pickF rfl rfl) ?_
      refine WL.nilS ?_
      refine CW.condF rfl ?_
      refine CW.skipS ?_
      refine CW.seq ?_
      refine CW.reg ?_
      refine WL.pure rfl rfl rfl (PV.move rfl) ?_
      refine WL.pure rfl rfl rfl (PV.nilCheck rfl) ?_
      refine WL.pure rfl rfl rfl ((by first | exact PV.fieldAddr T.fl33_2 rfl (by first | assumption | exact Bx.cells (by assumption)) | exact PV.fieldAddrP T.fl33_2 rfl rfl)) ?_
      refine WL.pure rfl rfl rfl ((by first | exact PV.load0 T.na31 rfl (by first | exact Cells.up (by assumption) hB | exact Bx.cells (by assumption) | assumption) (Ext.refl _) rfl | exact PV.load1 T.na31 rfl (by first | exact Cells.up (by assumption) hB | exact Bx.cells (by assumption) | assumption) (Ext.refl _) rfl)) ?_
      refine WL.pure rfl rfl rfl ((by first | exact PV.len rfl (by assumption) T.sl31 | exact PV.lenOs rfl (by assumption) T.sl31 | exact PV.len rfl (NL.rd (by assumption)) T.sl31 | exact PV.len rfl (Inn.rd (by assumption) (by omega)) T.sl31)) ?_
      refine WL.pure rfl rfl rfl (PV.move rfl) ?_
      refine WL.nilS ?_
      refine CW.block ?_
      have hlt1 := ho1.ltO
      have hlt3 := ho3.ltO
      refine CW.loop (σk := [(0, _), (1, _), (2, _), (7, _), (8, _), (9, _), (11, _), (12, _), (13, _), (14, _), (87, _)]) (fun ρ wz m => ∃ (v5 : Value) (og5 : Option Nat) (k : Nat) (ps : List P3) (sn : List Bool), ρ = [(10, v5), (88, .int .i64 (k : Nat))] ∧ m = xa2.length - k ∧ UpdL [og3, (some g1)] wl1 wz ∧ Osl VI wz og5 v5 (ps.map (codP W C)) ∧ OgR wl1 og3 og5 ∧ Osl VB wz (some g1) v1 (sn) ∧ (k ≤ xa2.length) ∧ (BA xa2 ins outs xa3 at_ p k ps) ∧ (SN ins outs a0 W C sn ps)) (ρ₀ := [(10, _), (88, _)]) (m₀ := _) ⟨rfl, rfl, rfl, rfl, rfl, rfl, rfl, rfl, rfl, rfl, rfl, rfl, rfl, trivial⟩ ⟨v3, og3, 0, _, _, rfl, rfl, (UpdL.refl _ _), osE ho3 (by rfl), OgR.refl _ _, osE ho1 (by rfl), (by first | omega | rfl | (simp; done) | assumption | (simp_all; done)), (by exact hBI.arc (by omega) hp (by first | exact fin_n1 (by assumption) | exact fin_n2 (by assumption) | exact fin_n3 (by assumption))), (by exact hSN)⟩ ?_
      rintro _ wl2 _ ⟨v5, og5, k, ps, sn, rfl, rfl, hU1, ho5, ha5, ho1, hk, hBA, hSN⟩
      have hU0 := hU0.trans hU1 ⟨hk0_3, hk0_1, trivial⟩
      have hl5 := Lo.ogr hl3 hB ha5
      have hg1_5 := ha5
      have hk1_5 : OkB [og3, (some g1)] wl1 og5 := OkB.ogr (OkB.mem (by simp)) (Nat.le_refl _) ha5
      have hk0_5 := OkB.ogr hk0_3 (by first | assumption | exact UpdL.size (by assumption)) ha5
      have hg0_5 := OgR.trans hg0_3 (by first | assumption | exact UpdL.size (by assumption)) ha5
      have hd1_5 := Dj.ogr hd1_3 hlt1 ha5
      have hk1_1 : OkB [og3, (some g1)] wl1 (some g1) := OkB.mem (by simp)
      have hB := hB.loop hU1 ⟨hl3, hl1, trivial⟩
      have hsm := hBA.bi.small hv hi12 ho12; have hsl := hSN.1
      refine CW.seq ?_
      refine CW.reg ?_
      refine WL.pure rfl rfl rfl (PV.lss rfl rfl) ?_
      refine WL.nilS ?_
      refine CW.seq ?_
      refine CW.cond rfl (fun hc3 => ?_) (fun hc3 => ?_)
      · skip
        try simp only [decide_eq_true_eq, decide_eq_false_iff_not, Bool.not_eq_true', Bool.not_eq_false', Bool.not_eq_eq_eq_not, Bool.not_true, Bool.not_false, Int.not_lt, Int.not_le, Classical.not_not, beq_iff_eq, beq_eq_false_iff_ne] at hc3
        refine CW.skipS ?_
        refine CW.seq ?_
        refine CW.block ?_
        refine CW.seq ?_
        refine CW.reg ?_
        refine WL.pure rfl rfl rfl (PV.move rfl) ?_
        refine WL.pure rfl rfl rfl (PV.assign rfl) ?_
        refine WL.nilS ?_
        refine CW.seq ?_
        refine CW.reg ?_
        refine WL.pure rfl rfl rfl (PV.move rfl) ?_
        refine WL.pure rfl rfl rfl (PV.nilCheck rfl) ?_
        refine WL.pure rfl rfl rfl ((by first | exact PV.fieldAddr T.fl33_2 rfl (by first | assumption | exact Bx.cells (by assumption)) | exact PV.fieldAddrP T.fl33_2 rfl rfl)) ?_
        refine WL.pure rfl rfl rfl ((by first | exact PV.load0 T.na31 rfl (by first | exact Cells.up (by assumption) hB | exact Bx.cells (by assumption) | assumption) (Ext.refl _) rfl | exact PV.load1 T.na31 rfl (by first | exact Cells.up (by assumption) hB | exact Bx.cells (by assumption) | assumption) (Ext.refl _) rfl)) ?_
        refine WL.pure rfl rfl rfl (PV.move rfl) ?_
        first
          | refine WL.at (x := .tmp 94) (y := .tmp 95) (E := ER) ((0, 0, 0, 0)) rfl rfl (by first | assumption | exact Inn.rd (by assumption) (by omega)) (by first | omega | (simp only [List.length_set]; omega) | (simp only [List.length_append, List.length_take, List.length_replicate, List.length_drop]; omega)) (fun p5 csp5 hpp5 hcp5 hq => ?_)
          | refine WL.atZ (x := .tmp 94) (y := .tmp 95) (E := ER) ((0, 0, 0, 0)) rfl rfl (by first | assumption | exact Inn.rd (by assumption) (by omega)) (by first | omega | (simp only [List.length_set]; omega) | (simp only [List.length_append, List.length_take, List.length_replicate, List.length_drop]; omega)) (fun p5 csp5 hpp5 hzp5 hcp5 hq => ?_)
        cases hq
        refine WL.pure rfl rfl rfl ((by first | exact PV.indexAddr hpp5 rfl rfl T.sl31 | exact PV.indexAddr hpp5 rfl (by rw [← hzp5]; rfl) T.sl31)) ?_
        refine WL.pure rfl rfl rfl (PV.assign rfl) ?_
        refine WL.nilS ?_
        refine CW.seq ?_
        refine CW.reg ?_
        refine WL.pure rfl rfl rfl (PV.move rfl) ?_
        refine WL.pure rfl rfl rfl (PV.move rfl) ?_
        refine WL.pure rfl rfl rfl (PV.move rfl) ?_
        refine WL.pure rfl rfl rfl (PV.nilCheck rfl) ?_
        refine WL.pure rfl rfl rfl ((by first | exact PV.fieldAddr T.fl127_2 rfl (by first | assumption | exact Bx.cells (by assumption)) | exact PV.fieldAddrP T.fl127_2 rfl rfl)) ?_
        refine WL.pure rfl rfl rfl ((by first | exact PV.load0 T.na2 rfl (by first | exact Cells.up (by assumption) hB | exact Bx.cells (by assumption) | assumption) (Ext.refl _) rfl | exact PV.load1 T.na2 rfl (by first | exact Cells.up (by assumption) hB | exact Bx.cells (by assumption) | assumption) (Ext.refl _) rfl)) ?_
        refine WL.op rfl (OpK.callR rfl T.cf122 rfl (c_spec_l05Side (by first | assumption | exact Rd.up (by assumption) hB | exact Osl.rd (by assumption) | exact Osn.rdR (by assumption) | exact NL.rd (by assumption) | exact rdII (by assumption) (by assumption) | exact Inn.rd (by assumption) (by omega)) (by first | assumption | omega | (simp only [marks_len, marksB_len, marksR_len, sumL_marksS]; omega))) (fun w4 hXw4 => ?_))
        have hB := hB.trans hXw4
        have ho1 := ho1.up hXw4
        have ho5 := ho5.up hXw4
        have hU0 := hU0.ext hXw4
        have hU1 := hU1.ext hXw4
        refine WL.pure rfl rfl rfl (PV.assign rfl) ?_
        refine WL.nilS ?_
        refine CW.seq ?_
        refine CW.reg ?_
        refine WL.pure rfl rfl rfl (PV.move rfl) ?_
        refine WL.pure rfl rfl rfl (PV.move rfl) ?_
        refine WL.pure rfl rfl rfl (PV.move rfl) ?_
        refine WL.pure rfl rfl rfl (PV.nilCheck rfl) ?_
        refine WL.pure rfl rfl rfl ((by first | exact PV.fieldAddr T.fl127_3 rfl (by first | assumption | exact Bx.cells (by assumption)) | exact PV.fieldAddrP T.fl127_3 rfl rfl)) ?_
        refine WL.pure rfl rfl rfl ((by first | exact PV.load0 T.na2 rfl (by first | exact Cells.up (by assumption) hB | exact Bx.cells (by assumption) | assumption) (Ext.refl _) rfl | exact PV.load1 T.na2 rfl (by first | exact Cells.up (by assumption) hB | exact Bx.cells (by assumption) | assumption) (Ext.refl _) rfl)) ?_
        refine WL.op rfl (OpK.callR rfl T.cf122 rfl (c_spec_l05Side (by first | assumption | exact Rd.up (by assumption) hB | exact Osl.rd (by assumption) | exact Osn.rdR (by assumption) | exact NL.rd (by assumption) | exact rdII (by assumption) (by assumption) | exact Inn.rd (by assumption) (by omega)) (by first | assumption | omega | (simp only [marks_len, marksB_len, marksR_len, sumL_marksS]; omega))) (fun w5 hXw5 => ?_))
        have hB := hB.trans hXw5
        have ho1 := ho1.up hXw5
        have ho5 := ho5.up hXw5
        have hU0 := hU0.ext hXw5
        have hU1 := hU1.ext hXw5
        refine WL.pure rfl rfl rfl (PV.assign rfl) ?_
        refine WL.nilS ?_
        refine CW.seq ?_
        refine CW.seq ?_
        refine CW.reg ?_
        refine WL.pure rfl rfl rfl (PV.move rfl) ?_
        refine WL.pure rfl rfl rfl (PV.nilCheck rfl) ?_
        refine WL.pure rfl rfl rfl ((by first | exact PV.fieldAddr T.fl127_0 rfl (by first | assumption | exact Bx.cells (by assumption)) | exact PV.fieldAddrP T.fl127_0 rfl rfl)) ?_
        refine WL.pure rfl rfl rfl ((by first | exact PV.load0 T.na2 rfl (by first | exact Cells.up (by assumption) hB | exact Bx.cells (by assumption) | assumption) (Ext.refl _) rfl | exact PV.load1 T.na2 rfl (by first | exact Cells.up (by assumption) hB | exact Bx.cells (by assumption) | assumption) (Ext.refl _) rfl)) ?_
        refine WL.pure rfl rfl rfl (PV.move rfl) ?_
        refine WL.pure rfl rfl rfl (PV.neq rfl rfl) ?_
        refine WL.pure rfl rfl rfl (PV.move rfl) ?_
        refine WL.split (t := 117) rfl (fun hc4 => ?_) (fun hc4 => ?_)
        · skip
          try simp only [decide_eq_true_eq, decide_eq_false_iff_not, Bool.not_eq_true', Bool.not_eq_false', Bool.not_eq_eq_eq_not, Bool.not_true, Bool.not_false, Int.not_lt, Int.not_le, Classical.not_not, beq_iff_eq, beq_eq_false_iff_ne] at hc4
          refine WL.skip rfl rfl rfl rfl rfl ?_
          refine WL.skip rfl rfl rfl rfl rfl ?_
          refine WL.pure rfl rfl rfl (PV.pickT rfl rfl) ?_
          refine WL.pure rfl rfl rfl (PV.move rfl) ?_
          refine WL.skip rfl rfl rfl rfl rfl ?_
          refine WL.skip rfl rfl rfl rfl rfl ?_
          refine WL.pure rfl rfl rfl (PV.pickT rfl rfl) ?_
          refine WL.nilS ?_
          refine CW.condT rfl ?_
          refine CW.exit ?_
          refine XQ.then ?_
          refine XQ.here ?_
          refine NQ.then ?_
          refine CW.reg ?_
          refine WL.pure rfl rfl rfl (PV.add rfl rfl (by constructor <;> omega)) ?_
          refine WL.pure rfl rfl rfl (PV.move rfl) ?_
          refine WL.nil ?_
          refine NQ.next (ρ := [(10, _), (88, _)]) ⟨rfl, rfl, rfl, rfl, rfl, rfl, rfl, rfl, rfl, rfl, rfl, rfl, rfl, trivial⟩ ?_
          exact ⟨_, ⟨v5, og5, k + 1, _, _, rfl, rfl, hU1, osE ho5 (by first | rfl | (rw [List.map_append]; rfl)), (by first | exact hg1_5 | exact OgR.weak hg1_5), osE ho1 (by rfl), (by first | omega | assumption | (simp_all; done) | (simp_all; omega)), (by first | exact hBA.put (by omega) hnx (of_decide_eq_false (by assumption)) | exact hBA.put (by omega) hnx (by assumption) | exact hBA.old (by assumption) | exact hBA.no (by first | exact nxt_n1 (by assumption) | exact nxt_n2 (sd_n (by assumption) (by omega)) | exact nxt_n3 (sd_n (by assumption) (by omega)))), (by first | exact hSN.put hW hC hqr | exact hSN)⟩, by omega⟩
        try simp only [decide_eq_true_eq, decide_eq_false_iff_not, Bool.not_eq_true', Bool.not_eq_false', Bool.not_eq_eq_eq_not, Bool.not_true, Bool.not_false, Int.not_lt, Int.not_le, Classical.not_not, beq_iff_eq, beq_eq_false_iff_ne] at hc4
        refine WL.pureG rfl rfl rfl rfl rfl (PV.move rfl) ?_
        refine WL.pureG rfl rfl rfl rfl rfl (PV.lss rfl rfl) ?_
        refine WL.pure rfl rfl rfl (PV.pickF rfl rfl) ?_
        refine WL.pure rfl rfl rfl (PV.move rfl) ?_
        refine WL.split (t := 121) rfl (fun hc5 => ?_) (fun hc5 => ?_)
        · skip
          try simp only [decide_eq_true_eq, decide_eq_false_iff_not, Bool.not_eq_true', Bool.not_eq_false', Bool.not_eq_eq_eq_not, Bool.not_true, Bool.not_false, Int.not_lt, Int.not_le, Classical.not_not, beq_iff_eq, beq_eq_false_iff_ne] at hc5
          refine WL.skip rfl rfl rfl rfl rfl ?_
          refine WL.skip rfl rfl rfl rfl rfl ?_
          refine WL.pure rfl rfl rfl (PV.pickT rfl rfl) ?_
          refine WL.nilS ?_
          refine CW.condT rfl ?_
          refine CW.exit ?_
          refine XQ.then ?_
          refine XQ.here ?_
          refine NQ.then ?_
          refine CW.reg ?_
          refine WL.pure rfl rfl rfl (PV.add rfl rfl (by constructor <;> omega)) ?_
          refine WL.pure rfl rfl rfl (PV.move rfl) ?_
          refine WL.nil ?_
          refine NQ.next (ρ := [(10, _), (88, _)]) ⟨rfl, rfl, rfl, rfl, rfl, rfl, rfl, rfl, rfl, rfl, rfl, rfl, rfl, trivial⟩ ?_
          exact ⟨_, ⟨v5, og5, k + 1, _, _, rfl, rfl, hU1, osE ho5 (by first | rfl | (rw [List.map_append]; rfl)), (by first | exact hg1_5 | exact OgR.weak hg1_5), osE ho1 (by rfl), (by first | omega | assumption | (simp_all; done) | (simp_all; omega)), (by first | exact hBA.put (by omega) hnx (of_decide_eq_false (by assumption)) | exact hBA.put (by omega) hnx (by assumption) | exact hBA.old (by assumption) | exact hBA.no (by first | exact nxt_n1 (by assumption) | exact nxt_n2 (sd_n (by assumption) (by omega)) | exact nxt_n3 (sd_n (by assumption) (by omega)))), (by first | exact hSN.put hW hC hqr | exact hSN)⟩, by omega⟩
        try simp only [decide_eq_true_eq, decide_eq_false_iff_not, Bool.not_eq_true', Bool.not_eq_false', Bool.not_eq_eq_eq_not, Bool.not_true, Bool.not_false, Int.not_lt, Int.not_le, Classical.not_not, beq_iff_eq, beq_eq_false_iff_ne] at hc5
        refine WL.pureG rfl rfl rfl rfl rfl (PV.move rfl) ?_
        refine WL.pureG rfl rfl rfl rfl rfl (PV.lss rfl rfl) ?_
        refine WL.pure rfl rfl rfl (PV.pickF rfl rfl) ?_
        refine WL.nilS ?_
        refine CW.cond rfl (fun hc6 => ?_) (fun hc6 => ?_)
        · skip
          try simp only [decide_eq_true_eq, decide_eq_false_iff_not, Bool.not_eq_true', Bool.not_eq_false', Bool.not_eq_eq_eq_not, Bool.not_true, Bool.not_false, Int.not_lt, Int.not_le, Classical.not_not, beq_iff_eq, beq_eq_false_iff_ne] at hc6
          refine CW.exit ?_
          refine XQ.then ?_
          refine XQ.here ?_
          refine NQ.then ?_
          refine CW.reg ?_
          refine WL.pure rfl rfl rfl (PV.add rfl rfl (by constructor <;> omega)) ?_
          refine WL.pure rfl rfl rfl (PV.move rfl) ?_
          refine WL.nil ?_
          refine NQ.next (ρ := [(10, _), (88, _)]) ⟨rfl, rfl, rfl, rfl, rfl, rfl, rfl, rfl, rfl, rfl, rfl, rfl, rfl, trivial⟩ ?_
          exact ⟨_, ⟨v5, og5, k + 1, _, _, rfl, rfl, hU1, osE ho5 (by first | rfl | (rw [List.map_append]; rfl)), (by first | exact hg1_5 | exact OgR.weak hg1_5), osE ho1 (by rfl), (by first | omega | assumption | (simp_all; done) | (simp_all; omega)), (by first | exact hBA.put (by omega) hnx (of_decide_eq_false (by assumption)) | exact hBA.put (by omega) hnx (by assumption) | exact hBA.old (by assumption) | exact hBA.no (by first | exact nxt_n1 (by assumption) | exact nxt_n2 (sd_n (by assumption) (by omega)) | exact nxt_n3 (sd_n (by assumption) (by omega)))), (by first | exact hSN.put hW hC hqr | exact hSN)⟩, by omega⟩
        try simp only [decide_eq_true_eq, decide_eq_false_iff_not, Bool.not_eq_true', Bool.not_eq_false', Bool.not_eq_eq_eq_not, Bool.not_true, Bool.not_false, Int.not_lt, Int.not_le, Classical.not_not, beq_iff_eq, beq_eq_false_iff_ne] at hc6
        refine CW.skipS ?_
        refine CW.seq ?_
        refine CW.reg ?_
        obtain ⟨hy1, he1⟩ := sd_y (xs := ins) (by omega : ¬ sdI ins p.1 (xa2.getD k (0, 0, 0, 0)).2.2.1 < 0); obtain ⟨hy2, he2⟩ := sd_y (xs := outs) (by omega : ¬ sdI outs p.2.1 (xa2.getD k (0, 0, 0, 0)).2.2.2 < 0); have hnx := nxt_y (ins := ins) (outs := outs) (p := p) (a := xa2.getD k (0, 0, 0, 0)) (by omega) hy1 hy2; have hqr := hpr.next (hva k (by omega)) hnx; have hq1 : 0 ≤ pasI p.1 (xa2.getD k (0, 0, 0, 0)).2.2.1 ∧ pasI p.1 (xa2.getD k (0, 0, 0, 0)).2.2.1 ≤ ins.length := hqr.1; have hq2 : 0 ≤ pasI p.2.1 (xa2.getD k (0, 0, 0, 0)).2.2.2 ∧ pasI p.2.1 (xa2.getD k (0, 0, 0, 0)).2.2.2 ≤ outs.length := hqr.2.1; have hq3 : 0 ≤ (xa2.getD k (0, 0, 0, 0)).2.1 ∧ (xa2.getD k (0, 0, 0, 0)).2.1 ≤ a0 - 1 := hqr.2.2; have hcq : 0 ≤ (xa2.getD k (0, 0, 0, 0)).2.1 * C + pasI p.1 (xa2.getD k (0, 0, 0, 0)).2.2.1 * W + pasI p.2.1 (xa2.getD k (0, 0, 0, 0)).2.2.2 ∧ (xa2.getD k (0, 0, 0, 0)).2.1 * C + pasI p.1 (xa2.getD k (0, 0, 0, 0)).2.2.1 * W + pasI p.2.1 (xa2.getD k (0, 0, 0, 0)).2.2.2 ≤ a0 * C - 1 := (cod_rng hW hC hqr).2; have hm1 := mul_rng (m := 8) (n := 169) (show 0 ≤ (xa2.getD k (0, 0, 0, 0)).2.1 ∧ (xa2.getD k (0, 0, 0, 0)).2.1 ≤ 8 by omega) (show 0 ≤ C ∧ C ≤ 169 by omega); have hm2 := mul_rng (m := 12) (n := 13) (show 0 ≤ pasI p.1 (xa2.getD k (0, 0, 0, 0)).2.2.1 ∧ pasI p.1 (xa2.getD k (0, 0, 0, 0)).2.2.1 ≤ 12 by omega) (show 0 ≤ W ∧ W ≤ 13 by omega); rw [he1, he2]; have hsq : sn.getD ((xa2.getD k (0, 0, 0, 0)).2.1 * C + pasI p.1 (xa2.getD k (0, 0, 0, 0)).2.2.1 * W + pasI p.2.1 (xa2.getD k (0, 0, 0, 0)).2.2.2).toNat false = decide (nxtP p (xa2.getD k (0, 0, 0, 0)) ∈ ps) := hSN.2 _ hqr
        refine WL.pure rfl rfl rfl (PV.move rfl) ?_
        refine WL.pure rfl rfl rfl (PV.nilCheck rfl) ?_
        refine WL.pure rfl rfl rfl ((by first | exact PV.fieldAddr T.fl127_1 rfl (by first | assumption | exact Bx.cells (by assumption)) | exact PV.fieldAddrP T.fl127_1 rfl rfl)) ?_
        refine WL.pure rfl rfl rfl ((by first | exact PV.load0 T.na2 rfl (by first | exact Cells.up (by assumption) hB | exact Bx.cells (by assumption) | assumption) (Ext.refl _) rfl | exact PV.load1 T.na2 rfl (by first | exact Cells.up (by assumption) hB | exact Bx.cells (by assumption) | assumption) (Ext.refl _) rfl)) ?_
        refine WL.pure rfl rfl rfl (PV.move rfl) ?_
        refine WL.pure rfl rfl rfl (PV.mul rfl rfl (by constructor <;> omega)) ?_
        refine WL.pure rfl rfl rfl (PV.move rfl) ?_
        refine WL.pure rfl rfl rfl (PV.move rfl) ?_
        refine WL.pure rfl rfl rfl (PV.mul rfl rfl (by constructor <;> omega)) ?_
        refine WL.pure rfl rfl rfl (PV.add rfl rfl (by constructor <;> omega)) ?_
        refine WL.pure rfl rfl rfl (PV.move rfl) ?_
        refine WL.pure rfl rfl rfl (PV.add rfl rfl (by constructor <;> omega)) ?_
        refine WL.pure rfl rfl rfl (PV.assign rfl) ?_
        refine WL.nilS ?_
        refine CW.seq ?_
        refine CW.reg ?_
        refine WL.pure rfl rfl rfl (PV.move rfl) ?_
        refine WL.pure rfl rfl rfl (PV.move rfl) ?_
        first
          | refine WL.atO (x := .tmp 137) (y := .tmp 138) (f := VB) (false) rfl rfl ho1 (by first | omega | (simp only [List.length_set]; omega) | (simp only [List.length_append, List.length_take, List.length_replicate, List.length_drop]; omega)) (fun p6 hpp6 hcp6 => ?_)
          | refine WL.atOZ (x := .tmp 137) (y := .tmp 138) (f := VB) (false) rfl rfl ho1 (by first | omega | (simp only [List.length_set]; omega) | (simp only [List.length_append, List.length_take, List.length_replicate, List.length_drop]; omega)) (fun p6 hpp6 hzp6 hcp6 => ?_)
        refine WL.pure rfl rfl rfl ((by first | exact PV.indexAddr hpp6 rfl rfl T.sl23 | exact PV.indexAddr hpp6 rfl (by rw [← hzp6]; rfl) T.sl23)) ?_
        refine WL.pure rfl rfl rfl ((by first | exact PV.load0 T.na4 rfl (by first | exact Cells.up (by assumption) hB | exact Bx.cells (by assumption) | assumption) (Ext.refl _) rfl | exact PV.load1 T.na4 rfl (by first | exact Cells.up (by assumption) hB | exact Bx.cells (by assumption) | assumption) (Ext.refl _) rfl)) ?_
        rw [hsq]
        refine WL.pure rfl rfl rfl (PV.not rfl) ?_
        refine WL.nilS ?_
        refine CW.cond rfl (fun hc7 => ?_) (fun hc7 => ?_)
        · skip
          try simp only [decide_eq_true_eq, decide_eq_false_iff_not, Bool.not_eq_true', Bool.not_eq_false', Bool.not_eq_eq_eq_not, Bool.not_true, Bool.not_false, Int.not_lt, Int.not_le, Classical.not_not, beq_iff_eq, beq_eq_false_iff_ne] at hc7
          refine CW.seq ?_
          refine CW.reg ?_
          refine WL.pure rfl rfl rfl (PV.move rfl) ?_
          refine WL.pure rfl rfl rfl (PV.move rfl) ?_
          first
            | refine WL.atO (x := .tmp 142) (y := .tmp 143) (f := VB) (false) rfl rfl ho1 (by first | omega | (simp only [List.length_set]; omega) | (simp only [List.length_append, List.length_take, List.length_replicate, List.length_drop]; omega)) (fun p7 hpp7 hcp7 => ?_)
            | refine WL.atOZ (x := .tmp 142) (y := .tmp 143) (f := VB) (false) rfl rfl ho1 (by first | omega | (simp only [List.length_set]; omega) | (simp only [List.length_append, List.length_take, List.length_replicate, List.length_drop]; omega)) (fun p7 hpp7 hzp7 hcp7 => ?_)
          refine WL.pure rfl rfl rfl ((by first | exact PV.indexAddr hpp7 rfl rfl T.sl23 | exact PV.indexAddr hpp7 rfl (by rw [← hzp7]; rfl) T.sl23)) ?_
          refine WL.op rfl (OpK.storeS VB T.sz4 rfl rfl rfl hpp7 ho1 (fun w6 hXw6 ho1 => ?_))
          have hB := hB.updL hXw6 hl1
          have ho5 := ho5.updD hXw6 (Dj.symm hd1_5)
          have hU0 := hU0.step hXw6 hk0_1
          have hU1 := hU1.step hXw6 hk1_1
          refine WL.nilS ?_
          refine CW.reg ?_
          refine WL.pure rfl rfl rfl (PV.move rfl) ?_
          refine WL.pure rfl rfl rfl (PV.move rfl) ?_
          refine WL.op rfl (OpK.buildS VI (os := [.tmp 146]) [_] rfl T.sl128 rfl rfl T.zv3 rfl (by intro z hz; first | rfl | (simp only [List.mem_cons, List.not_mem_nil, or_false] at hz; subst hz; exact (by first | exact Rd.cells1 (by assumption) | exact Osl.cells1 (by assumption) | exact Osn.cells1 (by assumption) | exact Rd.cells1 (NL.rd (by assumption)) | exact Inn.cell1 (by assumption) (by omega) | rfl))) rfl (fun v7 g7 w7 hXw7 ho7 hge7 => ?_))
          have hl7 := Lo.new hB hge7
          have hd1_7 := Dj.new ho1.ltO hge7
          have hd5_7 := Dj.new ho5.ltO hge7
          have hk0_7 := OkN.new hU0 hge7
          have hg0_7 := OgR.new hU0.size hge7
          have hk1_7 := OkN.new hU1 hge7
          have hg1_7 := OgR.new hU1.size hge7
          have hB := hB.trans hXw7
          have ho1 := ho1.up hXw7
          have ho5 := ho5.up hXw7
          have hU0 := hU0.ext hXw7
          have hU1 := hU1.ext hXw7
          refine WL.op rfl (OpK.appendS (f := VI) rfl T.sl128 T.zv3 rfl rfl ho5 rfl (Osl.src ho7 (fun _ => rfl)) (by first | (simp only [List.length_cons, List.length_nil]; omega) | (simp only [List.length_map, List.length_cons, List.length_nil]; omega)) (fun v8 og8 w8 hXw8 ho8 hap8 => ?_))
          have hl8 := Lo.app hl5 hB hap8
          have hd1_8 := Dj.app hd1_5 ho1.ltO hap8
          have hd7_8 := Dj.app (Dj.symm hd5_7) ho7.ltO hap8
          have hk0_8 := OkN.app hU0 hk0_5 hap8
          have hg0_8 := OgR.app hg0_5 hU0.size hap8
          have hk1_8 := OkN.app hU1 hk1_5 hap8
          have hg1_8 := OgR.app hg1_5 hU1.size hap8
          have hB := hB.updL hXw8 hl5
          have ho1 := ho1.updD hXw8 hd1_5
          have ho7 := ho7.updD hXw8 (Dj.symm hd5_7)
          have hU0 := hU0.step hXw8 hk0_5
          have hU1 := hU1.step hXw8 hk1_5
          refine WL.pure rfl rfl rfl (PV.assign rfl) ?_
          refine WL.nil ?_
          refine NQ.block ?_
          refine NQ.then ?_
          refine CW.reg ?_
          refine WL.pure rfl rfl rfl (PV.add rfl rfl (by constructor <;> omega)) ?_
          refine WL.pure rfl rfl rfl (PV.move rfl) ?_
          refine WL.nil ?_
          refine NQ.next (ρ := [(10, _), (88, _)]) ⟨rfl, rfl, rfl, rfl, rfl, rfl, rfl, rfl, rfl, rfl, rfl, rfl, rfl, trivial⟩ ?_
          exact ⟨_, ⟨v8, og8, k + 1, ps ++ [nxtP p (xa2.getD k z4)], _, rfl, rfl, hU1, osE ho8 (by first | rfl | (rw [List.map_append]; rfl)), (by first | exact hg1_8 | exact OgR.weak hg1_8), osE ho1 (by rfl), (by first | omega | assumption | (simp_all; done) | (simp_all; omega)), (by first | exact hBA.put (by omega) hnx (of_decide_eq_false (by assumption)) | exact hBA.put (by omega) hnx (by assumption) | exact hBA.old (by assumption) | exact hBA.no (by first | exact nxt_n1 (by assumption) | exact nxt_n2 (sd_n (by assumption) (by omega)) | exact nxt_n3 (sd_n (by assumption) (by omega)))), (by first | exact hSN.put hW hC hqr | exact hSN)⟩, by omega⟩
        try simp only [decide_eq_true_eq, decide_eq_false_iff_not, Bool.not_eq_true', Bool.not_eq_false', Bool.not_eq_eq_eq_not, Bool.not_true, Bool.not_false, Int.not_lt, Int.not_le, Classical.not_not, beq_iff_eq, beq_eq_false_iff_ne] at hc7
        refine CW.skip ?_
        refine NQ.block ?_
        refine NQ.then ?_
        refine CW.reg ?_
        refine WL.pure rfl rfl rfl (PV.add rfl rfl (by constructor <;> omega)) ?_
        refine WL.pure rfl rfl rfl (PV.move rfl) ?_
        refine WL.nil ?_
        refine NQ.next (ρ := [(10, _), (88, _)]) ⟨rfl, rfl, rfl, rfl, rfl, rfl, rfl, rfl, rfl, rfl, rfl, rfl, rfl, trivial⟩ ?_
        exact ⟨_, ⟨v5, og5, k + 1, _, _, rfl, rfl, hU1, osE ho5 (by first | rfl | (rw [List.map_append]; rfl)), (by first | exact hg1_5 | exact OgR.weak hg1_5), osE ho1 (by rfl), (by first | omega | assumption | (simp_all; done) | (simp_all; omega)), (by first | exact hBA.put (by omega) hnx (of_decide_eq_false (by assumption)) | exact hBA.put (by omega) hnx (by assumption) | exact hBA.old (by assumption) | exact hBA.no (by first | exact nxt_n1 (by assumption) | exact nxt_n2 (sd_n (by assumption) (by omega)) | exact nxt_n3 (sd_n (by assumption) (by omega)))), (by first | exact hSN.put hW hC hqr | exact hSN)⟩, by omega⟩
      try simp only [decide_eq_true_eq, decide_eq_false_iff_not, Bool.not_eq_true', Bool.not_eq_false', Bool.not_eq_eq_eq_not, Bool.not_true, Bool.not_false, Int.not_lt, Int.not_le, Classical.not_not, beq_iff_eq, beq_eq_false_iff_ne] at hc3
      refine CW.exit ?_
      refine XQ.then ?_
      refine XQ.then ?_
      refine XQ.here ?_
      refine NQ.block ?_
      refine NQ.then ?_
      refine CW.reg ?_
      refine WL.pure rfl rfl rfl (PV.move rfl) ?_
      refine WL.pure rfl rfl rfl (PV.add rfl rfl (by constructor <;> omega)) ?_
      refine WL.pure rfl rfl rfl (PV.assign rfl) ?_
      refine WL.nil ?_
      refine NQ.next (ρ := [(10, _), (11, _)]) ⟨rfl, rfl, rfl, rfl, rfl, rfl, rfl, rfl, trivial⟩ ?_
      exact ⟨_, ⟨v5, og5, at_ + 1, _, _, rfl, rfl, hU0, osE ho5 (by rfl), (by first | exact hg0_5 | exact OgR.weak hg0_5), osE ho1 (by rfl), (by exact hBA.done (by omega)), (by exact hSN)⟩, by (have := hBA.lt; omega)⟩
    try simp only [decide_eq_true_eq, decide_eq_false_iff_not, Bool.not_eq_true', Bool.not_eq_false', Bool.not_eq_eq_eq_not, Bool.not_true, Bool.not_false, Int.not_lt, Int.not_le, Classical.not_not, beq_iff_eq, beq_eq_false_iff_ne] at hc2
    refine WL.pureG rfl rfl rfl rfl rfl (PV.move rfl) ?_
    refine WL.pureG rfl rfl rfl rfl rfl (PV.move rfl) ?_
    refine WL.pureG rfl rfl rfl rfl rfl ((by first | exact PV.len rfl (by assumption) T.sl26 | exact PV.lenOs rfl (by assumption) T.sl26 | exact PV.len rfl (NL.rd (by assumption)) T.sl26 | exact PV.len rfl (Inn.rd (by assumption) (by omega)) T.sl26)) ?_
    refine WL.pureG rfl rfl rfl rfl rfl (PV.eql rfl rfl) ?_
    refine WL.pure rfl rfl rfl (PV.pickT rfl rfl) ?_
    refine WL.pure rfl rfl rfl (PV.move rfl) ?_
    refine WL.split (t := 74) rfl (fun hc8 => ?_) (fun hc8 => ?_)
    rotate_left
    · skip
      try simp only [decide_eq_true_eq, decide_eq_false_iff_not, Bool.not_eq_true', Bool.not_eq_false', Bool.not_eq_eq_eq_not, Bool.not_true, Bool.not_false, Int.not_lt, Int.not_le, Classical.not_not, beq_iff_eq, beq_eq_false_iff_ne] at hc8
      refine WL.skip rfl rfl rfl rfl rfl ?_
      refine WL.skip rfl rfl rfl rfl rfl ?_
      refine WL.skip rfl rfl rfl rfl rfl ?_
      refine WL.skip rfl rfl rfl rfl rfl ?_
      refine WL.skip rfl rfl rfl rfl rfl ?_
      refine WL.skip rfl rfl rfl rfl rfl ?_
      refine WL.skip rfl rfl rfl rfl rfl ?_
      refine WL.pure rfl rfl rfl (PV.pickF rfl rfl) ?_
      refine WL.nilS ?_
      refine CW.condF rfl ?_
      refine CW.skipS ?_
      refine CW.seq ?_
      refine CW.reg ?_
      refine WL.pure rfl rfl rfl (PV.move rfl) ?_
      refine WL.pure rfl rfl rfl (PV.nilCheck rfl) ?_
      refine WL.pure rfl rfl rfl ((by first | exact PV.fieldAddr T.fl33_2 rfl (by first | assumption | exact Bx.cells (by assumption)) | exact PV.fieldAddrP T.fl33_2 rfl rfl)) ?_
      refine WL.pure rfl rfl rfl ((by first | exact PV.load0 T.na31 rfl (by first | exact Cells.up (by assumption) hB | exact Bx.cells (by assumption) | assumption) (Ext.refl _) rfl | exact PV.load1 T.na31 rfl (by first | exact Cells.up (by assumption) hB | exact Bx.cells (by assumption) | assumption) (Ext.refl _) rfl)) ?_
      refine WL.pure rfl rfl rfl ((by first | exact PV.len rfl (by assumption) T.sl31 | exact PV.lenOs rfl (by assumption) T.sl31 | exact PV.len rfl (NL.rd (by assumption)) T.sl31 | exact PV.len rfl (Inn.rd (by assumption) (by omega)) T.sl31)) ?_
      refine WL.pure rfl rfl rfl (PV.move rfl) ?_
      refine WL.nilS ?_
      refine CW.block ?_
      have hlt1 := ho1.ltO
      have hlt3 := ho3.ltO
      refine CW.loop (σk := [(0, _), (1, _), (2, _), (7, _), (8, _), (9, _), (11, _), (12, _), (13, _), (14, _), (87, _)]) (fun ρ wz m => ∃ (v9 : Value) (og9 : Option Nat) (k : Nat) (ps : List P3) (sn : List Bool), ρ = [(10, v9), (88, .int .i64 (k : Nat))] ∧ m = xa2.length - k ∧ UpdL [og3, (some g1)] wl1 wz ∧ Osl VI wz og9 v9 (ps.map (codP W C)) ∧ OgR wl1 og3 og9 ∧ Osl VB wz (some g1) v1 (sn) ∧ (k ≤ xa2.length) ∧ (BA xa2 ins outs xa3 at_ p k ps) ∧ (SN ins outs a0 W C sn ps)) (ρ₀ := [(10, _), (88, _)]) (m₀ := _) ⟨rfl, rfl, rfl, rfl, rfl, rfl, rfl, rfl, rfl, rfl, rfl, rfl, rfl, trivial⟩ ⟨v3, og3, 0, _, _, rfl, rfl, (UpdL.refl _ _), osE ho3 (by rfl), OgR.refl _ _, osE ho1 (by rfl), (by first | omega | rfl | (simp; done) | assumption | (simp_all; done)), (by exact hBI.arc (by omega) hp (by first | exact fin_n1 (by assumption) | exact fin_n2 (by assumption) | exact fin_n3 (by assumption))), (by exact hSN)⟩ ?_
      rintro _ wl3 _ ⟨v9, og9, k, ps, sn, rfl, rfl, hU1, ho9, ha9, ho1, hk, hBA, hSN⟩
      have hU0 := hU0.trans hU1 ⟨hk0_3, hk0_1, trivial⟩
      have hl9 := Lo.ogr hl3 hB ha9
      have hg1_9 := ha9
      have hk1_9 : OkB [og3, (some g1)] wl1 og9 := OkB.ogr (OkB.mem (by simp)) (Nat.le_refl _) ha9
      have hk0_9 := OkB.ogr hk0_3 (by first | assumption | exact UpdL.size (by assumption)) ha9
      have hg0_9 := OgR.trans hg0_3 (by first | assumption | exact UpdL.size (by assumption)) ha9
      have hd1_9 := Dj.ogr hd1_3 hlt1 ha9
      have hk1_1 : OkB [og3, (some g1)] wl1 (some g1) := OkB.mem (by simp)
      have hB := hB.loop hU1 ⟨hl3, hl1, trivial⟩
      have hsm := hBA.bi.small hv hi12 ho12; have hsl := hSN.1
      refine CW.seq ?_
      refine CW.reg ?_
      refine WL.pure rfl rfl rfl (PV.lss rfl rfl) ?_
      refine WL.nilS ?_
      refine CW.seq ?_
      refine CW.cond rfl (fun hc9 => ?_) (fun hc9 => ?_)
      · skip
        try simp only [decide_eq_true_eq, decide_eq_false_iff_not, Bool.not_eq_true', Bool.not_eq_false', Bool.not_eq_eq_eq_not, Bool.not_true, Bool.not_false, Int.not_lt, Int.not_le, Classical.not_not, beq_iff_eq, beq_eq_false_iff_ne] at hc9
        refine CW.skipS ?_
        refine CW.seq ?_
        refine CW.block ?_
        refine CW.seq ?_
        refine CW.reg ?_
        refine WL.pure rfl rfl rfl (PV.move rfl) ?_
        refine WL.pure rfl rfl rfl (PV.assign rfl) ?_
        refine WL.nilS ?_
        refine CW.seq ?_
        refine CW.reg ?_
        refine WL.pure rfl rfl rfl (PV.move rfl) ?_
        refine WL.pure rfl rfl rfl (PV.nilCheck rfl) ?_
        refine WL.pure rfl rfl rfl ((by first | exact PV.fieldAddr T.fl33_2 rfl (by first | assumption | exact Bx.cells (by assumption)) | exact PV.fieldAddrP T.fl33_2 rfl rfl)) ?_
        refine WL.pure rfl rfl rfl ((by first | exact PV.load0 T.na31 rfl (by first | exact Cells.up (by assumption) hB | exact Bx.cells (by assumption) | assumption) (Ext.refl _) rfl | exact PV.load1 T.na31 rfl (by first | exact Cells.up (by assumption) hB | exact Bx.cells (by assumption) | assumption) (Ext.refl _) rfl)) ?_
        refine WL.pure rfl rfl rfl (PV.move rfl) ?_
        first
          | refine WL.at (x := .tmp 94) (y := .tmp 95) (E := ER) ((0, 0, 0, 0)) rfl rfl (by first | assumption | exact Inn.rd (by assumption) (by omega)) (by first | omega | (simp only [List.length_set]; omega) | (simp only [List.length_append, List.length_take, List.length_replicate, List.length_drop]; omega)) (fun p8 csp8 hpp8 hcp8 hq => ?_)
          | refine WL.atZ (x := .tmp 94) (y := .tmp 95) (E := ER) ((0, 0, 0, 0)) rfl rfl (by first | assumption | exact Inn.rd (by assumption) (by omega)) (by first | omega | (simp only [List.length_set]; omega) | (simp only [List.length_append, List.length_take, List.length_replicate, List.length_drop]; omega)) (fun p8 csp8 hpp8 hzp8 hcp8 hq => ?_)
        cases hq
        refine WL.pure rfl rfl rfl ((by first | exact PV.indexAddr hpp8 rfl rfl T.sl31 | exact PV.indexAddr hpp8 rfl (by rw [← hzp8]; rfl) T.sl31)) ?_
        refine WL.pure rfl rfl rfl (PV.assign rfl) ?_
        refine WL.nilS ?_
        refine CW.seq ?_
        refine CW.reg ?_
        refine WL.pure rfl rfl rfl (PV.move rfl) ?_
        refine WL.pure rfl rfl rfl (PV.move rfl) ?_
        refine WL.pure rfl rfl rfl (PV.move rfl) ?_
        refine WL.pure rfl rfl rfl (PV.nilCheck rfl) ?_
        refine WL.pure rfl rfl rfl ((by first | exact PV.fieldAddr T.fl127_2 rfl (by first | assumption | exact Bx.cells (by assumption)) | exact PV.fieldAddrP T.fl127_2 rfl rfl)) ?_
        refine WL.pure rfl rfl rfl ((by first | exact PV.load0 T.na2 rfl (by first | exact Cells.up (by assumption) hB | exact Bx.cells (by assumption) | assumption) (Ext.refl _) rfl | exact PV.load1 T.na2 rfl (by first | exact Cells.up (by assumption) hB | exact Bx.cells (by assumption) | assumption) (Ext.refl _) rfl)) ?_
        refine WL.op rfl (OpK.callR rfl T.cf122 rfl (c_spec_l05Side (by first | assumption | exact Rd.up (by assumption) hB | exact Osl.rd (by assumption) | exact Osn.rdR (by assumption) | exact NL.rd (by assumption) | exact rdII (by assumption) (by assumption) | exact Inn.rd (by assumption) (by omega)) (by first | assumption | omega | (simp only [marks_len, marksB_len, marksR_len, sumL_marksS]; omega))) (fun w9 hXw9 => ?_))
        have hB := hB.trans hXw9
        have ho1 := ho1.up hXw9
        have ho9 := ho9.up hXw9
        have hU0 := hU0.ext hXw9
        have hU1 := hU1.ext hXw9
        refine WL.pure rfl rfl rfl (PV.assign rfl) ?_
        refine WL.nilS ?_
        refine CW.seq ?_
        refine CW.reg ?_
        refine WL.pure rfl rfl rfl (PV.move rfl) ?_
        refine WL.pure rfl rfl rfl (PV.move rfl) ?_
        refine WL.pure rfl rfl rfl (PV.move rfl) ?_
        refine WL.pure rfl rfl rfl (PV.nilCheck rfl) ?_
        refine WL.pure rfl rfl rfl ((by first | exact PV.fieldAddr T.fl127_3 rfl (by first | assumption | exact Bx.cells (by assumption)) | exact PV.fieldAddrP T.fl127_3 rfl rfl)) ?_
        refine WL.pure rfl rfl rfl ((by first | exact PV.load0 T.na2 rfl (by first | exact Cells.up (by assumption) hB | exact Bx.cells (by assumption) | assumption) (Ext.refl _) rfl | exact PV.load1 T.na2 rfl (by first | exact Cells.up (by assumption) hB | exact Bx.cells (by assumption) | assumption) (Ext.refl _) rfl)) ?_
        refine WL.op rfl (OpK.callR rfl T.cf122 rfl (c_spec_l05Side (by first | assumption | exact Rd.up (by assumption) hB | exact Osl.rd (by assumption) | exact Osn.rdR (by assumption) | exact NL.rd (by assumption) | exact rdII (by assumption) (by assumption) | exact Inn.rd (by assumption) (by omega)) (by first | assumption | omega | (simp only [marks_len, marksB_len, marksR_len, sumL_marksS]; omega))) (fun w10 hXw10 => ?_))
        have hB := hB.trans hXw10
        have ho1 := ho1.up hXw10
        have ho9 := ho9.up hXw10
        have hU0 := hU0.ext hXw10
        have hU1 := hU1.ext hXw10
        refine WL.pure rfl rfl rfl (PV.assign rfl) ?_
        refine WL.nilS ?_
        refine CW.seq ?_
        refine CW.seq ?_
        refine CW.reg ?_
        refine WL.pure rfl rfl rfl (PV.move rfl) ?_
        refine WL.pure rfl rfl rfl (PV.nilCheck rfl) ?_
        refine WL.pure rfl rfl rfl ((by first | exact PV.fieldAddr T.fl127_0 rfl (by first | assumption | exact Bx.cells (by assumption)) | exact PV.fieldAddrP T.fl127_0 rfl rfl)) ?_
        refine WL.pure rfl rfl rfl ((by first | exact PV.load0 T.na2 rfl (by first | exact Cells.up (by assumption) hB | exact Bx.cells (by assumption) | assumption) (Ext.refl _) rfl | exact PV.load1 T.na2 rfl (by first | exact Cells.up (by assumption) hB | exact Bx.cells (by assumption) | assumption) (Ext.refl _) rfl)) ?_
        refine WL.pure rfl rfl rfl (PV.move rfl) ?_
        refine WL.pure rfl rfl rfl (PV.neq rfl rfl) ?_
        refine WL.pure rfl rfl rfl (PV.move rfl) ?_
        refine WL.split (t := 117) rfl (fun hc10 => ?_) (fun hc10 => ?_)
        · skip
          try simp only [decide_eq_true_eq, decide_eq_false_iff_not, Bool.not_eq_true', Bool.not_eq_false', Bool.not_eq_eq_eq_not, Bool.not_true, Bool.not_false, Int.not_lt, Int.not_le, Classical.not_not, beq_iff_eq, beq_eq_false_iff_ne] at hc10
          refine WL.skip rfl rfl rfl rfl rfl ?_
          refine WL.skip rfl rfl rfl rfl rfl ?_
          refine WL.pure rfl rfl rfl (PV.pickT rfl rfl) ?_
          refine WL.pure rfl rfl rfl (PV.move rfl) ?_
          refine WL.skip rfl rfl rfl rfl rfl ?_
          refine WL.skip rfl rfl rfl rfl rfl ?_
          refine WL.pure rfl rfl rfl (PV.pickT rfl rfl) ?_
          refine WL.nilS ?_
          refine CW.condT rfl ?_
          refine CW.exit ?_
          refine XQ.then ?_
          refine XQ.here ?_
          refine NQ.then ?_
          refine CW.reg ?_
          refine WL.pure rfl rfl rfl (PV.add rfl rfl (by constructor <;> omega)) ?_
          refine WL.pure rfl rfl rfl (PV.move rfl) ?_
          refine WL.nil ?_
          refine NQ.next (ρ := [(10, _), (88, _)]) ⟨rfl, rfl, rfl, rfl, rfl, rfl, rfl, rfl, rfl, rfl, rfl, rfl, rfl, trivial⟩ ?_
          exact ⟨_, ⟨v9, og9, k + 1, _, _, rfl, rfl, hU1, osE ho9 (by first | rfl | (rw [List.map_append]; rfl)), (by first | exact hg1_9 | exact OgR.weak hg1_9), osE ho1 (by rfl), (by first | omega | assumption | (simp_all; done) | (simp_all; omega)), (by first | exact hBA.put (by omega) hnx (of_decide_eq_false (by assumption)) | exact hBA.put (by omega) hnx (by assumption) | exact hBA.old (by assumption) | exact hBA.no (by first | exact nxt_n1 (by assumption) | exact nxt_n2 (sd_n (by assumption) (by omega)) | exact nxt_n3 (sd_n (by assumption) (by omega)))), (by first | exact hSN.put hW hC hqr | exact hSN)⟩, by omega⟩
        try simp only [decide_eq_true_eq, decide_eq_false_iff_not, Bool.not_eq_true', Bool.not_eq_false', Bool.not_eq_eq_eq_not, Bool.not_true, Bool.not_false, Int.not_lt, Int.not_le, Classical.not_not, beq_iff_eq, beq_eq_false_iff_ne] at hc10
        refine WL.pureG rfl rfl rfl rfl rfl (PV.move rfl) ?_
        refine WL.pureG rfl rfl rfl rfl rfl (PV.lss rfl rfl) ?_
        refine WL.pure rfl rfl rfl (PV.pickF rfl rfl) ?_
        refine WL.pure rfl rfl rfl (PV.move rfl) ?_
        refine WL.split (t := 121) rfl (fun hc11 => ?_) (fun hc11 => ?_)
        · skip
          try simp only [decide_eq_true_eq, decide_eq_false_iff_not, Bool.not_eq_true', Bool.not_eq_false', Bool.not_eq_eq_eq_not, Bool.not_true, Bool.not_false, Int.not_lt, Int.not_le, Classical.not_not, beq_iff_eq, beq_eq_false_iff_ne] at hc11
          refine WL.skip rfl rfl rfl rfl rfl ?_
          refine WL.skip rfl rfl rfl rfl rfl ?_
          refine WL.pure rfl rfl rfl (PV.pickT rfl rfl) ?_
          refine WL.nilS ?_
          refine CW.condT rfl ?_
          refine CW.exit ?_
          refine XQ.then ?_
          refine XQ.here ?_
          refine NQ.then ?_
          refine CW.reg ?_
          refine WL.pure rfl rfl rfl (PV.add rfl rfl (by constructor <;> omega)) ?_
          refine WL.pure rfl rfl rfl (PV.move rfl) ?_
          refine WL.nil ?_
          refine NQ.next (ρ := [(10, _), (88, _)]) ⟨rfl, rfl, rfl, rfl, rfl, rfl, rfl, rfl, rfl, rfl, rfl, rfl, rfl, trivial⟩ ?_
          exact ⟨_, ⟨v9, og9, k + 1, _, _, rfl, rfl, hU1, osE ho9 (by first | rfl | (rw [List.map_append]; rfl)), (by first | exact hg1_9 | exact OgR.weak hg1_9), osE ho1 (by rfl), (by first | omega | assumption | (simp_all; done) | (simp_all; omega)), (by first | exact hBA.put (by omega) hnx (of_decide_eq_false (by assumption)) | exact hBA.put (by omega) hnx (by assumption) | exact hBA.old (by assumption) | exact hBA.no (by first | exact nxt_n1 (by assumption) | exact nxt_n2 (sd_n (by assumption) (by omega)) | exact nxt_n3 (sd_n (by assumption) (by omega)))), (by first | exact hSN.put hW hC hqr | exact hSN)⟩, by omega⟩
        try simp only [decide_eq_true_eq, decide_eq_false_iff_not, Bool.not_eq_true', Bool.not_eq_false', Bool.not_eq_eq_eq_not, Bool.not_true, Bool.not_false, Int.not_lt, Int.not_le, Classical.not_not, beq_iff_eq, beq_eq_false_iff_ne] at hc11
        refine WL.pureG rfl rfl rfl rfl rfl (PV.move rfl) ?_
        refine WL.pureG rfl rfl rfl rfl rfl (PV.lss rfl rfl) ?_
        refine WL.pure rfl rfl rfl (PV.pickF rfl rfl) ?_
        refine WL.nilS ?_
        refine CW.cond rfl (fun hc12 => ?_) (fun hc12 => ?_)
        · skip
          try simp only [decide_eq_true_eq, decide_eq_false_iff_not, Bool.not_eq_true', Bool.not_eq_false', Bool.not_eq_eq_eq_not, Bool.not_true, Bool.not_false, Int.not_lt, Int.not_le, Classical.not_not, beq_iff_eq, beq_eq_false_iff_ne] at hc12
          refine CW.exit ?_
          refine XQ.then ?_
          refine XQ.here ?_
          refine NQ.then ?_
          refine CW.reg ?_
          refine WL.pure rfl rfl rfl (PV.add rfl rfl (by constructor <;> omega)) ?_
          refine WL.pure rfl rfl rfl (PV.move rfl) ?_
          refine WL.nil ?_
          refine NQ.next (ρ := [(10, _), (88, _)]) ⟨rfl, rfl, rfl, rfl, rfl, rfl, rfl, rfl, rfl, rfl, rfl, rfl, rfl, trivial⟩ ?_
          exact ⟨_, ⟨v9, og9, k + 1, _, _, rfl, rfl, hU1, osE ho9 (by first | rfl | (rw [List.map_append]; rfl)), (by first | exact hg1_9 | exact OgR.weak hg1_9), osE ho1 (by rfl), (by first | omega | assumption | (simp_all; done) | (simp_all; omega)), (by first | exact hBA.put (by omega) hnx (of_decide_eq_false (by assumption)) | exact hBA.put (by omega) hnx (by assumption) | exact hBA.old (by assumption) | exact hBA.no (by first | exact nxt_n1 (by assumption) | exact nxt_n2 (sd_n (by assumption) (by omega)) | exact nxt_n3 (sd_n (by assumption) (by omega)))), (by first | exact hSN.put hW hC hqr | exact hSN)⟩, by omega⟩
        try simp only [decide_eq_true_eq, decide_eq_false_iff_not, Bool.not_eq_true', Bool.not_eq_false', Bool.not_eq_eq_eq_not, Bool.not_true, Bool.not_false, Int.not_lt, Int.not_le, Classical.not_not, beq_iff_eq, beq_eq_false_iff_ne] at hc12
        refine CW.skipS ?_
        refine CW.seq ?_
        refine CW.reg ?_
        obtain ⟨hy1, he1⟩ := sd_y (xs := ins) (by omega : ¬ sdI ins p.1 (xa2.getD k (0, 0, 0, 0)).2.2.1 < 0); obtain ⟨hy2, he2⟩ := sd_y (xs := outs) (by omega : ¬ sdI outs p.2.1 (xa2.getD k (0, 0, 0, 0)).2.2.2 < 0); have hnx := nxt_y (ins := ins) (outs := outs) (p := p) (a := xa2.getD k (0, 0, 0, 0)) (by omega) hy1 hy2; have hqr := hpr.next (hva k (by omega)) hnx; have hq1 : 0 ≤ pasI p.1 (xa2.getD k (0, 0, 0, 0)).2.2.1 ∧ pasI p.1 (xa2.getD k (0, 0, 0, 0)).2.2.1 ≤ ins.length := hqr.1; have hq2 : 0 ≤ pasI p.2.1 (xa2.getD k (0, 0, 0, 0)).2.2.2 ∧ pasI p.2.1 (xa2.getD k (0, 0, 0, 0)).2.2.2 ≤ outs.length := hqr.2.1; have hq3 : 0 ≤ (xa2.getD k (0, 0, 0, 0)).2.1 ∧ (xa2.getD k (0, 0, 0, 0)).2.1 ≤ a0 - 1 := hqr.2.2; have hcq : 0 ≤ (xa2.getD k (0, 0, 0, 0)).2.1 * C + pasI p.1 (xa2.getD k (0, 0, 0, 0)).2.2.1 * W + pasI p.2.1 (xa2.getD k (0, 0, 0, 0)).2.2.2 ∧ (xa2.getD k (0, 0, 0, 0)).2.1 * C + pasI p.1 (xa2.getD k (0, 0, 0, 0)).2.2.1 * W + pasI p.2.1 (xa2.getD k (0, 0, 0, 0)).2.2.2 ≤ a0 * C - 1 := (cod_rng hW hC hqr).2; have hm1 := mul_rng (m := 8) (n := 169) (show 0 ≤ (xa2.getD k (0, 0, 0, 0)).2.1 ∧ (xa2.getD k (0, 0, 0, 0)).2.1 ≤ 8 by omega) (show 0 ≤ C ∧ C ≤ 169 by omega); have hm2 := mul_rng (m := 12) (n := 13) (show 0 ≤ pasI p.1 (xa2.getD k (0, 0, 0, 0)).2.2.1 ∧ pasI p.1 (xa2.getD k (0, 0, 0, 0)).2.2.1 ≤ 12 by omega) (show 0 ≤ W ∧ W ≤ 13 by omega); rw [he1, he2]; have hsq : sn.getD ((xa2.getD k (0, 0, 0, 0)).2.1 * C + pasI p.1 (xa2.getD k (0, 0, 0, 0)).2.2.1 * W + pasI p.2.1 (xa2.getD k (0, 0, 0, 0)).2.2.2).toNat false = decide (nxtP p (xa2.getD k (0, 0, 0, 0)) ∈ ps) := hSN.2 _ hqr
        refine WL.pure rfl rfl rfl (PV.move rfl) ?_
        refine WL.pure rfl rfl rfl (PV.nilCheck rfl) ?_
        refine WL.pure rfl rfl rfl ((by first | exact PV.fieldAddr T.fl127_1 rfl (by first | assumption | exact Bx.cells (by assumption)) | exact PV.fieldAddrP T.fl127_1 rfl rfl)) ?_
        refine WL.pure rfl rfl rfl ((by first | exact PV.load0 T.na2 rfl (by first | exact Cells.up (by assumption) hB | exact Bx.cells (by assumption) | assumption) (Ext.refl _) rfl | exact PV.load1 T.na2 rfl (by first | exact Cells.up (by assumption) hB | exact Bx.cells (by assumption) | assumption) (Ext.refl _) rfl)) ?_
        refine WL.pure rfl rfl rfl (PV.move rfl) ?_
        refine WL.pure rfl rfl rfl (PV.mul rfl rfl (by constructor <;> omega)) ?_
        refine WL.pure rfl rfl rfl (PV.move rfl) ?_
        refine WL.pure rfl rfl rfl (PV.move rfl) ?_
        refine WL.pure rfl rfl rfl (PV.mul rfl rfl (by constructor <;> omega)) ?_
        refine WL.pure rfl rfl rfl (PV.add rfl rfl (by constructor <;> omega)) ?_
        refine WL.pure rfl rfl rfl (PV.move rfl) ?_
        refine WL.pure rfl rfl rfl (PV.add rfl rfl (by constructor <;> omega)) ?_
        refine WL.pure rfl rfl rfl (PV.assign rfl) ?_
        refine WL.nilS ?_
        refine CW.seq ?_
        refine CW.reg ?_
        refine WL.pure rfl rfl rfl (PV.move rfl) ?_
        refine WL.pure rfl rfl rfl (PV.move rfl) ?_
        first
          | refine WL.atO (x := .tmp 137) (y := .tmp 138) (f := VB) (false) rfl rfl ho1 (by first | omega | (simp only [List.length_set]; omega) | (simp only [List.length_append, List.length_take, List.length_replicate, List.length_drop]; omega)) (fun p9 hpp9 hcp9 => ?_)
          | refine WL.atOZ (x := .tmp 137) (y := .tmp 138) (f := VB) (false) rfl rfl ho1 (by first | omega | (simp only [List.length_set]; omega) | (simp only [List.length_append, List.length_take, List.length_replicate, List.length_drop]; omega)) (fun p9 hpp9 hzp9 hcp9 => ?_)
        refine WL.pure rfl rfl rfl ((by first | exact PV.indexAddr hpp9 rfl rfl T.sl23 | exact PV.indexAddr hpp9 rfl (by rw [← hzp9]; rfl) T.sl23)) ?_
        refine WL.pure rfl rfl rfl ((by first | exact PV.load0 T.na4 rfl (by first | exact Cells.up (by assumption) hB | exact Bx.cells (by assumption) | assumption) (Ext.refl _) rfl | exact PV.load1 T.na4 rfl (by first | exact Cells.up (by assumption) hB | exact Bx.cells (by assumption) | assumption) (Ext.refl _) rfl)) ?_
        rw [hsq]
        refine WL.pure rfl rfl rfl (PV.not rfl) ?_
        refine WL.nilS ?_
        refine CW.cond rfl (fun hc13 => ?_) (fun hc13 => ?_)
        · skip
          try simp only [decide_eq_true_eq, decide_eq_false_iff_not, Bool.not_eq_true', Bool.not_eq_false', Bool.not_eq_eq_eq_not, Bool.not_true, Bool.not_false, Int.not_lt, Int.not_le, Classical.not_not, beq_iff_eq, beq_eq_false_iff_ne] at hc13
          refine CW.seq ?_
          refine CW.reg ?_
          refine WL.pure rfl rfl rfl (PV.move rfl) ?_
          refine WL.pure rfl rfl rfl (PV.move rfl) ?_
          first
            | refine WL.atO (x := .tmp 142) (y := .tmp 143) (f := VB) (false) rfl rfl ho1 (by first | omega | (simp only [List.length_set]; omega) | (simp only [List.length_append, List.length_take, List.length_replicate, List.length_drop]; omega)) (fun p10 hpp10 hcp10 => ?_)
            | refine WL.atOZ (x := .tmp 142) (y := .tmp 143) (f := VB) (false) rfl rfl ho1 (by first | omega | (simp only [List.length_set]; omega) | (simp only [List.length_append, List.length_take, List.length_replicate, List.length_drop]; omega)) (fun p10 hpp10 hzp10 hcp10 => ?_)
          refine WL.pure rfl rfl rfl ((by first | exact PV.indexAddr hpp10 rfl rfl T.sl23 | exact PV.indexAddr hpp10 rfl (by rw [← hzp10]; rfl) T.sl23)) ?_
          refine WL.op rfl (OpK.storeS VB T.sz4 rfl rfl rfl hpp10 ho1 (fun w11 hXw11 ho1 => ?_))
          have hB := hB.updL hXw11 hl1
          have ho9 := ho9.updD hXw11 (Dj.symm hd1_9)
          have hU0 := hU0.step hXw11 hk0_1
          have hU1 := hU1.step hXw11 hk1_1
          refine WL.nilS ?_
          refine CW.reg ?_
          refine WL.pure rfl rfl rfl (PV.move rfl) ?_
          refine WL.pure rfl rfl rfl (PV.move rfl) ?_
          refine WL.op rfl (OpK.buildS VI (os := [.tmp 146]) [_] rfl T.sl128 rfl rfl T.zv3 rfl (by intro z hz; first | rfl | (simp only [List.mem_cons, List.not_mem_nil, or_false] at hz; subst hz; exact (by first | exact Rd.cells1 (by assumption) | exact Osl.cells1 (by assumption) | exact Osn.cells1 (by assumption) | exact Rd.cells1 (NL.rd (by assumption)) | exact Inn.cell1 (by assumption) (by omega) | rfl))) rfl (fun v11 g11 w12 hXw12 ho11 hge11 => ?_))
          have hl11 := Lo.new hB hge11
          have hd1_11 := Dj.new ho1.ltO hge11
          have hd9_11 := Dj.new ho9.ltO hge11
          have hk0_11 := OkN.new hU0 hge11
          have hg0_11 := OgR.new hU0.size hge11
          have hk1_11 := OkN.new hU1 hge11
          have hg1_11 := OgR.new hU1.size hge11
          have hB := hB.trans hXw12
          have ho1 := ho1.up hXw12
          have ho9 := ho9.up hXw12
          have hU0 := hU0.ext hXw12
          have hU1 := hU1.ext hXw12
          refine WL.op rfl (OpK.appendS (f := VI) rfl T.sl128 T.zv3 rfl rfl ho9 rfl (Osl.src ho11 (fun _ => rfl)) (by first | (simp only [List.length_cons, List.length_nil]; omega) | (simp only [List.length_map, List.length_cons, List.length_nil]; omega)) (fun v12 og12 w13 hXw13 ho12 hap12 => ?_))
          have hl12 := Lo.app hl9 hB hap12
          have hd1_12 := Dj.app hd1_9 ho1.ltO hap12
          have hd11_12 := Dj.app (Dj.symm hd9_11) ho11.ltO hap12
          have hk0_12 := OkN.app hU0 hk0_9 hap12
          have hg0_12 := OgR.app hg0_9 hU0.size hap12
          have hk1_12 := OkN.app hU1 hk1_9 hap12
          have hg1_12 := OgR.app hg1_9 hU1.size hap12
          have hB := hB.updL hXw13 hl9
          have ho1 := ho1.updD hXw13 hd1_9
          have ho11 := ho11.updD hXw13 (Dj.symm hd9_11)
          have hU0 := hU0.step hXw13 hk0_9
          have hU1 := hU1.step hXw13 hk1_9
          refine WL.pure rfl rfl rfl (PV.assign rfl) ?_
          refine WL.nil ?_
          refine NQ.block ?_
          refine NQ.then ?_
          refine CW.reg ?_
          refine WL.pure rfl rfl rfl (PV.add rfl rfl (by constructor <;> omega)) ?_
          refine WL.pure rfl rfl rfl (PV.move rfl) ?_
          refine WL.nil ?_
          refine NQ.next (ρ := [(10, _), (88, _)]) ⟨rfl, rfl, rfl, rfl, rfl, rfl, rfl, rfl, rfl, rfl, rfl, rfl, rfl, trivial⟩ ?_
          exact ⟨_, ⟨v12, og12, k + 1, ps ++ [nxtP p (xa2.getD k z4)], _, rfl, rfl, hU1, osE ho12 (by first | rfl | (rw [List.map_append]; rfl)), (by first | exact hg1_12 | exact OgR.weak hg1_12), osE ho1 (by rfl), (by first | omega | assumption | (simp_all; done) | (simp_all; omega)), (by first | exact hBA.put (by omega) hnx (of_decide_eq_false (by assumption)) | exact hBA.put (by omega) hnx (by assumption) | exact hBA.old (by assumption) | exact hBA.no (by first | exact nxt_n1 (by assumption) | exact nxt_n2 (sd_n (by assumption) (by omega)) | exact nxt_n3 (sd_n (by assumption) (by omega)))), (by first | exact hSN.put hW hC hqr | exact hSN)⟩, by omega⟩
        try simp only [decide_eq_true_eq, decide_eq_false_iff_not, Bool.not_eq_true', Bool.not_eq_false', Bool.not_eq_eq_eq_not, Bool.not_true, Bool.not_false, Int.not_lt, Int.not_le, Classical.not_not, beq_iff_eq, beq_eq_false_iff_ne] at hc13
        refine CW.skip ?_
        refine NQ.block ?_
        refine NQ.then ?_
        refine CW.reg ?_
        refine WL.pure rfl rfl rfl (PV.add rfl rfl (by constructor <;> omega)) ?_
        refine WL.pure rfl rfl rfl (PV.move rfl) ?_
        refine WL.nil ?_
        refine NQ.next (ρ := [(10, _), (88, _)]) ⟨rfl, rfl, rfl, rfl, rfl, rfl, rfl, rfl, rfl, rfl, rfl, rfl, rfl, trivial⟩ ?_
        exact ⟨_, ⟨v9, og9, k + 1, _, _, rfl, rfl, hU1, osE ho9 (by first | rfl | (rw [List.map_append]; rfl)), (by first | exact hg1_9 | exact OgR.weak hg1_9), osE ho1 (by rfl), (by first | omega | assumption | (simp_all; done) | (simp_all; omega)), (by first | exact hBA.put (by omega) hnx (of_decide_eq_false (by assumption)) | exact hBA.put (by omega) hnx (by assumption) | exact hBA.old (by assumption) | exact hBA.no (by first | exact nxt_n1 (by assumption) | exact nxt_n2 (sd_n (by assumption) (by omega)) | exact nxt_n3 (sd_n (by assumption) (by omega)))), (by first | exact hSN.put hW hC hqr | exact hSN)⟩, by omega⟩
      try simp only [decide_eq_true_eq, decide_eq_false_iff_not, Bool.not_eq_true', Bool.not_eq_false', Bool.not_eq_eq_eq_not, Bool.not_true, Bool.not_false, Int.not_lt, Int.not_le, Classical.not_not, beq_iff_eq, beq_eq_false_iff_ne] at hc9
      refine CW.exit ?_
      refine XQ.then ?_
      refine XQ.then ?_
      refine XQ.here ?_
      refine NQ.block ?_
      refine NQ.then ?_
      refine CW.reg ?_
      refine WL.pure rfl rfl rfl (PV.move rfl) ?_
      refine WL.pure rfl rfl rfl (PV.add rfl rfl (by constructor <;> omega)) ?_
      refine WL.pure rfl rfl rfl (PV.assign rfl) ?_
      refine WL.nil ?_
      refine NQ.next (ρ := [(10, _), (11, _)]) ⟨rfl, rfl, rfl, rfl, rfl, rfl, rfl, rfl, trivial⟩ ?_
      exact ⟨_, ⟨v9, og9, at_ + 1, _, _, rfl, rfl, hU0, osE ho9 (by rfl), (by first | exact hg0_9 | exact OgR.weak hg0_9), osE ho1 (by rfl), (by exact hBA.done (by omega)), (by exact hSN)⟩, by (have := hBA.lt; omega)⟩
    try simp only [decide_eq_true_eq, decide_eq_false_iff_not, Bool.not_eq_true', Bool.not_eq_false', Bool.not_eq_eq_eq_not, Bool.not_true, Bool.not_false, Int.not_lt, Int.not_le, Classical.not_not, beq_iff_eq, beq_eq_false_iff_ne] at hc8
    refine WL.pureG rfl rfl rfl rfl rfl (PV.move rfl) ?_
    refine WL.pureG rfl rfl rfl rfl rfl (PV.nilCheck rfl) ?_
    refine WL.pureG rfl rfl rfl rfl rfl ((by first | exact PV.fieldAddr T.fl33_3 rfl (by first | assumption | exact Bx.cells (by assumption)) | exact PV.fieldAddrP T.fl33_3 rfl rfl)) ?_
    refine WL.pureG rfl rfl rfl rfl rfl ((by first | exact PV.load0 T.na23 rfl (by first | exact Cells.up (by assumption) hB | exact Bx.cells (by assumption) | assumption) (Ext.refl _) rfl | exact PV.load1 T.na23 rfl (by first | exact Cells.up (by assumption) hB | exact Bx.cells (by assumption) | assumption) (Ext.refl _) rfl)) ?_
    refine WL.pureG rfl rfl rfl rfl rfl (PV.move rfl) ?_
    first
      | refine WL.at (x := .tmp 78) (y := .tmp 79) (E := EB) (false) rfl rfl (by first | assumption | exact Inn.rd (by assumption) (by omega)) (by first | omega | (simp only [List.length_set]; omega) | (simp only [List.length_append, List.length_take, List.length_replicate, List.length_drop]; omega)) (fun p11 csp11 hpp11 hcp11 hq => ?_)
      | refine WL.atZ (x := .tmp 78) (y := .tmp 79) (E := EB) (false) rfl rfl (by first | assumption | exact Inn.rd (by assumption) (by omega)) (by first | omega | (simp only [List.length_set]; omega) | (simp only [List.length_append, List.length_take, List.length_replicate, List.length_drop]; omega)) (fun p11 csp11 hpp11 hzp11 hcp11 hq => ?_)
    cases hq
    refine WL.pureG rfl rfl rfl rfl rfl ((by first | exact PV.indexAddr hpp11 rfl rfl T.sl23 | exact PV.indexAddr hpp11 rfl (by rw [← hzp11]; rfl) T.sl23)) ?_
    refine WL.pureG rfl rfl rfl rfl rfl ((by first | exact PV.load0 T.na4 rfl (by first | exact Cells.up (by assumption) hB | exact Bx.cells (by assumption) | assumption) (Ext.refl _) rfl | exact PV.load1 T.na4 rfl (by first | exact Cells.up (by assumption) hB | exact Bx.cells (by assumption) | assumption) (Ext.refl _) rfl)) ?_
    refine WL.pure rfl rfl rfl (PV.pickT rfl rfl) ?_
    refine WL.nilS ?_
    refine CW.cond rfl (fun hc14 => ?_) (fun hc14 => ?_)
    · skip
      try simp only [decide_eq_true_eq, decide_eq_false_iff_not, Bool.not_eq_true', Bool.not_eq_false', Bool.not_eq_eq_eq_not, Bool.not_true, Bool.not_false, Int.not_lt, Int.not_le, Classical.not_not, beq_iff_eq, beq_eq_false_iff_ne] at hc14
      refine CW.seq ?_
      refine CW.reg ?_
      refine WL.pure rfl rfl rfl (PV.assign rfl) ?_
      refine WL.nilS ?_
      refine CW.ret ?_
      refine RQ.then ?_
      refine RQ.block ?_
      refine RQ.then ?_
      refine RQ.then ?_
      refine RQ.block ?_
      refine RQ.then ?_
      refine RQ.r1 rfl ?_
      refine ⟨?_, hB⟩
      first | exact bE (hBI.found (by omega) (by rw [hp]; exact (fin_y (by assumption) (by assumption) (by assumption)))) | exact bE (hBI.fail (by omega))
    try simp only [decide_eq_true_eq, decide_eq_false_iff_not, Bool.not_eq_true', Bool.not_eq_false', Bool.not_eq_eq_eq_not, Bool.not_true, Bool.not_false, Int.not_lt, Int.not_le, Classical.not_not, beq_iff_eq, beq_eq_false_iff_ne] at hc14
    refine CW.skipS ?_
    refine CW.seq ?_
    refine CW.reg ?_
    refine WL.pure rfl rfl rfl (PV.move rfl) ?_
    refine WL.pure rfl rfl rfl (PV.nilCheck rfl) ?_
    refine WL.pure rfl rfl rfl ((by first | exact PV.fieldAddr T.fl33_2 rfl (by first | assumption | exact Bx.cells (by assumption)) | exact PV.fieldAddrP T.fl33_2 rfl rfl)) ?_
    refine WL.pure rfl rfl rfl ((by first | exact PV.load0 T.na31 rfl (by first | exact Cells.up (by assumption) hB | exact Bx.cells (by assumption) | assumption) (Ext.refl _) rfl | exact PV.load1 T.na31 rfl (by first | exact Cells.up (by assumption) hB | exact Bx.cells (by assumption) | assumption) (Ext.refl _) rfl)) ?_
    refine WL.pure rfl rfl rfl ((by first | exact PV.len rfl (by assumption) T.sl31 | exact PV.lenOs rfl (by assumption) T.sl31 | exact PV.len rfl (NL.rd (by assumption)) T.sl31 | exact PV.len rfl (Inn.rd (by assumption) (by omega)) T.sl31)) ?_
    refine WL.pure rfl rfl rfl (PV.move rfl) ?_
    refine WL.nilS ?_
    refine CW.block ?_
    have hlt1 := ho1.ltO
    have hlt3 := ho3.ltO
    refine CW.loop (σk := [(0, _), (1, _), (2, _), (7, _), (8, _), (9, _), (11, _), (12, _), (13, _), (14, _), (87, _)]) (fun ρ wz m => ∃ (v13 : Value) (og13 : Option Nat) (k : Nat) (ps : List P3) (sn : List Bool), ρ = [(10, v13), (88, .int .i64 (k : Nat))] ∧ m = xa2.length - k ∧ UpdL [og3, (some g1)] wl1 wz ∧ Osl VI wz og13 v13 (ps.map (codP W C)) ∧ OgR wl1 og3 og13 ∧ Osl VB wz (some g1) v1 (sn) ∧ (k ≤ xa2.length) ∧ (BA xa2 ins outs xa3 at_ p k ps) ∧ (SN ins outs a0 W C sn ps)) (ρ₀ := [(10, _), (88, _)]) (m₀ := _) ⟨rfl, rfl, rfl, rfl, rfl, rfl, rfl, rfl, rfl, rfl, rfl, rfl, rfl, trivial⟩ ⟨v3, og3, 0, _, _, rfl, rfl, (UpdL.refl _ _), osE ho3 (by rfl), OgR.refl _ _, osE ho1 (by rfl), (by first | omega | rfl | (simp; done) | assumption | (simp_all; done)), (by exact hBI.arc (by omega) hp (by first | exact fin_n1 (by assumption) | exact fin_n2 (by assumption) | exact fin_n3 (by assumption))), (by exact hSN)⟩ ?_
    rintro _ wl4 _ ⟨v13, og13, k, ps, sn, rfl, rfl, hU1, ho13, ha13, ho1, hk, hBA, hSN⟩
    have hU0 := hU0.trans hU1 ⟨hk0_3, hk0_1, trivial⟩
    have hl13 := Lo.ogr hl3 hB ha13
    have hg1_13 := ha13
    have hk1_13 : OkB [og3, (some g1)] wl1 og13 := OkB.ogr (OkB.mem (by simp)) (Nat.le_refl _) ha13
    have hk0_13 := OkB.ogr hk0_3 (by first | assumption | exact UpdL.size (by assumption)) ha13
    have hg0_13 := OgR.trans hg0_3 (by first | assumption | exact UpdL.size (by assumption)) ha13
    have hd1_13 := Dj.ogr hd1_3 hlt1 ha13
    have hk1_1 : OkB [og3, (some g1)] wl1 (some g1) := OkB.mem (by simp)
    have hB := hB.loop hU1 ⟨hl3, hl1, trivial⟩
    have hsm := hBA.bi.small hv hi12 ho12; have hsl := hSN.1
    refine CW.seq ?_
    refine CW.reg ?_
    refine WL.pure rfl rfl rfl (PV.lss rfl rfl) ?_
    refine WL.nilS ?_
    refine CW.seq ?_
    refine CW.cond rfl (fun hc15 => ?_) (fun hc15 => ?_)
    · skip
      try simp only [decide_eq_true_eq, decide_eq_false_iff_not, Bool.not_eq_true', Bool.not_eq_false', Bool.not_eq_eq_eq_not, Bool.not_true, Bool.not_false, Int.not_lt, Int.not_le, Classical.not_not, beq_iff_eq, beq_eq_false_iff_ne] at hc15
      refine CW.skipS ?_
      refine CW.seq ?_
      refine CW.block ?_
      refine CW.seq ?_
      refine CW.reg ?_
      refine WL.pure rfl rfl rfl (PV.move rfl) ?_
      refine WL.pure rfl rfl rfl (PV.assign rfl) ?_
      refine WL.nilS ?_
      refine CW.seq ?_
      refine CW.reg ?_
      refine WL.pure rfl rfl rfl (PV.move rfl) ?_
      refine WL.pure rfl rfl rfl (PV.nilCheck rfl) ?_
      refine WL.pure rfl rfl rfl ((by first | exact PV.fieldAddr T.fl33_2 rfl (by first | assumption | exact Bx.cells (by assumption)) | exact PV.fieldAddrP T.fl33_2 rfl rfl)) ?_
      refine WL.pure rfl rfl rfl ((by first | exact PV.load0 T.na31 rfl (by first | exact Cells.up (by assumption) hB | exact Bx.cells (by assumption) | assumption) (Ext.refl _) rfl | exact PV.load1 T.na31 rfl (by first | exact Cells.up (by assumption) hB | exact Bx.cells (by assumption) | assumption) (Ext.refl _) rfl)) ?_
      refine WL.pure rfl rfl rfl (PV.move rfl) ?_
      first
        | refine WL.at (x := .tmp 94) (y := .tmp 95) (E := ER) ((0, 0, 0, 0)) rfl rfl (by first | assumption | exact Inn.rd (by assumption) (by omega)) (by first | omega | (simp only [List.length_set]; omega) | (simp only [List.length_append, List.length_take, List.length_replicate, List.length_drop]; omega)) (fun p12 csp12 hpp12 hcp12 hq => ?_)
        | refine WL.atZ (x := .tmp 94) (y := .tmp 95) (E := ER) ((0, 0, 0, 0)) rfl rfl (by first | assumption | exact Inn.rd (by assumption) (by omega)) (by first | omega | (simp only [List.length_set]; omega) | (simp only [List.length_append, List.length_take, List.length_replicate, List.length_drop]; omega)) (fun p12 csp12 hpp12 hzp12 hcp12 hq => ?_)
      cases hq
      refine WL.pure rfl rfl rfl ((by first | exact PV.indexAddr hpp12 rfl rfl T.sl31 | exact PV.indexAddr hpp12 rfl (by rw [← hzp12]; rfl) T.sl31)) ?_
      refine WL.pure rfl rfl rfl (PV.assign rfl) ?_
      refine WL.nilS ?_
      refine CW.seq ?_
      refine CW.reg ?_
      refine WL.pure rfl rfl rfl (PV.move rfl) ?_
      refine WL.pure rfl rfl rfl (PV.move rfl) ?_
      refine WL.pure rfl rfl rfl (PV.move rfl) ?_
      refine WL.pure rfl rfl rfl (PV.nilCheck rfl) ?_
      refine WL.pure rfl rfl rfl ((by first | exact PV.fieldAddr T.fl127_2 rfl (by first | assumption | exact Bx.cells (by assumption)) | exact PV.fieldAddrP T.fl127_2 rfl rfl)) ?_
      refine WL.pure rfl rfl rfl ((by first | exact PV.load0 T.na2 rfl (by first | exact Cells.up (by assumption) hB | exact Bx.cells (by assumption) | assumption) (Ext.refl _) rfl | exact PV.load1 T.na2 rfl (by first | exact Cells.up (by assumption) hB | exact Bx.cells (by assumption) | assumption) (Ext.refl _) rfl)) ?_
      refine WL.op rfl (OpK.callR rfl T.cf122 rfl (c_spec_l05Side (by first | assumption | exact Rd.up (by assumption) hB | exact Osl.rd (by assumption) | exact Osn.rdR (by assumption) | exact NL.rd (by assumption) | exact rdII (by assumption) (by assumption) | exact Inn.rd (by assumption) (by omega)) (by first | assumption | omega | (simp only [marks_len, marksB_len, marksR_len, sumL_marksS]; omega))) (fun w14 hXw14 => ?_))
      have hB := hB.trans hXw14
      have ho1 := ho1.up hXw14
      have ho13 := ho13.up hXw14
      have hU0 := hU0.ext hXw14
      have hU1 := hU1.ext hXw14
      refine WL.pure rfl rfl rfl (PV.assign rfl) ?_
      refine WL.nilS ?_
      refine CW.seq ?_
      refine CW.reg ?_
      refine WL.pure rfl rfl rfl (PV.move rfl) ?_
      refine WL.pure rfl rfl rfl (PV.move rfl) ?_
      refine WL.pure rfl rfl rfl (PV.move rfl) ?_
      refine WL.pure rfl rfl rfl (PV.nilCheck rfl) ?_
      refine WL.pure rfl rfl rfl ((by first | exact PV.fieldAddr T.fl127_3 rfl (by first | assumption | exact Bx.cells (by assumption)) | exact PV.fieldAddrP T.fl127_3 rfl rfl)) ?_
      refine WL.pure rfl rfl rfl ((by first | exact PV.load0 T.na2 rfl (by first | exact Cells.up (by assumption) hB | exact Bx.cells (by assumption) | assumption) (Ext.refl _) rfl | exact PV.load1 T.na2 rfl (by first | exact Cells.up (by assumption) hB | exact Bx.cells (by assumption) | assumption) (Ext.refl _) rfl)) ?_
      refine WL.op rfl (OpK.callR rfl T.cf122 rfl (c_spec_l05Side (by first | assumption | exact Rd.up (by assumption) hB | exact Osl.rd (by assumption) | exact Osn.rdR (by assumption) | exact NL.rd (by assumption) | exact rdII (by assumption) (by assumption) | exact Inn.rd (by assumption) (by omega)) (by first | assumption | omega | (simp only [marks_len, marksB_len, marksR_len, sumL_marksS]; omega))) (fun w15 hXw15 => ?_))
      have hB := hB.trans hXw15
      have ho1 := ho1.up hXw15
      have ho13 := ho13.up hXw15
      have hU0 := hU0.ext hXw15
      have hU1 := hU1.ext hXw15
      refine WL.pure rfl rfl rfl (PV.assign rfl) ?_
      refine WL.nilS ?_
      refine CW.seq ?_
      refine CW.seq ?_
      refine CW.reg ?_
      refine WL.pure rfl rfl rfl (PV.move rfl) ?_
      refine WL.pure rfl rfl rfl (PV.nilCheck rfl) ?_
      refine WL.pure rfl rfl rfl ((by first | exact PV.fieldAddr T.fl127_0 rfl (by first | assumption | exact Bx.cells (by assumption)) | exact PV.fieldAddrP T.fl127_0 rfl rfl)) ?_
      refine WL.pure rfl rfl rfl ((by first | exact PV.load0 T.na2 rfl (by first | exact Cells.up (by assumption) hB | exact Bx.cells (by assumption) | assumption) (Ext.refl _) rfl | exact PV.load1 T.na2 rfl (by first | exact Cells.up (by assumption) hB | exact Bx.cells (by assumption) | assumption) (Ext.refl _) rfl)) ?_
      refine WL.pure rfl rfl rfl (PV.move rfl) ?_
      refine WL.pure rfl rfl rfl (PV.neq rfl rfl) ?_
      refine WL.pure rfl rfl rfl (PV.move rfl) ?_
      refine WL.split (t := 117) rfl (fun hc16 => ?_) (fun hc16 => ?_)
      · skip
        try simp only [decide_eq_true_eq, decide_eq_false_iff_not, Bool.not_eq_true', Bool.not_eq_false', Bool.not_eq_eq_eq_not, Bool.not_true, Bool.not_false, Int.not_lt, Int.not_le, Classical.not_not, beq_iff_eq, beq_eq_false_iff_ne] at hc16
        refine WL.skip rfl rfl rfl rfl rfl ?_
        refine WL.skip rfl rfl rfl rfl rfl ?_
        refine WL.pure rfl rfl rfl (PV.pickT rfl rfl) ?_
        refine WL.pure rfl rfl rfl (PV.move rfl) ?_
        refine WL.skip rfl rfl rfl rfl rfl ?_
        refine WL.skip rfl rfl rfl rfl rfl ?_
        refine WL.pure rfl rfl rfl (PV.pickT rfl rfl) ?_
        refine WL.nilS ?_
        refine CW.condT rfl ?_
        refine CW.exit ?_
        refine XQ.then ?_
        refine XQ.here ?_
        refine NQ.then ?_
        refine CW.reg ?_
        refine WL.pure rfl rfl rfl (PV.add rfl rfl (by constructor <;> omega)) ?_
        refine WL.pure rfl rfl rfl (PV.move rfl) ?_
        refine WL.nil ?_
        refine NQ.next (ρ := [(10, _), (88, _)]) ⟨rfl, rfl, rfl, rfl, rfl, rfl, rfl, rfl, rfl, rfl, rfl, rfl, rfl, trivial⟩ ?_
        exact ⟨_, ⟨v13, og13, k + 1, _, _, rfl, rfl, hU1, osE ho13 (by first | rfl | (rw [List.map_append]; rfl)), (by first | exact hg1_13 | exact OgR.weak hg1_13), osE ho1 (by rfl), (by first | omega | assumption | (simp_all; done) | (simp_all; omega)), (by first | exact hBA.put (by omega) hnx (of_decide_eq_false (by assumption)) | exact hBA.put (by omega) hnx (by assumption) | exact hBA.old (by assumption) | exact hBA.no (by first | exact nxt_n1 (by assumption) | exact nxt_n2 (sd_n (by assumption) (by omega)) | exact nxt_n3 (sd_n (by assumption) (by omega)))), (by first | exact hSN.put hW hC hqr | exact hSN)⟩, by omega⟩
      try simp only [decide_eq_true_eq, decide_eq_false_iff_not, Bool.not_eq_true', Bool.not_eq_false', Bool.not_eq_eq_eq_not, Bool.not_true, Bool.not_false, Int.not_lt, Int.not_le, Classical.not_not, beq_iff_eq, beq_eq_false_iff_ne] at hc16
      refine WL.pureG rfl rfl rfl rfl rfl (PV.move rfl) ?_
      refine WL.pureG rfl rfl rfl rfl rfl (PV.lss rfl rfl) ?_
      refine WL.pure rfl rfl rfl (PV.pickF rfl rfl) ?_
      refine WL.pure rfl rfl rfl (PV.move rfl) ?_
      refine WL.split (t := 121) rfl (fun hc17 => ?_) (fun hc17 => ?_)
      · skip
        try simp only [decide_eq_true_eq, decide_eq_false_iff_not, Bool.not_eq_true', Bool.not_eq_false', Bool.not_eq_eq_eq_not, Bool.not_true, Bool.not_false, Int.not_lt, Int.not_le, Classical.not_not, beq_iff_eq, beq_eq_false_iff_ne] at hc17
        refine WL.skip rfl rfl rfl rfl rfl ?_
        refine WL.skip rfl rfl rfl rfl rfl ?_
        refine WL.pure rfl rfl rfl (PV.pickT rfl rfl) ?_
        refine WL.nilS ?_
        refine CW.condT rfl ?_
        refine CW.exit ?_
        refine XQ.then ?_
        refine XQ.here ?_
        refine NQ.then ?_
        refine CW.reg ?_
        refine WL.pure rfl rfl rfl (PV.add rfl rfl (by constructor <;> omega)) ?_
        refine WL.pure rfl rfl rfl (PV.move rfl) ?_
        refine WL.nil ?_
        refine NQ.next (ρ := [(10, _), (88, _)]) ⟨rfl, rfl, rfl, rfl, rfl, rfl, rfl, rfl, rfl, rfl, rfl, rfl, rfl, trivial⟩ ?_
        exact ⟨_, ⟨v13, og13, k + 1, _, _, rfl, rfl, hU1, osE ho13 (by first | rfl | (rw [List.map_append]; rfl)), (by first | exact hg1_13 | exact OgR.weak hg1_13), osE ho1 (by rfl), (by first | omega | assumption | (simp_all; done) | (simp_all; omega)), (by first | exact hBA.put (by omega) hnx (of_decide_eq_false (by assumption)) | exact hBA.put (by omega) hnx (by assumption) | exact hBA.old (by assumption) | exact hBA.no (by first | exact nxt_n1 (by assumption) | exact nxt_n2 (sd_n (by assumption) (by omega)) | exact nxt_n3 (sd_n (by assumption) (by omega)))), (by first | exact hSN.put hW hC hqr | exact hSN)⟩, by omega⟩
      try simp only [decide_eq_true_eq, decide_eq_false_iff_not, Bool.not_eq_true', Bool.not_eq_false', Bool.not_eq_eq_eq_not, Bool.not_true, Bool.not_false, Int.not_lt, Int.not_le, Classical.not_not, beq_iff_eq, beq_eq_false_iff_ne] at hc17
      refine WL.pureG rfl rfl rfl rfl rfl (PV.move rfl) ?_
      refine WL.pureG rfl rfl rfl rfl rfl (PV.lss rfl rfl) ?_
      refine WL.pure rfl rfl rfl (PV.pickF rfl rfl) ?_
      refine WL.nilS ?_
      refine CW.cond rfl (fun hc18 => ?_) (fun hc18 => ?_)
      · skip
        try simp only [decide_eq_true_eq, decide_eq_false_iff_not, Bool.not_eq_true', Bool.not_eq_false', Bool.not_eq_eq_eq_not, Bool.not_true, Bool.not_false, Int.not_lt, Int.not_le, Classical.not_not, beq_iff_eq, beq_eq_false_iff_ne] at hc18
        refine CW.exit ?_
        refine XQ.then ?_
        refine XQ.here ?_
        refine NQ.then ?_
        refine CW.reg ?_
        refine WL.pure rfl rfl rfl (PV.add rfl rfl (by constructor <;> omega)) ?_
        refine WL.pure rfl rfl rfl (PV.move rfl) ?_
        refine WL.nil ?_
        refine NQ.next (ρ := [(10, _), (88, _)]) ⟨rfl, rfl, rfl, rfl, rfl, rfl, rfl, rfl, rfl, rfl, rfl, rfl, rfl, trivial⟩ ?_
        exact ⟨_, ⟨v13, og13, k + 1, _, _, rfl, rfl, hU1, osE ho13 (by first | rfl | (rw [List.map_append]; rfl)), (by first | exact hg1_13 | exact OgR.weak hg1_13), osE ho1 (by rfl), (by first | omega | assumption | (simp_all; done) | (simp_all; omega)), (by first | exact hBA.put (by omega) hnx (of_decide_eq_false (by assumption)) | exact hBA.put (by omega) hnx (by assumption) | exact hBA.old (by assumption) | exact hBA.no (by first | exact nxt_n1 (by assumption) | exact nxt_n2 (sd_n (by assumption) (by omega)) | exact nxt_n3 (sd_n (by assumption) (by omega)))), (by first | exact hSN.put hW hC hqr | exact hSN)⟩, by omega⟩
      try simp only [decide_eq_true_eq, decide_eq_false_iff_not, Bool.not_eq_true', Bool.not_eq_false', Bool.not_eq_eq_eq_not, Bool.not_true, Bool.not_false, Int.not_lt, Int.not_le, Classical.not_not, beq_iff_eq, beq_eq_false_iff_ne] at hc18
      refine CW.skipS ?_
      refine CW.seq ?_
      refine CW.reg ?_
      obtain ⟨hy1, he1⟩ := sd_y (xs := ins) (by omega : ¬ sdI ins p.1 (xa2.getD k (0, 0, 0, 0)).2.2.1 < 0); obtain ⟨hy2, he2⟩ := sd_y (xs := outs) (by omega : ¬ sdI outs p.2.1 (xa2.getD k (0, 0, 0, 0)).2.2.2 < 0); have hnx := nxt_y (ins := ins) (outs := outs) (p := p) (a := xa2.getD k (0, 0, 0, 0)) (by omega) hy1 hy2; have hqr := hpr.next (hva k (by omega)) hnx; have hq1 : 0 ≤ pasI p.1 (xa2.getD k (0, 0, 0, 0)).2.2.1 ∧ pasI p.1 (xa2.getD k (0, 0, 0, 0)).2.2.1 ≤ ins.length := hqr.1; have hq2 : 0 ≤ pasI p.2.1 (xa2.getD k (0, 0, 0, 0)).2.2.2 ∧ pasI p.2.1 (xa2.getD k (0, 0, 0, 0)).2.2.2 ≤ outs.length := hqr.2.1; have hq3 : 0 ≤ (xa2.getD k (0, 0, 0, 0)).2.1 ∧ (xa2.getD k (0, 0, 0, 0)).2.1 ≤ a0 - 1 := hqr.2.2; have hcq : 0 ≤ (xa2.getD k (0, 0, 0, 0)).2.1 * C + pasI p.1 (xa2.getD k (0, 0, 0, 0)).2.2.1 * W + pasI p.2.1 (xa2.getD k (0, 0, 0, 0)).2.2.2 ∧ (xa2.getD k (0, 0, 0, 0)).2.1 * C + pasI p.1 (xa2.getD k (0, 0, 0, 0)).2.2.1 * W + pasI p.2.1 (xa2.getD k (0, 0, 0, 0)).2.2.2 ≤ a0 * C - 1 := (cod_rng hW hC hqr).2; have hm1 := mul_rng (m := 8) (n := 169) (show 0 ≤ (xa2.getD k (0, 0, 0, 0)).2.1 ∧ (xa2.getD k (0, 0, 0, 0)).2.1 ≤ 8 by omega) (show 0 ≤ C ∧ C ≤ 169 by omega); have hm2 := mul_rng (m := 12) (n := 13) (show 0 ≤ pasI p.1 (xa2.getD k (0, 0, 0, 0)).2.2.1 ∧ pasI p.1 (xa2.getD k (0, 0, 0, 0)).2.2.1 ≤ 12 by omega) (show 0 ≤ W ∧ W ≤ 13 by omega); rw [he1, he2]; have hsq : sn.getD ((xa2.getD k (0, 0, 0, 0)).2.1 * C + pasI p.1 (xa2.getD k (0, 0, 0, 0)).2.2.1 * W + pasI p.2.1 (xa2.getD k (0, 0, 0, 0)).2.2.2).toNat false = decide (nxtP p (xa2.getD k (0, 0, 0, 0)) ∈ ps) := hSN.2 _ hqr
      refine WL.pure rfl rfl rfl (PV.move rfl) ?_
      refine WL.pure rfl rfl rfl (PV.nilCheck rfl) ?_
      refine WL.pure rfl rfl rfl ((by first | exact PV.fieldAddr T.fl127_1 rfl (by first | assumption | exact Bx.cells (by assumption)) | exact PV.fieldAddrP T.fl127_1 rfl rfl)) ?_
      refine WL.pure rfl rfl rfl ((by first | exact PV.load0 T.na2 rfl (by first | exact Cells.up (by assumption) hB | exact Bx.cells (by assumption) | assumption) (Ext.refl _) rfl | exact PV.load1 T.na2 rfl (by first | exact Cells.up (by assumption) hB | exact Bx.cells (by assumption) | assumption) (Ext.refl _) rfl)) ?_
      refine WL.pure rfl rfl rfl (PV.move rfl) ?_
      refine WL.pure rfl rfl rfl (PV.mul rfl rfl (by constructor <;> omega)) ?_
      refine WL.pure rfl rfl rfl (PV.move rfl) ?_
      refine WL.pure rfl rfl rfl (PV.move rfl) ?_
      refine WL.pure rfl rfl rfl (PV.mul rfl rfl (by constructor <;> omega)) ?_
      refine WL.pure rfl rfl rfl (PV.add rfl rfl (by constructor <;> omega)) ?_
      refine WL.pure rfl rfl rfl (PV.move rfl) ?_
      refine WL.pure rfl rfl rfl (PV.add rfl rfl (by constructor <;> omega)) ?_
      refine WL.pure rfl rfl rfl (PV.assign rfl) ?_
      refine WL.nilS ?_
      refine CW.seq ?_
      refine CW.reg ?_
      refine WL.pure rfl rfl rfl (PV.move rfl) ?_
      refine WL.pure rfl rfl rfl (PV.move rfl) ?_
      first
        | refine WL.atO (x := .tmp 137) (y := .tmp 138) (f := VB) (false) rfl rfl ho1 (by first | omega | (simp only [List.length_set]; omega) | (simp only [List.length_append, List.length_take, List.length_replicate, List.length_drop]; omega)) (fun p13 hpp13 hcp13 => ?_)
        | refine WL.atOZ (x := .tmp 137) (y := .tmp 138) (f := VB) (false) rfl rfl ho1 (by first | omega | (simp only [List.length_set]; omega) | (simp only [List.length_append, List.length_take, List.length_replicate, List.length_drop]; omega)) (fun p13 hpp13 hzp13 hcp13 => ?_)
      refine WL.pure rfl rfl rfl ((by first | exact PV.indexAddr hpp13 rfl rfl T.sl23 | exact PV.indexAddr hpp13 rfl (by rw [← hzp13]; rfl) T.sl23)) ?_
      refine WL.pure rfl rfl rfl ((by first | exact PV.load0 T.na4 rfl (by first | exact Cells.up (by assumption) hB | exact Bx.cells (by assumption) | assumption) (Ext.refl _) rfl | exact PV.load1 T.na4 rfl (by first | exact Cells.up (by assumption) hB | exact Bx.cells (by assumption) | assumption) (Ext.refl _) rfl)) ?_
      rw [hsq]
      refine WL.pure rfl rfl rfl (PV.not rfl) ?_
      refine WL.nilS ?_
      refine CW.cond rfl (fun hc19 => ?_) (fun hc19 => ?_)
      · skip
        try simp only [decide_eq_true_eq, decide_eq_false_iff_not, Bool.not_eq_true', Bool.not_eq_false', Bool.not_eq_eq_eq_not, Bool.not_true, Bool.not_false, Int.not_lt, Int.not_le, Classical.not_not, beq_iff_eq, beq_eq_false_iff_ne] at hc19
        refine CW.seq ?_
        refine CW.reg ?_
        refine WL.pure rfl rfl rfl (PV.move rfl) ?_
        refine WL.pure rfl rfl rfl (PV.move rfl) ?_
        first
          | refine WL.atO (x := .tmp 142) (y := .tmp 143) (f := VB) (false) rfl rfl ho1 (by first | omega | (simp only [List.length_set]; omega) | (simp only [List.length_append, List.length_take, List.length_replicate, List.length_drop]; omega)) (fun p14 hpp14 hcp14 => ?_)
          | refine WL.atOZ (x := .tmp 142) (y := .tmp 143) (f := VB) (false) rfl rfl ho1 (by first | omega | (simp only [List.length_set]; omega) | (simp only [List.length_append, List.length_take, List.length_replicate, List.length_drop]; omega)) (fun p14 hpp14 hzp14 hcp14 => ?_)
        refine WL.pure rfl rfl rfl ((by first | exact PV.indexAddr hpp14 rfl rfl T.sl23 | exact PV.indexAddr hpp14 rfl (by rw [← hzp14]; rfl) T.sl23)) ?_
        refine WL.op rfl (OpK.storeS VB T.sz4 rfl rfl rfl hpp14 ho1 (fun w16 hXw16 ho1 => ?_))
        have hB := hB.updL hXw16 hl1
        have ho13 := ho13.updD hXw16 (Dj.symm hd1_13)
        have hU0 := hU0.step hXw16 hk0_1
        have hU1 := hU1.step hXw16 hk1_1
        refine WL.nilS ?_
        refine CW.reg ?_
        refine WL.pure rfl rfl rfl (PV.move rfl) ?_
        refine WL.pure rfl rfl rfl (PV.move rfl) ?_
        refine WL.op rfl (OpK.buildS VI (os := [.tmp 146]) [_] rfl T.sl128 rfl rfl T.zv3 rfl (by intro z hz; first | rfl | (simp only [List.mem_cons, List.not_mem_nil, or_false] at hz; subst hz; exact (by first | exact Rd.cells1 (by assumption) | exact Osl.cells1 (by assumption) | exact Osn.cells1 (by assumption) | exact Rd.cells1 (NL.rd (by assumption)) | exact Inn.cell1 (by assumption) (by omega) | rfl))) rfl (fun v15 g15 w17 hXw17 ho15 hge15 => ?_))
        have hl15 := Lo.new hB hge15
        have hd1_15 := Dj.new ho1.ltO hge15
        have hd13_15 := Dj.new ho13.ltO hge15
        have hk0_15 := OkN.new hU0 hge15
        have hg0_15 := OgR.new hU0.size hge15
        have hk1_15 := OkN.new hU1 hge15
        have hg1_15 := OgR.new hU1.size hge15
        have hB := hB.trans hXw17
        have ho1 := ho1.up hXw17
        have ho13 := ho13.up hXw17
        have hU0 := hU0.ext hXw17
        have hU1 := hU1.ext hXw17
        refine WL.op rfl (OpK.appendS (f := VI) rfl T.sl128 T.zv3 rfl rfl ho13 rfl (Osl.src ho15 (fun _ => rfl)) (by first | (simp only [List.length_cons, List.length_nil]; omega) | (simp only [List.length_map, List.length_cons, List.length_nil]; omega)) (fun v16 og16 w18 hXw18 ho16 hap16 => ?_))
        have hl16 := Lo.app hl13 hB hap16
        have hd1_16 := Dj.app hd1_13 ho1.ltO hap16
        have hd15_16 := Dj.app (Dj.symm hd13_15) ho15.ltO hap16
        have hk0_16 := OkN.app hU0 hk0_13 hap16
        have hg0_16 := OgR.app hg0_13 hU0.size hap16
        have hk1_16 := OkN.app hU1 hk1_13 hap16
        have hg1_16 := OgR.app hg1_13 hU1.size hap16
        have hB := hB.updL hXw18 hl13
        have ho1 := ho1.updD hXw18 hd1_13
        have ho15 := ho15.updD hXw18 (Dj.symm hd13_15)
        have hU0 := hU0.step hXw18 hk0_13
        have hU1 := hU1.step hXw18 hk1_13
        refine WL.pure rfl rfl rfl (PV.assign rfl) ?_
        refine WL.nil ?_
        refine NQ.block ?_
        refine NQ.then ?_
        refine CW.reg ?_
        refine WL.pure rfl rfl rfl (PV.add rfl rfl (by constructor <;> omega)) ?_
        refine WL.pure rfl rfl rfl (PV.move rfl) ?_
        refine WL.nil ?_
        refine NQ.next (ρ := [(10, _), (88, _)]) ⟨rfl, rfl, rfl, rfl, rfl, rfl, rfl, rfl, rfl, rfl, rfl, rfl, rfl, trivial⟩ ?_
        exact ⟨_, ⟨v16, og16, k + 1, ps ++ [nxtP p (xa2.getD k z4)], _, rfl, rfl, hU1, osE ho16 (by first | rfl | (rw [List.map_append]; rfl)), (by first | exact hg1_16 | exact OgR.weak hg1_16), osE ho1 (by rfl), (by first | omega | assumption | (simp_all; done) | (simp_all; omega)), (by first | exact hBA.put (by omega) hnx (of_decide_eq_false (by assumption)) | exact hBA.put (by omega) hnx (by assumption) | exact hBA.old (by assumption) | exact hBA.no (by first | exact nxt_n1 (by assumption) | exact nxt_n2 (sd_n (by assumption) (by omega)) | exact nxt_n3 (sd_n (by assumption) (by omega)))), (by first | exact hSN.put hW hC hqr | exact hSN)⟩, by omega⟩
      try simp only [decide_eq_true_eq, decide_eq_false_iff_not, Bool.not_eq_true', Bool.not_eq_false', Bool.not_eq_eq_eq_not, Bool.not_true, Bool.not_false, Int.not_lt, Int.not_le, Classical.not_not, beq_iff_eq, beq_eq_false_iff_ne] at hc19
      refine CW.skip ?_
      refine NQ.block ?_
      refine NQ.then ?_
      refine CW.reg ?_
      refine WL.pure rfl rfl rfl (PV.add rfl rfl (by constructor <;> omega)) ?_
      refine WL.pure rfl rfl rfl (PV.move rfl) ?_
      refine WL.nil ?_
      refine NQ.next (ρ := [(10, _), (88, _)]) ⟨rfl, rfl, rfl, rfl, rfl, rfl, rfl, rfl, rfl, rfl, rfl, rfl, rfl, trivial⟩ ?_
      exact ⟨_, ⟨v13, og13, k + 1, _, _, rfl, rfl, hU1, osE ho13 (by first | rfl | (rw [List.map_append]; rfl)), (by first | exact hg1_13 | exact OgR.weak hg1_13), osE ho1 (by rfl), (by first | omega | assumption | (simp_all; done) | (simp_all; omega)), (by first | exact hBA.put (by omega) hnx (of_decide_eq_false (by assumption)) | exact hBA.put (by omega) hnx (by assumption) | exact hBA.old (by assumption) | exact hBA.no (by first | exact nxt_n1 (by assumption) | exact nxt_n2 (sd_n (by assumption) (by omega)) | exact nxt_n3 (sd_n (by assumption) (by omega)))), (by first | exact hSN.put hW hC hqr | exact hSN)⟩, by omega⟩
    try simp only [decide_eq_true_eq, decide_eq_false_iff_not, Bool.not_eq_true', Bool.not_eq_false', Bool.not_eq_eq_eq_not, Bool.not_true, Bool.not_false, Int.not_lt, Int.not_le, Classical.not_not, beq_iff_eq, beq_eq_false_iff_ne] at hc15
    refine CW.exit ?_
    refine XQ.then ?_
    refine XQ.then ?_
    refine XQ.here ?_
    refine NQ.block ?_
    refine NQ.then ?_
    refine CW.reg ?_
    refine WL.pure rfl rfl rfl (PV.move rfl) ?_
    refine WL.pure rfl rfl rfl (PV.add rfl rfl (by constructor <;> omega)) ?_
    refine WL.pure rfl rfl rfl (PV.assign rfl) ?_
    refine WL.nil ?_
    refine NQ.next (ρ := [(10, _), (11, _)]) ⟨rfl, rfl, rfl, rfl, rfl, rfl, rfl, rfl, trivial⟩ ?_
    exact ⟨_, ⟨v13, og13, at_ + 1, _, _, rfl, rfl, hU0, osE ho13 (by rfl), (by first | exact hg0_13 | exact OgR.weak hg0_13), osE ho1 (by rfl), (by exact hBA.done (by omega)), (by exact hSN)⟩, by (have := hBA.lt; omega)⟩
  try simp only [decide_eq_true_eq, decide_eq_false_iff_not, Bool.not_eq_true', Bool.not_eq_false', Bool.not_eq_eq_eq_not, Bool.not_true, Bool.not_false, Int.not_lt, Int.not_le, Classical.not_not, beq_iff_eq, beq_eq_false_iff_ne] at hc1
  refine CW.exit ?_
  refine XQ.then ?_
  refine XQ.then ?_
  refine XQ.here ?_
  refine NQ.then ?_
  refine CW.seq ?_
  refine CW.reg ?_
  refine WL.pure rfl rfl rfl (PV.assign rfl) ?_
  refine WL.nilS ?_
  refine CW.ret ?_
  refine RQ.r1 rfl ?_
  refine ⟨?_, hB⟩
  first | exact bE (hBI.found (by omega) (by rw [hp]; exact (fin_y (by assumption) (by assumption) (by assumption)))) | exact bE (hBI.fail (by omega))
theorem c_spec_OutputsOf {w : World} {a0 : Int} {a1 : Int} {va2 : Value} {xa2 : List R4} {va3 : Value} {xa3 : List Bool} {vi : Value} {ins : List Int} {mo : Int} (ha2 : Rd ER w va2 xa2) (ha3 : Rd EB w va3 xa3) (hi : Rd EI w vi ins) : Calls Try.prog 16 #[.agg #[.int .i64 a0, .int .i64 a1, va2, va3], vi, .int .i64 mo] w (Ret1 (fun v w' => Ext w w' ∧ ∃ u og_u vs_u os_u, v = .tuple #[u, .bool (outB a0 a1 xa2 xa3 ins mo)] ∧ Osl VV w' og_u u vs_u ∧ Lo w og_u ∧ Inn w' os_u vs_u (onT (outB a0 a1 xa2 xa3 ins mo) (outL xa2 xa3 ins a1 mo)) ∧ LoI w os_u ∧ DI os_u og_u)) := by
  have hB : Ext w w := Ext.refl w
  have hla2 := ha2.leI; have hla3 := ha3.leI; have hli := hi.leI
  refine callsOf (vs := [_, _, _]) Try.func16 rfl Try.ntmps16 rfl rfl ?_
  refine CW.seq ?_
  refine CW.reg ?_
  refine WL.op rfl (OpK.box rfl rfl (by first | exact Rd.cells1 (by assumption) | exact Osl.cells1 (by assumption) | exact Osn.cells1 (by assumption) | exact Rd.cells1 (NL.rd (by assumption)) | exact Inn.cell1 (by assumption) (by omega) | rfl) (fun b1 w1 hXw1 hb1 hge1 => ?_))
  have hl1 := Lo.new hB hge1
  have hB := hB.trans hXw1
  refine WL.pure rfl rfl rfl (PV.assign rfl) ?_
  refine WL.pure rfl rfl rfl (PV.assign rfl) ?_
  refine WL.nilS ?_
  refine CW.seq ?_
  refine CW.seq ?_
  refine CW.reg ?_
  refine WL.op rfl (OpK.callR rfl T.cf72 rfl (c_spec_l05Sided (by first | exact Bx.cells (by assumption) | exact Cells.up (by assumption) hB | assumption | exact Cells.add (Bx.cells (by assumption)) _ | exact Cells.add (Cells.up (by assumption) hB) _) (by first | assumption | exact Rd.up (by assumption) hB | exact Osl.rd (by assumption) | exact Osn.rdR (by assumption) | exact NL.rd (by assumption) | exact rdII (by assumption) (by assumption) | exact Inn.rd (by assumption) (by omega)) (by first | assumption | exact Rd.up (by assumption) hB | exact Osl.rd (by assumption) | exact Osn.rdR (by assumption) | exact NL.rd (by assumption) | exact rdII (by assumption) (by assumption) | exact Inn.rd (by assumption) (by omega))) (fun w2 hXw2 => ?_))
  have hB := hB.trans hXw2
  have hb1 := hb1.up hXw2
  refine WL.pure rfl rfl rfl (PV.not rfl) ?_
  refine WL.pure rfl rfl rfl (PV.move rfl) ?_
  refine WL.split (t := 13) rfl (fun hc1 => ?_) (fun hc1 => ?_)
  · skip
    try simp only [decide_eq_true_eq, decide_eq_false_iff_not, Bool.not_eq_true', Bool.not_eq_false', Bool.not_eq_eq_eq_not, Bool.not_true, Bool.not_false, Int.not_lt, Int.not_le, Classical.not_not, beq_iff_eq, beq_eq_false_iff_ne] at hc1
    refine WL.skip rfl rfl rfl rfl rfl ?_
    refine WL.skip rfl rfl rfl rfl rfl ?_
    refine WL.skip rfl rfl rfl rfl rfl ?_
    refine WL.skip rfl rfl rfl rfl rfl ?_
    refine WL.skip rfl rfl rfl rfl rfl ?_
    refine WL.pure rfl rfl rfl (PV.pickT rfl rfl) ?_
    refine WL.pure rfl rfl rfl (PV.move rfl) ?_
    refine WL.skip rfl rfl rfl rfl rfl ?_
    refine WL.skip rfl rfl rfl rfl rfl ?_
    refine WL.skip rfl rfl rfl rfl rfl ?_
    refine WL.pure rfl rfl rfl (PV.pickT rfl rfl) ?_
    refine WL.nilS ?_
    refine CW.condT rfl ?_
    refine CW.seq ?_
    refine CW.reg ?_
    refine WL.pure rfl rfl rfl (PV.assign rfl) ?_
    refine WL.pure rfl rfl rfl (PV.assign rfl) ?_
    refine WL.nilS ?_
    refine CW.ret ?_
    refine RQ.then ?_
    refine RQ.r2 rfl rfl ?_
    first | (have hS : outB a0 a1 xa2 xa3 ins mo = false := (by first | exact out_n1 (by assumption) | exact out_n2 (by assumption) | exact out_n2' (by assumption) (by assumption) | exact out_n3 (by omega)); exact ⟨hB, .slice none 0 0, none, [], [], tE2 rfl (bE hS.symm), Osl.nil _ _, Lo.nl _, innE (Inn.zero _) (onT_no (by rw [hS]; decide)).symm, LoI.nl _, DI.nl _⟩) | (obtain rfl : k = (wordsP a1 (mo.toNat + 1)).length := (by omega); exact ⟨hB, _, _, _, _, tE2 rfl (bE hS.symm), ho5, hl5, innE (Inn.sel hn4 _ (Nat.le_refl _)) (onT_yes hS).symm, LoI.sel hl4 (by rw [hn4.lo]; exact Nat.le_refl _), DI.sel hd4_5 (by rw [hn4.lo]; exact Nat.le_refl _)⟩)
  try simp only [decide_eq_true_eq, decide_eq_false_iff_not, Bool.not_eq_true', Bool.not_eq_false', Bool.not_eq_eq_eq_not, Bool.not_true, Bool.not_false, Int.not_lt, Int.not_le, Classical.not_not, beq_iff_eq, beq_eq_false_iff_ne] at hc1
  have hv9 := (by assumption : sidedV a0 a1 xa2 xa3).2.1
  refine WL.pureG rfl rfl rfl rfl rfl (PV.move rfl) ?_
  refine WL.pureG rfl rfl rfl rfl rfl ((by first | exact PV.fieldAddr T.fl33_1 rfl (by first | assumption | exact Bx.cells (by assumption)) | exact PV.fieldAddrP T.fl33_1 rfl rfl)) ?_
  refine WL.pureG rfl rfl rfl rfl rfl ((by first | exact PV.load0 T.na2 rfl (by first | exact Cells.up (by assumption) hB | exact Bx.cells (by assumption) | assumption) (Ext.refl _) rfl | exact PV.load1 T.na2 rfl (by first | exact Cells.up (by assumption) hB | exact Bx.cells (by assumption) | assumption) (Ext.refl _) rfl)) ?_
  refine WL.opG rfl rfl rfl (OpK.callR rfl T.cf73 rfl (c_spec_l02Word (by first | assumption | exact Rd.up (by assumption) hB | exact Osl.rd (by assumption) | exact Osn.rdR (by assumption) | exact NL.rd (by assumption) | exact rdII (by assumption) (by assumption) | exact Inn.rd (by assumption) (by omega)) (by first | assumption | omega | (simp only [marks_len, marksB_len, marksR_len, sumL_marksS]; omega))) (fun w3 hXw3 => ?_))
  have hB := hB.trans hXw3
  have hb1 := hb1.up hXw3
  refine WL.pureG rfl rfl rfl rfl rfl (PV.not rfl) ?_
  refine WL.pure rfl rfl rfl (PV.pickF rfl rfl) ?_
  refine WL.pure rfl rfl rfl (PV.move rfl) ?_
  refine WL.split (t := 20) rfl (fun hc2 => ?_) (fun hc2 => ?_)
  · skip
    try simp only [decide_eq_true_eq, decide_eq_false_iff_not, Bool.not_eq_true', Bool.not_eq_false', Bool.not_eq_eq_eq_not, Bool.not_true, Bool.not_false, Int.not_lt, Int.not_le, Classical.not_not, beq_iff_eq, beq_eq_false_iff_ne] at hc2
    refine WL.skip rfl rfl rfl rfl rfl ?_
    refine WL.skip rfl rfl rfl rfl rfl ?_
    refine WL.skip rfl rfl rfl rfl rfl ?_
    refine WL.pure rfl rfl rfl (PV.pickT rfl rfl) ?_
    refine WL.nilS ?_
    refine CW.condT rfl ?_
    refine CW.seq ?_
    refine CW.reg ?_
    refine WL.pure rfl rfl rfl (PV.assign rfl) ?_
    refine WL.pure rfl rfl rfl (PV.assign rfl) ?_
    refine WL.nilS ?_
    refine CW.ret ?_
    refine RQ.then ?_
    refine RQ.r2 rfl rfl ?_
    first | (have hS : outB a0 a1 xa2 xa3 ins mo = false := (by first | exact out_n1 (by assumption) | exact out_n2 (by assumption) | exact out_n2' (by assumption) (by assumption) | exact out_n3 (by omega)); exact ⟨hB, .slice none 0 0, none, [], [], tE2 rfl (bE hS.symm), Osl.nil _ _, Lo.nl _, innE (Inn.zero _) (onT_no (by rw [hS]; decide)).symm, LoI.nl _, DI.nl _⟩) | (obtain rfl : k = (wordsP a1 (mo.toNat + 1)).length := (by omega); exact ⟨hB, _, _, _, _, tE2 rfl (bE hS.symm), ho5, hl5, innE (Inn.sel hn4 _ (Nat.le_refl _)) (onT_yes hS).symm, LoI.sel hl4 (by rw [hn4.lo]; exact Nat.le_refl _), DI.sel hd4_5 (by rw [hn4.lo]; exact Nat.le_refl _)⟩)
  try simp only [decide_eq_true_eq, decide_eq_false_iff_not, Bool.not_eq_true', Bool.not_eq_false', Bool.not_eq_eq_eq_not, Bool.not_true, Bool.not_false, Int.not_lt, Int.not_le, Classical.not_not, beq_iff_eq, beq_eq_false_iff_ne] at hc2
  refine WL.pureG rfl rfl rfl rfl rfl (PV.move rfl) ?_
  refine WL.opG rfl rfl rfl (OpK.callR rfl T.cf74 rfl (c_spec_l00In) (fun w4 hXw4 => ?_))
  have hB := hB.trans hXw4
  have hb1 := hb1.up hXw4
  refine WL.pureG rfl rfl rfl rfl rfl (PV.not rfl) ?_
  refine WL.pure rfl rfl rfl (PV.pickF rfl rfl) ?_
  refine WL.nilS ?_
  refine CW.cond rfl (fun hc3 => ?_) (fun hc3 => ?_)
  · skip
    try simp only [decide_eq_true_eq, decide_eq_false_iff_not, Bool.not_eq_true', Bool.not_eq_false', Bool.not_eq_eq_eq_not, Bool.not_true, Bool.not_false, Int.not_lt, Int.not_le, Classical.not_not, beq_iff_eq, beq_eq_false_iff_ne] at hc3
    refine CW.seq ?_
    refine CW.reg ?_
    refine WL.pure rfl rfl rfl (PV.assign rfl) ?_
    refine WL.pure rfl rfl rfl (PV.assign rfl) ?_
    refine WL.nilS ?_
    refine CW.ret ?_
    refine RQ.then ?_
    refine RQ.r2 rfl rfl ?_
    first | (have hS : outB a0 a1 xa2 xa3 ins mo = false := (by first | exact out_n1 (by assumption) | exact out_n2 (by assumption) | exact out_n2' (by assumption) (by assumption) | exact out_n3 (by omega)); exact ⟨hB, .slice none 0 0, none, [], [], tE2 rfl (bE hS.symm), Osl.nil _ _, Lo.nl _, innE (Inn.zero _) (onT_no (by rw [hS]; decide)).symm, LoI.nl _, DI.nl _⟩) | (obtain rfl : k = (wordsP a1 (mo.toNat + 1)).length := (by omega); exact ⟨hB, _, _, _, _, tE2 rfl (bE hS.symm), ho5, hl5, innE (Inn.sel hn4 _ (Nat.le_refl _)) (onT_yes hS).symm, LoI.sel hl4 (by rw [hn4.lo]; exact Nat.le_refl _), DI.sel hd4_5 (by rw [hn4.lo]; exact Nat.le_refl _)⟩)
  try simp only [decide_eq_true_eq, decide_eq_false_iff_not, Bool.not_eq_true', Bool.not_eq_false', Bool.not_eq_eq_eq_not, Bool.not_true, Bool.not_false, Int.not_lt, Int.not_le, Classical.not_not, beq_iff_eq, beq_eq_false_iff_ne] at hc3
  refine CW.skipS ?_
  refine CW.seq ?_
  refine CW.reg ?_
  have hv := (by assumption : sidedV a0 a1 xa2 xa3); have hw9 := isW_of hv (by assumption); have hi12 := isW_12 hw9; have hL := hv.2.1; have hm4 : 0 ≤ mo ∧ mo ≤ 4 := (by first | assumption | omega); have hS := out_y hv hw9 hm4
  refine WL.op rfl (OpK.buildS VV (os := []) [] rfl T.sl28 rfl rfl T.zv26 rfl (by intro z hz; cases hz) rfl (fun v2 g2 w5 hXw5 ho2 hge2 => ?_))
  have hl2 := Lo.new hB hge2
  have hd1_2 := Dj.new hb1.ltO hge2
  have hB := hB.trans hXw5
  have hb1 := hb1.up hXw5
  refine WL.pure rfl rfl rfl (PV.assign rfl) ?_
  refine WL.nilS ?_
  refine CW.seq ?_
  refine CW.reg ?_
  refine WL.pure rfl rfl rfl ((by first | exact PV.fieldAddr T.fl33_1 rfl (by first | assumption | exact Bx.cells (by assumption)) | exact PV.fieldAddrP T.fl33_1 rfl rfl)) ?_
  refine WL.pure rfl rfl rfl ((by first | exact PV.load0 T.na2 rfl (by first | exact Cells.up (by assumption) hB | exact Bx.cells (by assumption) | assumption) (Ext.refl _) rfl | exact PV.load1 T.na2 rfl (by first | exact Cells.up (by assumption) hB | exact Bx.cells (by assumption) | assumption) (Ext.refl _) rfl)) ?_
  refine WL.pure rfl rfl rfl (PV.move rfl) ?_
  refine WL.op rfl (OpK.call rfl T.cf75 rfl (c_spec_l05Words (by first | assumption | omega | (simp only [marks_len, marksB_len, marksR_len, sumL_marksS]; omega)) (by first | assumption | omega | (simp only [marks_len, marksB_len, marksR_len, sumL_marksS]; omega))) (fun rv1 w6 hR => ?_))
  obtain ⟨hXw6, v3, og3, vs4, os4, rfl, ho3, hq3, hn4, hq4, hd3_4⟩ := hR
  have hl3 := Lo.up hq3 hB
  have hd1_3 := Dj.lo hb1.ltO hq3
  have hd2_3 := Dj.lo ho2.ltO hq3
  have hl4 := LoI.up hq4 hB
  have hlv4 := hn4.lv
  have hd1_4 := DI.lo hb1.ltO hq4
  have hd2_4 := DI.lo ho2.ltO hq4
  have hB := hB.trans hXw6
  have hb1 := hb1.up hXw6
  have ho2 := ho2.up hXw6
  refine WL.pure rfl rfl rfl (PV.assign rfl) ?_
  refine WL.nilS ?_
  refine CW.seq ?_
  refine CW.seq ?_
  refine CW.reg ?_
  refine WL.pure rfl rfl rfl (PV.move rfl) ?_
  refine WL.pure rfl rfl rfl ((PV.lenOs rfl ho3 T.sl28)) ?_
  refine WL.pure rfl rfl rfl (PV.move rfl) ?_
  refine WL.nilS ?_
  refine CW.block ?_
  have hlt1 := hb1.ltO
  have hlt2 := ho2.ltO
  have hlt3 := ho3.ltO
  have hlt4 := hn4.ltO
  refine CW.loop (σk := [(1, _), (3, _), (9, _), (31, _)]) (fun ρ wz m => ∃ (v5 : Value) (og5 : Option Nat) (k : Nat), ρ = [(8, v5), (32, .int .i64 (k : Nat))] ∧ m = (wordsP a1 (mo.toNat + 1)).length - k ∧ UpdL [(some g2)] w6 wz ∧ Osl VV wz og5 v5 (sel (fun k => rdB xa2 ins ((wordsP a1 (mo.toNat + 1)).getD k []) xa3) (.slice none 0 0) vs4 k) ∧ OgR w6 (some g2) og5 ∧ (k ≤ (wordsP a1 (mo.toNat + 1)).length)) (ρ₀ := [(8, _), (32, _)]) (m₀ := _) ⟨rfl, rfl, rfl, rfl, rfl, rfl, trivial⟩ ⟨v2, (some g2), 0, rfl, rfl, (UpdL.refl _ _), osE ho2 (by exact sel_zero _ _ _), OgR.refl _ _, (by first | omega | rfl | (simp; done) | assumption | (simp_all; done))⟩ ?_
  rintro _ wl1 _ ⟨v5, og5, k, rfl, rfl, hU0, ho5, ha5, hk⟩
  have hb1 := hb1.loop hU0 ⟨hd1_2, trivial⟩
  have ho3 := ho3.loop hU0 ⟨(Dj.symm hd2_3), trivial⟩
  have hn4 := hn4.loop hU0 ⟨hd2_4, trivial⟩
  have hl5 := Lo.ogr hl2 hB ha5
  have hg0_5 := ha5
  have hk0_5 : OkB [(some g2)] w6 og5 := OkB.ogr (OkB.mem (by simp)) (Nat.le_refl _) ha5
  have hd1_5 := Dj.ogr hd1_2 hlt1 ha5
  have hd3_5 := Dj.ogr (Dj.symm hd2_3) hlt3 ha5
  have hd4_5 := DI.ogr hd2_4 hlt4 ha5
  have hB := hB.loop hU0 ⟨hl2, trivial⟩
  have hpl := wordsP_len (L := a1) (by omega) (mo.toNat + 1) (by omega); have hsl := sel_len (fun k => rdB xa2 ins ((wordsP a1 (mo.toNat + 1)).getD k []) xa3) (.slice none 0 0) vs4 k
  refine CW.seq ?_
  refine CW.reg ?_
  refine WL.pure rfl rfl rfl (PV.lss rfl rfl) ?_
  refine WL.nilS ?_
  refine CW.seq ?_
  refine CW.cond rfl (fun hc4 => ?_) (fun hc4 => ?_)
  · skip
    try simp only [decide_eq_true_eq, decide_eq_false_iff_not, Bool.not_eq_true', Bool.not_eq_false', Bool.not_eq_eq_eq_not, Bool.not_true, Bool.not_false, Int.not_lt, Int.not_le, Classical.not_not, beq_iff_eq, beq_eq_false_iff_ne] at hc4
    refine CW.skipS ?_
    refine CW.seq ?_
    refine CW.block ?_
    refine CW.seq ?_
    refine CW.reg ?_
    refine WL.pure rfl rfl rfl (PV.move rfl) ?_
    refine WL.pure rfl rfl rfl (PV.assign rfl) ?_
    refine WL.nilS ?_
    refine CW.seq ?_
    refine CW.reg ?_
    have hw5 := wordsP_get (L := a1) (m := mo.toNat) (k := k) (by omega)
    refine WL.pure rfl rfl rfl (PV.move rfl) ?_
    refine WL.pure rfl rfl rfl (PV.move rfl) ?_
    refine WL.pure rfl rfl rfl (PV.move rfl) ?_
    first
      | refine WL.atO (x := .tmp 36) (y := .tmp 37) (f := VV) (.slice none 0 0) rfl rfl ho3 (by first | omega | (simp only [List.length_set]; omega) | (simp only [List.length_append, List.length_take, List.length_replicate, List.length_drop]; omega)) (fun p1 hpp1 hcp1 => ?_)
      | refine WL.atOZ (x := .tmp 36) (y := .tmp 37) (f := VV) (.slice none 0 0) rfl rfl ho3 (by first | omega | (simp only [List.length_set]; omega) | (simp only [List.length_append, List.length_take, List.length_replicate, List.length_drop]; omega)) (fun p1 hpp1 hzp1 hcp1 => ?_)
    refine WL.pure rfl rfl rfl ((by first | exact PV.indexAddr hpp1 rfl rfl T.sl28 | exact PV.indexAddr hpp1 rfl (by rw [← hzp1]; rfl) T.sl28)) ?_
    refine WL.pure rfl rfl rfl ((by first | exact PV.load0 T.na26 rfl (by first | exact Cells.up (by assumption) hB | exact Bx.cells (by assumption) | assumption) (Ext.refl _) rfl | exact PV.load1 T.na26 rfl (by first | exact Cells.up (by assumption) hB | exact Bx.cells (by assumption) | assumption) (Ext.refl _) rfl)) ?_
    refine WL.op rfl (OpK.callR rfl T.cf76 rfl (c_spec_l05Reads (by first | exact Bx.cells (by assumption) | exact Cells.up (by assumption) hB | assumption | exact Cells.add (Bx.cells (by assumption)) _ | exact Cells.add (Cells.up (by assumption) hB) _) (by first | assumption | exact Rd.up (by assumption) hB | exact Osl.rd (by assumption) | exact Osn.rdR (by assumption) | exact NL.rd (by assumption) | exact rdII (by assumption) (by assumption) | exact Inn.rd (by assumption) (by omega)) (by first | assumption | exact Rd.up (by assumption) hB | exact Osl.rd (by assumption) | exact Osn.rdR (by assumption) | exact NL.rd (by assumption) | exact rdII (by assumption) (by assumption) | exact Inn.rd (by assumption) (by omega)) (by first | assumption | exact Rd.up (by assumption) hB | exact Osl.rd (by assumption) | exact Osn.rdR (by assumption) | exact NL.rd (by assumption) | exact rdII (by assumption) (by assumption) | exact Inn.rd (by assumption) (by omega)) (by first | assumption | exact Rd.up (by assumption) hB | exact Osl.rd (by assumption) | exact Osn.rdR (by assumption) | exact NL.rd (by assumption) | exact rdII (by assumption) (by assumption) | exact Inn.rd (by assumption) (by omega)) (by first | assumption | omega | (simp only [marks_len, marksB_len, marksR_len, sumL_marksS]; omega)) (by first | assumption | omega | (simp only [marks_len, marksB_len, marksR_len, sumL_marksS]; omega)) (by first | assumption | omega | (simp only [marks_len, marksB_len, marksR_len, sumL_marksS]; omega))) (fun w7 hXw7 => ?_))
    have hB := hB.trans hXw7
    have hb1 := hb1.up hXw7
    have ho3 := ho3.up hXw7
    have hn4 := hn4.up hXw7
    have ho5 := ho5.up hXw7
    have hU0 := hU0.ext hXw7
    refine WL.nilS ?_
    refine CW.cond rfl (fun hc5 => ?_) (fun hc5 => ?_)
    · skip
      try simp only [decide_eq_true_eq, decide_eq_false_iff_not, Bool.not_eq_true', Bool.not_eq_false', Bool.not_eq_eq_eq_not, Bool.not_true, Bool.not_false, Int.not_lt, Int.not_le, Classical.not_not, beq_iff_eq, beq_eq_false_iff_ne] at hc5
      refine CW.reg ?_
      refine WL.pure rfl rfl rfl (PV.move rfl) ?_
      refine WL.pure rfl rfl rfl (PV.move rfl) ?_
      refine WL.pure rfl rfl rfl (PV.move rfl) ?_
      first
        | refine WL.atO (x := .tmp 42) (y := .tmp 43) (f := VV) (.slice none 0 0) rfl rfl ho3 (by first | omega | (simp only [List.length_set]; omega) | (simp only [List.length_append, List.length_take, List.length_replicate, List.length_drop]; omega)) (fun p2 hpp2 hcp2 => ?_)
        | refine WL.atOZ (x := .tmp 42) (y := .tmp 43) (f := VV) (.slice none 0 0) rfl rfl ho3 (by first | omega | (simp only [List.length_set]; omega) | (simp only [List.length_append, List.length_take, List.length_replicate, List.length_drop]; omega)) (fun p2 hpp2 hzp2 hcp2 => ?_)
      refine WL.pure rfl rfl rfl ((by first | exact PV.indexAddr hpp2 rfl rfl T.sl28 | exact PV.indexAddr hpp2 rfl (by rw [← hzp2]; rfl) T.sl28)) ?_
      refine WL.pure rfl rfl rfl ((by first | exact PV.load0 T.na26 rfl (by first | exact Cells.up (by assumption) hB | exact Bx.cells (by assumption) | assumption) (Ext.refl _) rfl | exact PV.load1 T.na26 rfl (by first | exact Cells.up (by assumption) hB | exact Bx.cells (by assumption) | assumption) (Ext.refl _) rfl)) ?_
      refine WL.op rfl (OpK.buildS VV (os := [.tmp 45]) [_] rfl T.sl28 rfl rfl T.zv26 rfl (by intro z hz; first | rfl | (simp only [List.mem_cons, List.not_mem_nil, or_false] at hz; subst hz; exact (by first | exact Rd.cells1 (by assumption) | exact Osl.cells1 (by assumption) | exact Osn.cells1 (by assumption) | exact Rd.cells1 (NL.rd (by assumption)) | exact Inn.cell1 (by assumption) (by omega) | rfl))) rfl (fun v6 g6 w8 hXw8 ho6 hge6 => ?_))
      have hl6 := Lo.new hB hge6
      have hd1_6 := Dj.new hb1.ltO hge6
      have hd3_6 := Dj.new ho3.ltO hge6
      have hd4_6 := DI.new hn4 hge6
      have hd5_6 := Dj.new ho5.ltO hge6
      have hk0_6 := OkN.new hU0 hge6
      have hg0_6 := OgR.new hU0.size hge6
      have hB := hB.trans hXw8
      have hb1 := hb1.up hXw8
      have ho3 := ho3.up hXw8
      have hn4 := hn4.up hXw8
      have ho5 := ho5.up hXw8
      have hU0 := hU0.ext hXw8
      refine WL.op rfl (OpK.appendS (f := VV) rfl T.sl28 T.zv26 rfl rfl ho5 rfl (Osl.srcM ho6 (one_mem (Inn.one1 hn4 (by omega)))) (by first | (simp only [List.length_cons, List.length_nil]; omega) | (simp_all; omega)) (fun v7 og7 w9 hXw9 ho7 hap7 => ?_))
      have hl7 := Lo.app hl5 hB hap7
      have hd1_7 := Dj.app hd1_5 hb1.ltO hap7
      have hd3_7 := Dj.app hd3_5 ho3.ltO hap7
      have hd4_7 := DI.app hd4_5 hn4 hap7
      have hd6_7 := Dj.app (Dj.symm hd5_6) ho6.ltO hap7
      have hk0_7 := OkN.app hU0 hk0_5 hap7
      have hg0_7 := OgR.app hg0_5 hU0.size hap7
      have hB := hB.updL hXw9 hl5
      have hb1 := hb1.updD hXw9 hd1_5
      have ho3 := ho3.updD hXw9 hd3_5
      have hn4 := hn4.updD hXw9 hd4_5
      have ho6 := ho6.updD hXw9 (Dj.symm hd5_6)
      have hU0 := hU0.step hXw9 hk0_5
      refine WL.pure rfl rfl rfl (PV.assign rfl) ?_
      refine WL.nil ?_
      refine NQ.block ?_
      refine NQ.then ?_
      refine CW.reg ?_
      refine WL.pure rfl rfl rfl (PV.add rfl rfl (by constructor <;> omega)) ?_
      refine WL.pure rfl rfl rfl (PV.move rfl) ?_
      refine WL.nil ?_
      refine NQ.next (ρ := [(8, _), (32, _)]) ⟨rfl, rfl, rfl, rfl, rfl, rfl, trivial⟩ ?_
      exact ⟨_, ⟨v7, og7, k + 1, rfl, rfl, hU0, osE ho7 (by first | exact sel_put (by assumption) | exact sel_no (by assumption)), (by first | exact hg0_7 | exact OgR.weak hg0_7), (by first | omega | assumption | (simp_all; done) | (simp_all; omega))⟩, by omega⟩
    try simp only [decide_eq_true_eq, decide_eq_false_iff_not, Bool.not_eq_true', Bool.not_eq_false', Bool.not_eq_eq_eq_not, Bool.not_true, Bool.not_false, Int.not_lt, Int.not_le, Classical.not_not, beq_iff_eq, beq_eq_false_iff_ne] at hc5
    refine CW.skip ?_
    refine NQ.block ?_
    refine NQ.then ?_
    refine CW.reg ?_
    refine WL.pure rfl rfl rfl (PV.add rfl rfl (by constructor <;> omega)) ?_
    refine WL.pure rfl rfl rfl (PV.move rfl) ?_
    refine WL.nil ?_
    refine NQ.next (ρ := [(8, _), (32, _)]) ⟨rfl, rfl, rfl, rfl, rfl, rfl, trivial⟩ ?_
    exact ⟨_, ⟨v5, og5, k + 1, rfl, rfl, hU0, osE ho5 (by first | exact sel_put (by assumption) | exact sel_no (by assumption)), (by first | exact hg0_5 | exact OgR.weak hg0_5), (by first | omega | assumption | (simp_all; done) | (simp_all; omega))⟩, by omega⟩
  try simp only [decide_eq_true_eq, decide_eq_false_iff_not, Bool.not_eq_true', Bool.not_eq_false', Bool.not_eq_eq_eq_not, Bool.not_true, Bool.not_false, Int.not_lt, Int.not_le, Classical.not_not, beq_iff_eq, beq_eq_false_iff_ne] at hc4
  refine CW.exit ?_
  refine XQ.then ?_
  refine XQ.then ?_
  refine XQ.here ?_
  refine NQ.then ?_
  refine CW.seq ?_
  refine CW.reg ?_
  refine WL.pure rfl rfl rfl (PV.move rfl) ?_
  refine WL.pure rfl rfl rfl (PV.assign rfl) ?_
  refine WL.pure rfl rfl rfl (PV.assign rfl) ?_
  refine WL.nilS ?_
  refine CW.ret ?_
  refine RQ.r2 rfl rfl ?_
  first | (have hS : outB a0 a1 xa2 xa3 ins mo = false := (by first | exact out_n1 (by assumption) | exact out_n2 (by assumption) | exact out_n2' (by assumption) (by assumption) | exact out_n3 (by omega)); exact ⟨hB, .slice none 0 0, none, [], [], tE2 rfl (bE hS.symm), Osl.nil _ _, Lo.nl _, innE (Inn.zero _) (onT_no (by rw [hS]; decide)).symm, LoI.nl _, DI.nl _⟩) | (obtain rfl : k = (wordsP a1 (mo.toNat + 1)).length := (by omega); exact ⟨hB, _, _, _, _, tE2 rfl (bE hS.symm), ho5, hl5, innE (Inn.sel hn4 _ (Nat.le_refl _)) (onT_yes hS).symm, LoI.sel hl4 (by rw [hn4.lo]; exact Nat.le_refl _), DI.sel hd4_5 (by rw [hn4.lo]; exact Nat.le_refl _)⟩)
theorem c_impl_within {w : World} {n lo hi : Int} : Calls Try.prog 81 #[.int .i64 n, .int .i64 lo, .int .i64 hi] w (Ret1 (RQt (.bool (decide (lo ≤ n ∧ n ≤ hi))) w)) := by
  have hB : Ext w w := Ext.refl w
  refine callsOf (vs := [_, _, _]) Try.func81 rfl Try.ntmps81 rfl rfl ?_
  refine CW.seq ?_
  refine CW.reg ?_
  refine WL.pure rfl rfl rfl (PV.assign rfl) ?_
  refine WL.nilS ?_
  refine CW.seq ?_
  refine CW.reg ?_
  refine WL.pure rfl rfl rfl (PV.move rfl) ?_
  refine WL.pure rfl rfl rfl (PV.move rfl) ?_
  refine WL.pure rfl rfl rfl (PV.geq rfl rfl) ?_
  refine WL.pure rfl rfl rfl (PV.move rfl) ?_
  refine WL.split (t := 10) rfl (fun hc1 => ?_) (fun hc1 => ?_)
  rotate_left
  · skip
    try simp only [decide_eq_true_eq, decide_eq_false_iff_not, Bool.not_eq_true', Bool.not_eq_false', Bool.not_eq_eq_eq_not, Bool.not_true, Bool.not_false, Int.not_lt, Int.not_le, Classical.not_not, beq_iff_eq, beq_eq_false_iff_ne] at hc1
    refine WL.skip rfl rfl rfl rfl rfl ?_
    refine WL.skip rfl rfl rfl rfl rfl ?_
    refine WL.skip rfl rfl rfl rfl rfl ?_
    refine WL.pure rfl rfl rfl (PV.pickF rfl rfl) ?_
    refine WL.pure rfl rfl rfl (PV.assign rfl) ?_
    refine WL.nilS ?_
    refine CW.ret ?_
    refine RQ.r1 rfl ?_
    refine ⟨?_, hB⟩
    first | rfl | exact bT (by omega) | exact bF (by omega) | exact bD (by omega) | exact iE (by omega) | (simp_all; done) | (simp_all; omega) | (simp_all; intros; omega)
  try simp only [decide_eq_true_eq, decide_eq_false_iff_not, Bool.not_eq_true', Bool.not_eq_false', Bool.not_eq_eq_eq_not, Bool.not_true, Bool.not_false, Int.not_lt, Int.not_le, Classical.not_not, beq_iff_eq, beq_eq_false_iff_ne] at hc1
  refine WL.pureG rfl rfl rfl rfl rfl (PV.move rfl) ?_
  refine WL.pureG rfl rfl rfl rfl rfl (PV.move rfl) ?_
  refine WL.pureG rfl rfl rfl rfl rfl (PV.leq rfl rfl) ?_
  refine WL.pure rfl rfl rfl (PV.pickT rfl rfl) ?_
  refine WL.pure rfl rfl rfl (PV.assign rfl) ?_
  refine WL.nilS ?_
  refine CW.ret ?_
  refine RQ.r1 rfl ?_
  refine ⟨?_, hB⟩
  first | rfl | exact bT (by omega) | exact bF (by omega) | exact bD (by omega) | exact iE (by omega) | (simp_all; done) | (simp_all; omega) | (simp_all; intros; omega)
theorem c_impl_ValidSided {w : World} {a0 : Int} {a1 : Int} {va2 : Value} {xa2 : List R4} {va3 : Value} {xa3 : List Bool}  (ha2 : Rd ER w va2 xa2) (ha3 : Rd EB w va3 xa3) : Calls Try.prog 79 #[.agg #[.int .i64 a0, .int .i64 a1, va2, va3]] w (Ret1 (RQt (.bool (decide (sidedV a0 a1 xa2 xa3))) w)) := by
  have hB : Ext w w := Ext.refl w
  have hla2 := ha2.leI; have hla3 := ha3.leI
  refine callsOf (vs := [_]) Try.func79 rfl Try.ntmps79 rfl rfl ?_
  refine CW.seq ?_
  refine CW.reg ?_
  refine WL.op rfl (OpK.box rfl rfl (by first | exact Rd.cells1 (by assumption) | exact Osl.cells1 (by assumption) | exact Osn.cells1 (by assumption) | exact Rd.cells1 (NL.rd (by assumption)) | exact Inn.cell1 (by assumption) (by omega) | rfl) (fun b1 w1 hXw1 hb1 hge1 => ?_))
  have hl1 := Lo.new hB hge1
  have hB := hB.trans hXw1
  refine WL.pure rfl rfl rfl (PV.assign rfl) ?_
  refine WL.nilS ?_
  refine CW.seq ?_
  refine CW.seq ?_
  refine CW.reg ?_
  refine WL.pure rfl rfl rfl ((by first | exact PV.fieldAddr T.fl33_0 rfl (by first | assumption | exact Bx.cells (by assumption)) | exact PV.fieldAddrP T.fl33_0 rfl rfl)) ?_
  refine WL.pure rfl rfl rfl ((by first | exact PV.load0 T.na2 rfl (by first | exact Cells.up (by assumption) hB | exact Bx.cells (by assumption) | assumption) (Ext.refl _) rfl | exact PV.load1 T.na2 rfl (by first | exact Cells.up (by assumption) hB | exact Bx.cells (by assumption) | assumption) (Ext.refl _) rfl)) ?_
  refine WL.op rfl (OpK.callR rfl T.cf81 rfl (c_impl_within) (fun w2 hXw2 => ?_))
  have hB := hB.trans hXw2
  have hb1 := hb1.up hXw2
  refine WL.pure rfl rfl rfl (PV.not rfl) ?_
  refine WL.pure rfl rfl rfl (PV.move rfl) ?_
  refine WL.split (t := 9) rfl (fun hc1 => ?_) (fun hc1 => ?_)
  · skip
    try simp only [decide_eq_true_eq, decide_eq_false_iff_not, Bool.not_eq_true', Bool.not_eq_false', Bool.not_eq_eq_eq_not, Bool.not_true, Bool.not_false, Int.not_lt, Int.not_le, Classical.not_not, beq_iff_eq, beq_eq_false_iff_ne] at hc1
    refine WL.skip rfl rfl rfl rfl rfl ?_
    refine WL.skip rfl rfl rfl rfl rfl ?_
    refine WL.skip rfl rfl rfl rfl rfl ?_
    refine WL.skip rfl rfl rfl rfl rfl ?_
    refine WL.pure rfl rfl rfl (PV.pickT rfl rfl) ?_
    refine WL.pure rfl rfl rfl (PV.move rfl) ?_
    refine WL.skip rfl rfl rfl rfl rfl ?_
    refine WL.skip rfl rfl rfl rfl rfl ?_
    refine WL.skip rfl rfl rfl rfl rfl ?_
    refine WL.skip rfl rfl rfl rfl rfl ?_
    refine WL.pure rfl rfl rfl (PV.pickT rfl rfl) ?_
    refine WL.pure rfl rfl rfl (PV.move rfl) ?_
    refine WL.skip rfl rfl rfl rfl rfl ?_
    refine WL.skip rfl rfl rfl rfl rfl ?_
    refine WL.skip rfl rfl rfl rfl rfl ?_
    refine WL.skip rfl rfl rfl rfl rfl ?_
    refine WL.skip rfl rfl rfl rfl rfl ?_
    refine WL.skip rfl rfl rfl rfl rfl ?_
    refine WL.pure rfl rfl rfl (PV.pickT rfl rfl) ?_
    refine WL.nilS ?_
    refine CW.condT rfl ?_
    refine CW.seq ?_
    refine CW.reg ?_
    refine WL.pure rfl rfl rfl (PV.assign rfl) ?_
    refine WL.nilS ?_
    refine CW.ret ?_
    refine RQ.then ?_
    refine RQ.r1 rfl ?_
    refine ⟨?_, hB⟩
    first | exact bT ⟨by omega, by omega, by omega, by omega, fun q h => hq q (by omega)⟩ | exact bF (by rintro ⟨h1, h2, h3, h4, h5⟩; first | omega | (have h6 := h5 k (by omega); simp only [okA] at h6; omega))
  try simp only [decide_eq_true_eq, decide_eq_false_iff_not, Bool.not_eq_true', Bool.not_eq_false', Bool.not_eq_eq_eq_not, Bool.not_true, Bool.not_false, Int.not_lt, Int.not_le, Classical.not_not, beq_iff_eq, beq_eq_false_iff_ne] at hc1
  refine WL.pureG rfl rfl rfl rfl rfl ((by first | exact PV.fieldAddr T.fl33_1 rfl (by first | assumption | exact Bx.cells (by assumption)) | exact PV.fieldAddrP T.fl33_1 rfl rfl)) ?_
  refine WL.pureG rfl rfl rfl rfl rfl ((by first | exact PV.load0 T.na2 rfl (by first | exact Cells.up (by assumption) hB | exact Bx.cells (by assumption) | assumption) (Ext.refl _) rfl | exact PV.load1 T.na2 rfl (by first | exact Cells.up (by assumption) hB | exact Bx.cells (by assumption) | assumption) (Ext.refl _) rfl)) ?_
  refine WL.opG rfl rfl rfl (OpK.callR rfl T.cf81 rfl (c_impl_within) (fun w3 hXw3 => ?_))
  have hB := hB.trans hXw3
  have hb1 := hb1.up hXw3
  refine WL.pureG rfl rfl rfl rfl rfl (PV.not rfl) ?_
  refine WL.pure rfl rfl rfl (PV.pickF rfl rfl) ?_
  refine WL.pure rfl rfl rfl (PV.move rfl) ?_
  refine WL.split (t := 15) rfl (fun hc2 => ?_) (fun hc2 => ?_)
  · skip
    try simp only [decide_eq_true_eq, decide_eq_false_iff_not, Bool.not_eq_true', Bool.not_eq_false', Bool.not_eq_eq_eq_not, Bool.not_true, Bool.not_false, Int.not_lt, Int.not_le, Classical.not_not, beq_iff_eq, beq_eq_false_iff_ne] at hc2
    refine WL.skip rfl rfl rfl rfl rfl ?_
    refine WL.skip rfl rfl rfl rfl rfl ?_
    refine WL.skip rfl rfl rfl rfl rfl ?_
    refine WL.skip rfl rfl rfl rfl rfl ?_
    refine WL.pure rfl rfl rfl (PV.pickT rfl rfl) ?_
    refine WL.pure rfl rfl rfl (PV.move rfl) ?_
    refine WL.skip rfl rfl rfl rfl rfl ?_
    refine WL.skip rfl rfl rfl rfl rfl ?_
    refine WL.skip rfl rfl rfl rfl rfl ?_
    refine WL.skip rfl rfl rfl rfl rfl ?_
    refine WL.skip rfl rfl rfl rfl rfl ?_
    refine WL.skip rfl rfl rfl rfl rfl ?_
    refine WL.pure rfl rfl rfl (PV.pickT rfl rfl) ?_
    refine WL.nilS ?_
    refine CW.condT rfl ?_
    refine CW.seq ?_
    refine CW.reg ?_
    refine WL.pure rfl rfl rfl (PV.assign rfl) ?_
    refine WL.nilS ?_
    refine CW.ret ?_
    refine RQ.then ?_
    refine RQ.r1 rfl ?_
    refine ⟨?_, hB⟩
    first | exact bT ⟨by omega, by omega, by omega, by omega, fun q h => hq q (by omega)⟩ | exact bF (by rintro ⟨h1, h2, h3, h4, h5⟩; first | omega | (have h6 := h5 k (by omega); simp only [okA] at h6; omega))
  try simp only [decide_eq_true_eq, decide_eq_false_iff_not, Bool.not_eq_true', Bool.not_eq_false', Bool.not_eq_eq_eq_not, Bool.not_true, Bool.not_false, Int.not_lt, Int.not_le, Classical.not_not, beq_iff_eq, beq_eq_false_iff_ne] at hc2
  refine WL.pureG rfl rfl rfl rfl rfl ((by first | exact PV.fieldAddr T.fl33_2 rfl (by first | assumption | exact Bx.cells (by assumption)) | exact PV.fieldAddrP T.fl33_2 rfl rfl)) ?_
  refine WL.pureG rfl rfl rfl rfl rfl ((by first | exact PV.load0 T.na31 rfl (by first | exact Cells.up (by assumption) hB | exact Bx.cells (by assumption) | assumption) (Ext.refl _) rfl | exact PV.load1 T.na31 rfl (by first | exact Cells.up (by assumption) hB | exact Bx.cells (by assumption) | assumption) (Ext.refl _) rfl)) ?_
  refine WL.pureG rfl rfl rfl rfl rfl ((by first | exact PV.len rfl (by assumption) T.sl31 | exact PV.lenOs rfl (by assumption) T.sl31 | exact PV.len rfl (NL.rd (by assumption)) T.sl31 | exact PV.len rfl (Inn.rd (by assumption) (by omega)) T.sl31)) ?_
  refine WL.pureG rfl rfl rfl rfl rfl (PV.gtr rfl rfl) ?_
  refine WL.pure rfl rfl rfl (PV.pickF rfl rfl) ?_
  refine WL.pure rfl rfl rfl (PV.move rfl) ?_
  refine WL.split (t := 21) rfl (fun hc3 => ?_) (fun hc3 => ?_)
  · skip
    try simp only [decide_eq_true_eq, decide_eq_false_iff_not, Bool.not_eq_true', Bool.not_eq_false', Bool.not_eq_eq_eq_not, Bool.not_true, Bool.not_false, Int.not_lt, Int.not_le, Classical.not_not, beq_iff_eq, beq_eq_false_iff_ne] at hc3
    refine WL.skip rfl rfl rfl rfl rfl ?_
    refine WL.skip rfl rfl rfl rfl rfl ?_
    refine WL.skip rfl rfl rfl rfl rfl ?_
    refine WL.skip rfl rfl rfl rfl rfl ?_
    refine WL.skip rfl rfl rfl rfl rfl ?_
    refine WL.skip rfl rfl rfl rfl rfl ?_
    refine WL.pure rfl rfl rfl (PV.pickT rfl rfl) ?_
    refine WL.nilS ?_
    refine CW.condT rfl ?_
    refine CW.seq ?_
    refine CW.reg ?_
    refine WL.pure rfl rfl rfl (PV.assign rfl) ?_
    refine WL.nilS ?_
    refine CW.ret ?_
    refine RQ.then ?_
    refine RQ.r1 rfl ?_
    refine ⟨?_, hB⟩
    first | exact bT ⟨by omega, by omega, by omega, by omega, fun q h => hq q (by omega)⟩ | exact bF (by rintro ⟨h1, h2, h3, h4, h5⟩; first | omega | (have h6 := h5 k (by omega); simp only [okA] at h6; omega))
  try simp only [decide_eq_true_eq, decide_eq_false_iff_not, Bool.not_eq_true', Bool.not_eq_false', Bool.not_eq_eq_eq_not, Bool.not_true, Bool.not_false, Int.not_lt, Int.not_le, Classical.not_not, beq_iff_eq, beq_eq_false_iff_ne] at hc3
  refine WL.pureG rfl rfl rfl rfl rfl ((by first | exact PV.fieldAddr T.fl33_3 rfl (by first | assumption | exact Bx.cells (by assumption)) | exact PV.fieldAddrP T.fl33_3 rfl rfl)) ?_
  refine WL.pureG rfl rfl rfl rfl rfl ((by first | exact PV.load0 T.na23 rfl (by first | exact Cells.up (by assumption) hB | exact Bx.cells (by assumption) | assumption) (Ext.refl _) rfl | exact PV.load1 T.na23 rfl (by first | exact Cells.up (by assumption) hB | exact Bx.cells (by assumption) | assumption) (Ext.refl _) rfl)) ?_
  refine WL.pureG rfl rfl rfl rfl rfl ((by first | exact PV.len rfl (by assumption) T.sl23 | exact PV.lenOs rfl (by assumption) T.sl23 | exact PV.len rfl (NL.rd (by assumption)) T.sl23 | exact PV.len rfl (Inn.rd (by assumption) (by omega)) T.sl23)) ?_
  refine WL.pureG rfl rfl rfl rfl rfl ((by first | exact PV.fieldAddr T.fl33_0 rfl (by first | assumption | exact Bx.cells (by assumption)) | exact PV.fieldAddrP T.fl33_0 rfl rfl)) ?_
  refine WL.pureG rfl rfl rfl rfl rfl ((by first | exact PV.load0 T.na2 rfl (by first | exact Cells.up (by assumption) hB | exact Bx.cells (by assumption) | assumption) (Ext.refl _) rfl | exact PV.load1 T.na2 rfl (by first | exact Cells.up (by assumption) hB | exact Bx.cells (by assumption) | assumption) (Ext.refl _) rfl)) ?_
  refine WL.pureG rfl rfl rfl rfl rfl (PV.neq rfl rfl) ?_
  refine WL.pure rfl rfl rfl (PV.pickF rfl rfl) ?_
  refine WL.nilS ?_
  refine CW.cond rfl (fun hc4 => ?_) (fun hc4 => ?_)
  · skip
    try simp only [decide_eq_true_eq, decide_eq_false_iff_not, Bool.not_eq_true', Bool.not_eq_false', Bool.not_eq_eq_eq_not, Bool.not_true, Bool.not_false, Int.not_lt, Int.not_le, Classical.not_not, beq_iff_eq, beq_eq_false_iff_ne] at hc4
    refine CW.seq ?_
    refine CW.reg ?_
    refine WL.pure rfl rfl rfl (PV.assign rfl) ?_
    refine WL.nilS ?_
    refine CW.ret ?_
    refine RQ.then ?_
    refine RQ.r1 rfl ?_
    refine ⟨?_, hB⟩
    first | exact bT ⟨by omega, by omega, by omega, by omega, fun q h => hq q (by omega)⟩ | exact bF (by rintro ⟨h1, h2, h3, h4, h5⟩; first | omega | (have h6 := h5 k (by omega); simp only [okA] at h6; omega))
  try simp only [decide_eq_true_eq, decide_eq_false_iff_not, Bool.not_eq_true', Bool.not_eq_false', Bool.not_eq_eq_eq_not, Bool.not_true, Bool.not_false, Int.not_lt, Int.not_le, Classical.not_not, beq_iff_eq, beq_eq_false_iff_ne] at hc4
  refine CW.skipS ?_
  refine CW.seq ?_
  refine CW.seq ?_
  refine CW.reg ?_
  refine WL.pure rfl rfl rfl ((by first | exact PV.fieldAddr T.fl33_2 rfl (by first | assumption | exact Bx.cells (by assumption)) | exact PV.fieldAddrP T.fl33_2 rfl rfl)) ?_
  refine WL.pure rfl rfl rfl ((by first | exact PV.load0 T.na31 rfl (by first | exact Cells.up (by assumption) hB | exact Bx.cells (by assumption) | assumption) (Ext.refl _) rfl | exact PV.load1 T.na31 rfl (by first | exact Cells.up (by assumption) hB | exact Bx.cells (by assumption) | assumption) (Ext.refl _) rfl)) ?_
  refine WL.pure rfl rfl rfl ((by first | exact PV.len rfl (by assumption) T.sl31 | exact PV.lenOs rfl (by assumption) T.sl31 | exact PV.len rfl (NL.rd (by assumption)) T.sl31 | exact PV.len rfl (Inn.rd (by assumption) (by omega)) T.sl31)) ?_
  refine WL.pure rfl rfl rfl (PV.move rfl) ?_
  refine WL.nilS ?_
  refine CW.block ?_
  refine CW.loop (σk := [(1, _), (30, _), (31, _)]) (fun ρ wz m => ∃ (k : Nat), ρ = [(32, .int .i64 (k : Nat))] ∧ m = xa2.length - k ∧ UpdL [] w3 wz ∧ (k ≤ xa2.length) ∧ (∀ q : Nat, q < k → okA a0 a1 (xa2.getD q (0, 0, 0, 0)))) (ρ₀ := [(32, _)]) (m₀ := _) ⟨rfl, rfl, rfl, rfl, trivial⟩ ⟨0, rfl, rfl, (UpdL.refl _ _), (by first | omega | rfl | (simp; done) | assumption | (simp_all; done)), (by intro q h1; exact absurd h1 (by omega))⟩ ?_
  rintro _ wl1 _ ⟨k, rfl, rfl, hU0, hk, hq⟩
  have hb1 := hb1.loop hU0 trivial
  have hB := hB.loop hU0 trivial
  refine CW.seq ?_
  refine CW.reg ?_
  refine WL.pure rfl rfl rfl (PV.lss rfl rfl) ?_
  refine WL.nilS ?_
  refine CW.seq ?_
  refine CW.cond rfl (fun hc5 => ?_) (fun hc5 => ?_)
  · skip
    try simp only [decide_eq_true_eq, decide_eq_false_iff_not, Bool.not_eq_true', Bool.not_eq_false', Bool.not_eq_eq_eq_not, Bool.not_true, Bool.not_false, Int.not_lt, Int.not_le, Classical.not_not, beq_iff_eq, beq_eq_false_iff_ne] at hc5
    refine CW.skipS ?_
    refine CW.seq ?_
    refine CW.block ?_
    refine CW.seq ?_
    refine CW.reg ?_
    first
      | refine WL.at (x := .tmp 30) (y := .tmp 32) (E := ER) ((0, 0, 0, 0)) rfl rfl (by first | assumption | exact Inn.rd (by assumption) (by omega)) (by first | omega | (simp only [List.length_set]; omega) | (simp only [List.length_append, List.length_take, List.length_replicate, List.length_drop]; omega)) (fun p1 csp1 hpp1 hcp1 hq => ?_)
      | refine WL.atZ (x := .tmp 30) (y := .tmp 32) (E := ER) ((0, 0, 0, 0)) rfl rfl (by first | assumption | exact Inn.rd (by assumption) (by omega)) (by first | omega | (simp only [List.length_set]; omega) | (simp only [List.length_append, List.length_take, List.length_replicate, List.length_drop]; omega)) (fun p1 csp1 hpp1 hzp1 hcp1 hq => ?_)
    cases hq
    refine WL.pure rfl rfl rfl ((by first | exact PV.indexAddr hpp1 rfl rfl T.sl31 | exact PV.indexAddr hpp1 rfl (by rw [← hzp1]; rfl) T.sl31)) ?_
    refine WL.pure rfl rfl rfl ((by first | exact PV.loadA T.ag127 rfl (by first | exact Cells.up (by assumption) hB | exact Bx.cells (by assumption) | assumption) (Ext.refl _) rfl | exact PV.loadP (ds := [_, _, _, _]) T.ag127 rfl (by first | exact Cells.up (by assumption) hB | exact Bx.cells (by assumption) | assumption) (Ext.refl _) rfl rfl)) ?_
    refine WL.op rfl (OpK.alloc rfl T.zv127 rfl (fun b2 w4 hXw4 hb2 hge2 => ?_))
    have hl2 := Lo.new hB hge2
    have hd1_2 := Dj.new hb1.ltO hge2
    have hk0_2 := OkN.new hU0 hge2
    have hg0_2 := OgR.new hU0.size hge2
    have hB := hB.trans hXw4
    have hb1 := hb1.up hXw4
    have hU0 := hU0.ext hXw4
    refine WL.op rfl (OpK.storeA T.sz127 rfl rfl rfl rfl (by simp [Value.oneCell'] <;> first | done | (repeat' apply And.intro) <;> first | rfl | exact Inn.one1 (by assumption) (by omega) | exact Osl.oneCell (by assumption) | exact Osn.oneCell (by assumption) | exact Rd.oneCell (by assumption) | exact Rd.oneCell (NL.rd (by assumption)) | assumption) hb2 (fun w5 hXw5 hb2 => ?_))
    have hB := hB.updL hXw5 hl2
    have hb1 := hb1.updD hXw5 hd1_2
    have hU0 := hU0.step hXw5 hk0_2
    refine WL.nilS ?_
    refine CW.seq ?_
    refine CW.reg ?_
    refine WL.pure rfl rfl rfl ((by first | exact PV.fieldAddr T.fl127_0 rfl (by first | assumption | exact Bx.cells (by assumption)) | exact PV.fieldAddrP T.fl127_0 rfl rfl)) ?_
    refine WL.pure rfl rfl rfl ((by first | exact PV.load0 T.na2 rfl (by first | exact Cells.up (by assumption) hB | exact Bx.cells (by assumption) | assumption) (Ext.refl _) rfl | exact PV.load1 T.na2 rfl (by first | exact Cells.up (by assumption) hB | exact Bx.cells (by assumption) | assumption) (Ext.refl _) rfl)) ?_
    refine WL.pure rfl rfl rfl ((by first | exact PV.fieldAddr T.fl33_0 rfl (by first | assumption | exact Bx.cells (by assumption)) | exact PV.fieldAddrP T.fl33_0 rfl rfl)) ?_
    refine WL.pure rfl rfl rfl ((by first | exact PV.load0 T.na2 rfl (by first | exact Cells.up (by assumption) hB | exact Bx.cells (by assumption) | assumption) (Ext.refl _) rfl | exact PV.load1 T.na2 rfl (by first | exact Cells.up (by assumption) hB | exact Bx.cells (by assumption) | assumption) (Ext.refl _) rfl)) ?_
    refine WL.pure rfl rfl rfl (PV.sub rfl rfl (by constructor <;> omega)) ?_
    refine WL.op rfl (OpK.callR rfl T.cf81 rfl (c_impl_within) (fun w6 hXw6 => ?_))
    have hB := hB.trans hXw6
    have hb1 := hb1.up hXw6
    have hb2 := hb2.up hXw6
    have hU0 := hU0.ext hXw6
    refine WL.pure rfl rfl rfl (PV.not rfl) ?_
    refine WL.pure rfl rfl rfl (PV.move rfl) ?_
    refine WL.split (t := 43) rfl (fun hc6 => ?_) (fun hc6 => ?_)
    · skip
      try simp only [decide_eq_true_eq, decide_eq_false_iff_not, Bool.not_eq_true', Bool.not_eq_false', Bool.not_eq_eq_eq_not, Bool.not_true, Bool.not_false, Int.not_lt, Int.not_le, Classical.not_not, beq_iff_eq, beq_eq_false_iff_ne] at hc6
      refine WL.skip rfl rfl rfl rfl rfl ?_
      refine WL.skip rfl rfl rfl rfl rfl ?_
      refine WL.skip rfl rfl rfl rfl rfl ?_
      refine WL.skip rfl rfl rfl rfl rfl ?_
      refine WL.skip rfl rfl rfl rfl rfl ?_
      refine WL.skip rfl rfl rfl rfl rfl ?_
      refine WL.skip rfl rfl rfl rfl rfl ?_
      refine WL.pure rfl rfl rfl (PV.pickT rfl rfl) ?_
      refine WL.pure rfl rfl rfl (PV.move rfl) ?_
      refine WL.skip rfl rfl rfl rfl rfl ?_
      refine WL.skip rfl rfl rfl rfl rfl ?_
      refine WL.skip rfl rfl rfl rfl rfl ?_
      refine WL.skip rfl rfl rfl rfl rfl ?_
      refine WL.skip rfl rfl rfl rfl rfl ?_
      refine WL.skip rfl rfl rfl rfl rfl ?_
      refine WL.skip rfl rfl rfl rfl rfl ?_
      refine WL.pure rfl rfl rfl (PV.pickT rfl rfl) ?_
      refine WL.pure rfl rfl rfl (PV.move rfl) ?_
      refine WL.skip rfl rfl rfl rfl rfl ?_
      refine WL.skip rfl rfl rfl rfl rfl ?_
      refine WL.skip rfl rfl rfl rfl rfl ?_
      refine WL.skip rfl rfl rfl rfl rfl ?_
      refine WL.skip rfl rfl rfl rfl rfl ?_
      refine WL.skip rfl rfl rfl rfl rfl ?_
      refine WL.skip rfl rfl rfl rfl rfl ?_
      refine WL.pure rfl rfl rfl (PV.pickT rfl rfl) ?_
      refine WL.nilS ?_
      refine CW.condT rfl ?_
      refine CW.seq ?_
      refine CW.reg ?_
      refine WL.pure rfl rfl rfl (PV.assign rfl) ?_
      refine WL.nilS ?_
      refine CW.ret ?_
      refine RQ.block ?_
      refine RQ.then ?_
      refine RQ.then ?_
      refine RQ.block ?_
      refine RQ.then ?_
      refine RQ.r1 rfl ?_
      refine ⟨?_, hB⟩
      first | exact bT ⟨by omega, by omega, by omega, by omega, fun q h => hq q (by omega)⟩ | exact bF (by rintro ⟨h1, h2, h3, h4, h5⟩; first | omega | (have h6 := h5 k (by omega); simp only [okA] at h6; omega))
    try simp only [decide_eq_true_eq, decide_eq_false_iff_not, Bool.not_eq_true', Bool.not_eq_false', Bool.not_eq_eq_eq_not, Bool.not_true, Bool.not_false, Int.not_lt, Int.not_le, Classical.not_not, beq_iff_eq, beq_eq_false_iff_ne] at hc6
    refine WL.pureG rfl rfl rfl rfl rfl ((by first | exact PV.fieldAddr T.fl127_1 rfl (by first | assumption | exact Bx.cells (by assumption)) | exact PV.fieldAddrP T.fl127_1 rfl rfl)) ?_
    refine WL.pureG rfl rfl rfl rfl rfl ((by first | exact PV.load0 T.na2 rfl (by first | exact Cells.up (by assumption) hB | exact Bx.cells (by assumption) | assumption) (Ext.refl _) rfl | exact PV.load1 T.na2 rfl (by first | exact Cells.up (by assumption) hB | exact Bx.cells (by assumption) | assumption) (Ext.refl _) rfl)) ?_
    refine WL.pureG rfl rfl rfl rfl rfl ((by first | exact PV.fieldAddr T.fl33_0 rfl (by first | assumption | exact Bx.cells (by assumption)) | exact PV.fieldAddrP T.fl33_0 rfl rfl)) ?_
    refine WL.pureG rfl rfl rfl rfl rfl ((by first | exact PV.load0 T.na2 rfl (by first | exact Cells.up (by assumption) hB | exact Bx.cells (by assumption) | assumption) (Ext.refl _) rfl | exact PV.load1 T.na2 rfl (by first | exact Cells.up (by assumption) hB | exact Bx.cells (by assumption) | assumption) (Ext.refl _) rfl)) ?_
    refine WL.pureG rfl rfl rfl rfl rfl (PV.sub rfl rfl (by constructor <;> omega)) ?_
    refine WL.opG rfl rfl rfl (OpK.callR rfl T.cf81 rfl (c_impl_within) (fun w7 hXw7 => ?_))
    have hB := hB.trans hXw7
    have hb1 := hb1.up hXw7
    have hb2 := hb2.up hXw7
    have hU0 := hU0.ext hXw7
    refine WL.pureG rfl rfl rfl rfl rfl (PV.not rfl) ?_
    refine WL.pure rfl rfl rfl (PV.pickF rfl rfl) ?_
    refine WL.pure rfl rfl rfl (PV.move rfl) ?_
    refine WL.split (t := 52) rfl (fun hc7 => ?_) (fun hc7 => ?_)
    · skip
      try simp only [decide_eq_true_eq, decide_eq_false_iff_not, Bool.not_eq_true', Bool.not_eq_false', Bool.not_eq_eq_eq_not, Bool.not_true, Bool.not_false, Int.not_lt, Int.not_le, Classical.not_not, beq_iff_eq, beq_eq_false_iff_ne] at hc7
      refine WL.skip rfl rfl rfl rfl rfl ?_
      refine WL.skip rfl rfl rfl rfl rfl ?_
      refine WL.skip rfl rfl rfl rfl rfl ?_
      refine WL.skip rfl rfl rfl rfl rfl ?_
      refine WL.skip rfl rfl rfl rfl rfl ?_
      refine WL.skip rfl rfl rfl rfl rfl ?_
      refine WL.skip rfl rfl rfl rfl rfl ?_
      refine WL.pure rfl rfl rfl (PV.pickT rfl rfl) ?_
      refine WL.pure rfl rfl rfl (PV.move rfl) ?_
      refine WL.skip rfl rfl rfl rfl rfl ?_
      refine WL.skip rfl rfl rfl rfl rfl ?_
      refine WL.skip rfl rfl rfl rfl rfl ?_
      refine WL.skip rfl rfl rfl rfl rfl ?_
      refine WL.skip rfl rfl rfl rfl rfl ?_
      refine WL.skip rfl rfl rfl rfl rfl ?_
      refine WL.skip rfl rfl rfl rfl rfl ?_
      refine WL.pure rfl rfl rfl (PV.pickT rfl rfl) ?_
      refine WL.nilS ?_
      refine CW.condT rfl ?_
      refine CW.seq ?_
      refine CW.reg ?_
      refine WL.pure rfl rfl rfl (PV.assign rfl) ?_
      refine WL.nilS ?_
      refine CW.ret ?_
      refine RQ.block ?_
      refine RQ.then ?_
      refine RQ.then ?_
      refine RQ.block ?_
      refine RQ.then ?_
      refine RQ.r1 rfl ?_
      refine ⟨?_, hB⟩
      first | exact bT ⟨by omega, by omega, by omega, by omega, fun q h => hq q (by omega)⟩ | exact bF (by rintro ⟨h1, h2, h3, h4, h5⟩; first | omega | (have h6 := h5 k (by omega); simp only [okA] at h6; omega))
    try simp only [decide_eq_true_eq, decide_eq_false_iff_not, Bool.not_eq_true', Bool.not_eq_false', Bool.not_eq_eq_eq_not, Bool.not_true, Bool.not_false, Int.not_lt, Int.not_le, Classical.not_not, beq_iff_eq, beq_eq_false_iff_ne] at hc7
    refine WL.pureG rfl rfl rfl rfl rfl ((by first | exact PV.fieldAddr T.fl127_2 rfl (by first | assumption | exact Bx.cells (by assumption)) | exact PV.fieldAddrP T.fl127_2 rfl rfl)) ?_
    refine WL.pureG rfl rfl rfl rfl rfl ((by first | exact PV.load0 T.na2 rfl (by first | exact Cells.up (by assumption) hB | exact Bx.cells (by assumption) | assumption) (Ext.refl _) rfl | exact PV.load1 T.na2 rfl (by first | exact Cells.up (by assumption) hB | exact Bx.cells (by assumption) | assumption) (Ext.refl _) rfl)) ?_
    refine WL.pureG rfl rfl rfl rfl rfl ((by first | exact PV.fieldAddr T.fl33_1 rfl (by first | assumption | exact Bx.cells (by assumption)) | exact PV.fieldAddrP T.fl33_1 rfl rfl)) ?_
    refine WL.pureG rfl rfl rfl rfl rfl ((by first | exact PV.load0 T.na2 rfl (by first | exact Cells.up (by assumption) hB | exact Bx.cells (by assumption) | assumption) (Ext.refl _) rfl | exact PV.load1 T.na2 rfl (by first | exact Cells.up (by assumption) hB | exact Bx.cells (by assumption) | assumption) (Ext.refl _) rfl)) ?_
    refine WL.pureG rfl rfl rfl rfl rfl (PV.sub rfl rfl (by constructor <;> omega)) ?_
    refine WL.opG rfl rfl rfl (OpK.callR rfl T.cf81 rfl (c_impl_within) (fun w8 hXw8 => ?_))
    have hB := hB.trans hXw8
    have hb1 := hb1.up hXw8
    have hb2 := hb2.up hXw8
    have hU0 := hU0.ext hXw8
    refine WL.pureG rfl rfl rfl rfl rfl (PV.not rfl) ?_
    refine WL.pure rfl rfl rfl (PV.pickF rfl rfl) ?_
    refine WL.pure rfl rfl rfl (PV.move rfl) ?_
    refine WL.split (t := 61) rfl (fun hc8 => ?_) (fun hc8 => ?_)
    · skip
      try simp only [decide_eq_true_eq, decide_eq_false_iff_not, Bool.not_eq_true', Bool.not_eq_false', Bool.not_eq_eq_eq_not, Bool.not_true, Bool.not_false, Int.not_lt, Int.not_le, Classical.not_not, beq_iff_eq, beq_eq_false_iff_ne] at hc8
      refine WL.skip rfl rfl rfl rfl rfl ?_
      refine WL.skip rfl rfl rfl rfl rfl ?_
      refine WL.skip rfl rfl rfl rfl rfl ?_
      refine WL.skip rfl rfl rfl rfl rfl ?_
      refine WL.skip rfl rfl rfl rfl rfl ?_
      refine WL.skip rfl rfl rfl rfl rfl ?_
      refine WL.skip rfl rfl rfl rfl rfl ?_
      refine WL.pure rfl rfl rfl (PV.pickT rfl rfl) ?_
      refine WL.nilS ?_
      refine CW.condT rfl ?_
      refine CW.seq ?_
      refine CW.reg ?_
      refine WL.pure rfl rfl rfl (PV.assign rfl) ?_
      refine WL.nilS ?_
      refine CW.ret ?_
      refine RQ.block ?_
      refine RQ.then ?_
      refine RQ.then ?_
      refine RQ.block ?_
      refine RQ.then ?_
      refine RQ.r1 rfl ?_
      refine ⟨?_, hB⟩
      first | exact bT ⟨by omega, by omega, by omega, by omega, fun q h => hq q (by omega)⟩ | exact bF (by rintro ⟨h1, h2, h3, h4, h5⟩; first | omega | (have h6 := h5 k (by omega); simp only [okA] at h6; omega))
    try simp only [decide_eq_true_eq, decide_eq_false_iff_not, Bool.not_eq_true', Bool.not_eq_false', Bool.not_eq_eq_eq_not, Bool.not_true, Bool.not_false, Int.not_lt, Int.not_le, Classical.not_not, beq_iff_eq, beq_eq_false_iff_ne] at hc8
    refine WL.pureG rfl rfl rfl rfl rfl ((by first | exact PV.fieldAddr T.fl127_3 rfl (by first | assumption | exact Bx.cells (by assumption)) | exact PV.fieldAddrP T.fl127_3 rfl rfl)) ?_
    refine WL.pureG rfl rfl rfl rfl rfl ((by first | exact PV.load0 T.na2 rfl (by first | exact Cells.up (by assumption) hB | exact Bx.cells (by assumption) | assumption) (Ext.refl _) rfl | exact PV.load1 T.na2 rfl (by first | exact Cells.up (by assumption) hB | exact Bx.cells (by assumption) | assumption) (Ext.refl _) rfl)) ?_
    refine WL.pureG rfl rfl rfl rfl rfl ((by first | exact PV.fieldAddr T.fl33_1 rfl (by first | assumption | exact Bx.cells (by assumption)) | exact PV.fieldAddrP T.fl33_1 rfl rfl)) ?_
    refine WL.pureG rfl rfl rfl rfl rfl ((by first | exact PV.load0 T.na2 rfl (by first | exact Cells.up (by assumption) hB | exact Bx.cells (by assumption) | assumption) (Ext.refl _) rfl | exact PV.load1 T.na2 rfl (by first | exact Cells.up (by assumption) hB | exact Bx.cells (by assumption) | assumption) (Ext.refl _) rfl)) ?_
    refine WL.pureG rfl rfl rfl rfl rfl (PV.sub rfl rfl (by constructor <;> omega)) ?_
    refine WL.opG rfl rfl rfl (OpK.callR rfl T.cf81 rfl (c_impl_within) (fun w9 hXw9 => ?_))
    have hB := hB.trans hXw9
    have hb1 := hb1.up hXw9
    have hb2 := hb2.up hXw9
    have hU0 := hU0.ext hXw9
    refine WL.pureG rfl rfl rfl rfl rfl (PV.not rfl) ?_
    refine WL.pure rfl rfl rfl (PV.pickF rfl rfl) ?_
    refine WL.nilS ?_
    refine CW.cond rfl (fun hc9 => ?_) (fun hc9 => ?_)
    · skip
      try simp only [decide_eq_true_eq, decide_eq_false_iff_not, Bool.not_eq_true', Bool.not_eq_false', Bool.not_eq_eq_eq_not, Bool.not_true, Bool.not_false, Int.not_lt, Int.not_le, Classical.not_not, beq_iff_eq, beq_eq_false_iff_ne] at hc9
      refine CW.seq ?_
      refine CW.reg ?_
      refine WL.pure rfl rfl rfl (PV.assign rfl) ?_
      refine WL.nilS ?_
      refine CW.ret ?_
      refine RQ.block ?_
      refine RQ.then ?_
      refine RQ.then ?_
      refine RQ.block ?_
      refine RQ.then ?_
      refine RQ.r1 rfl ?_
      refine ⟨?_, hB⟩
      first | exact bT ⟨by omega, by omega, by omega, by omega, fun q h => hq q (by omega)⟩ | exact bF (by rintro ⟨h1, h2, h3, h4, h5⟩; first | omega | (have h6 := h5 k (by omega); simp only [okA] at h6; omega))
    try simp only [decide_eq_true_eq, decide_eq_false_iff_not, Bool.not_eq_true', Bool.not_eq_false', Bool.not_eq_eq_eq_not, Bool.not_true, Bool.not_false, Int.not_lt, Int.not_le, Classical.not_not, beq_iff_eq, beq_eq_false_iff_ne] at hc9
    refine CW.skip ?_
    refine NQ.block ?_
    refine NQ.then ?_
    refine CW.reg ?_
    refine WL.pure rfl rfl rfl (PV.add rfl rfl (by constructor <;> omega)) ?_
    refine WL.pure rfl rfl rfl (PV.move rfl) ?_
    refine WL.nil ?_
    refine NQ.next (ρ := [(32, _)]) ⟨rfl, rfl, rfl, rfl, trivial⟩ ?_
    exact ⟨_, ⟨k + 1, rfl, rfl, hU0, (by first | omega | assumption | (simp_all; done) | (simp_all; omega)), (by intro q h1; by_cases h : q < k; exact hq q h; obtain rfl : q = k := (by omega); simp only [okA]; omega)⟩, by omega⟩
  try simp only [decide_eq_true_eq, decide_eq_false_iff_not, Bool.not_eq_true', Bool.not_eq_false', Bool.not_eq_eq_eq_not, Bool.not_true, Bool.not_false, Int.not_lt, Int.not_le, Classical.not_not, beq_iff_eq, beq_eq_false_iff_ne] at hc5
  refine CW.exit ?_
  refine XQ.then ?_
  refine XQ.then ?_
  refine XQ.here ?_
  refine NQ.then ?_
  refine CW.seq ?_
  refine CW.reg ?_
  refine WL.pure rfl rfl rfl (PV.assign rfl) ?_
  refine WL.nilS ?_
  refine CW.ret ?_
  refine RQ.r1 rfl ?_
  refine ⟨?_, hB⟩
  first | exact bT ⟨by omega, by omega, by omega, by omega, fun q h => hq q (by omega)⟩ | exact bF (by rintro ⟨h1, h2, h3, h4, h5⟩; first | omega | (have h6 := h5 k (by omega); simp only [okA] at h6; omega))
theorem c_impl_areWithin {w : World} {va : Value} {xs : List Int} {lo hi : Int} (ha : Rd EI w va xs) : Calls Try.prog 120 #[va, .int .i64 lo, .int .i64 hi] w (Ret1 (RQt (.bool (allIn xs lo hi)) w)) := by
  have hB : Ext w w := Ext.refl w
  have hla := ha.leI
  refine callsOf (vs := [_, _, _]) Try.func120 rfl Try.ntmps120 rfl rfl ?_
  refine CW.seq ?_
  refine CW.reg ?_
  refine WL.pure rfl rfl rfl (PV.assign rfl) ?_
  refine WL.nilS ?_
  refine CW.seq ?_
  refine CW.seq ?_
  refine CW.reg ?_
  refine WL.pure rfl rfl rfl (PV.move rfl) ?_
  refine WL.pure rfl rfl rfl ((by first | exact PV.len rfl (by assumption) T.sl26 | exact PV.lenOs rfl (by assumption) T.sl26 | exact PV.len rfl (NL.rd (by assumption)) T.sl26 | exact PV.len rfl (Inn.rd (by assumption) (by omega)) T.sl26)) ?_
  refine WL.pure rfl rfl rfl (PV.move rfl) ?_
  refine WL.nilS ?_
  refine CW.block ?_
  refine CW.loop (σk := [(1, _), (2, _), (9, _), (10, _)]) (fun ρ wz m => ∃ (k : Nat), ρ = [(11, .int .i64 (k : Nat))] ∧ m = xs.length - k ∧ UpdL [] w wz ∧ (k ≤ xs.length) ∧ (allIn (xs.take k) lo hi = true)) (ρ₀ := [(11, _)]) (m₀ := _) ⟨rfl, rfl, rfl, rfl, rfl, trivial⟩ ⟨0, rfl, rfl, (UpdL.refl _ _), (by first | omega | rfl | (simp; done) | assumption | (simp_all; done)), (by exact allIn_zero _ _ _)⟩ ?_
  rintro _ wl1 _ ⟨k, rfl, rfl, hU0, hk, he⟩
  have hB := hB.loop hU0 trivial
  refine CW.seq ?_
  refine CW.reg ?_
  refine WL.pure rfl rfl rfl (PV.lss rfl rfl) ?_
  refine WL.nilS ?_
  refine CW.seq ?_
  refine CW.cond rfl (fun hc1 => ?_) (fun hc1 => ?_)
  · skip
    try simp only [decide_eq_true_eq, decide_eq_false_iff_not, Bool.not_eq_true', Bool.not_eq_false', Bool.not_eq_eq_eq_not, Bool.not_true, Bool.not_false, Int.not_lt, Int.not_le, Classical.not_not, beq_iff_eq, beq_eq_false_iff_ne] at hc1
    refine CW.skipS ?_
    refine CW.seq ?_
    refine CW.block ?_
    refine CW.seq ?_
    refine CW.reg ?_
    first
      | refine WL.at (x := .tmp 9) (y := .tmp 11) (E := EI) (0) rfl rfl (by first | assumption | exact Inn.rd (by assumption) (by omega)) (by first | omega | (simp only [List.length_set]; omega) | (simp only [List.length_append, List.length_take, List.length_replicate, List.length_drop]; omega)) (fun p1 csp1 hpp1 hcp1 hq => ?_)
      | refine WL.atZ (x := .tmp 9) (y := .tmp 11) (E := EI) (0) rfl rfl (by first | assumption | exact Inn.rd (by assumption) (by omega)) (by first | omega | (simp only [List.length_set]; omega) | (simp only [List.length_append, List.length_take, List.length_replicate, List.length_drop]; omega)) (fun p1 csp1 hpp1 hzp1 hcp1 hq => ?_)
    cases hq
    refine WL.pure rfl rfl rfl ((by first | exact PV.indexAddr hpp1 rfl rfl T.sl26 | exact PV.indexAddr hpp1 rfl (by rw [← hzp1]; rfl) T.sl26)) ?_
    refine WL.pure rfl rfl rfl ((by first | exact PV.load0 T.na2 rfl (by first | exact Cells.up (by assumption) hB | exact Bx.cells (by assumption) | assumption) (Ext.refl _) rfl | exact PV.load1 T.na2 rfl (by first | exact Cells.up (by assumption) hB | exact Bx.cells (by assumption) | assumption) (Ext.refl _) rfl)) ?_
    refine WL.pure rfl rfl rfl (PV.assign rfl) ?_
    refine WL.nilS ?_
    refine CW.seq ?_
    refine CW.reg ?_
    refine WL.pure rfl rfl rfl (PV.move rfl) ?_
    refine WL.pure rfl rfl rfl (PV.move rfl) ?_
    refine WL.pure rfl rfl rfl (PV.move rfl) ?_
    refine WL.op rfl (OpK.callR rfl T.cf81 rfl (c_impl_within) (fun w1 hXw1 => ?_))
    have hB := hB.trans hXw1
    have hU0 := hU0.ext hXw1
    refine WL.pure rfl rfl rfl (PV.not rfl) ?_
    refine WL.nilS ?_
    refine CW.cond rfl (fun hc2 => ?_) (fun hc2 => ?_)
    · skip
      try simp only [decide_eq_true_eq, decide_eq_false_iff_not, Bool.not_eq_true', Bool.not_eq_false', Bool.not_eq_eq_eq_not, Bool.not_true, Bool.not_false, Int.not_lt, Int.not_le, Classical.not_not, beq_iff_eq, beq_eq_false_iff_ne] at hc2
      refine CW.seq ?_
      refine CW.reg ?_
      refine WL.pure rfl rfl rfl (PV.assign rfl) ?_
      refine WL.nilS ?_
      refine CW.ret ?_
      refine RQ.block ?_
      refine RQ.then ?_
      refine RQ.then ?_
      refine RQ.block ?_
      refine RQ.then ?_
      refine RQ.r1 rfl ?_
      refine ⟨?_, hB⟩
      exact bE (allIn_bad (k := k) (by omega) (by assumption)).symm
    try simp only [decide_eq_true_eq, decide_eq_false_iff_not, Bool.not_eq_true', Bool.not_eq_false', Bool.not_eq_eq_eq_not, Bool.not_true, Bool.not_false, Int.not_lt, Int.not_le, Classical.not_not, beq_iff_eq, beq_eq_false_iff_ne] at hc2
    refine CW.skip ?_
    refine NQ.block ?_
    refine NQ.then ?_
    refine CW.reg ?_
    refine WL.pure rfl rfl rfl (PV.add rfl rfl (by constructor <;> omega)) ?_
    refine WL.pure rfl rfl rfl (PV.move rfl) ?_
    refine WL.nil ?_
    refine NQ.next (ρ := [(11, _)]) ⟨rfl, rfl, rfl, rfl, rfl, trivial⟩ ?_
    exact ⟨_, ⟨k + 1, rfl, rfl, hU0, (by first | omega | assumption | (simp_all; done) | (simp_all; omega)), (by exact allIn_step (by omega) he (by assumption))⟩, by omega⟩
  try simp only [decide_eq_true_eq, decide_eq_false_iff_not, Bool.not_eq_true', Bool.not_eq_false', Bool.not_eq_eq_eq_not, Bool.not_true, Bool.not_false, Int.not_lt, Int.not_le, Classical.not_not, beq_iff_eq, beq_eq_false_iff_ne] at hc1
  refine CW.exit ?_
  refine XQ.then ?_
  refine XQ.then ?_
  refine XQ.here ?_
  refine NQ.then ?_
  refine CW.seq ?_
  refine CW.reg ?_
  refine WL.pure rfl rfl rfl (PV.assign rfl) ?_
  refine WL.nilS ?_
  refine CW.ret ?_
  refine RQ.r1 rfl ?_
  refine ⟨?_, hB⟩
  exact bE (allIn_all (k := k) (by omega) he).symm
theorem c_impl_IsWord {w : World} {va : Value} {xs : List Int} {L : Int} (ha : Rd EI w va xs) : Calls Try.prog 80 #[va, .int .i64 L] w (Ret1 (RQt (.bool (isWordB xs L)) w)) := by
  have hB : Ext w w := Ext.refl w
  have hla := ha.leI
  refine callsOf (vs := [_, _]) Try.func80 rfl Try.ntmps80 rfl rfl ?_
  refine CW.seq ?_
  refine CW.reg ?_
  refine WL.pure rfl rfl rfl (PV.assign rfl) ?_
  refine WL.nilS ?_
  refine CW.seq ?_
  refine CW.reg ?_
  refine WL.pure rfl rfl rfl (PV.move rfl) ?_
  refine WL.op rfl (OpK.callR rfl T.cf81 rfl (c_impl_within) (fun w1 hXw1 => ?_))
  have hB := hB.trans hXw1
  refine WL.pure rfl rfl rfl (PV.move rfl) ?_
  refine WL.split (t := 7) rfl (fun hc1 => ?_) (fun hc1 => ?_)
  rotate_left
  · skip
    try simp only [decide_eq_true_eq, decide_eq_false_iff_not, Bool.not_eq_true', Bool.not_eq_false', Bool.not_eq_eq_eq_not, Bool.not_true, Bool.not_false, Int.not_lt, Int.not_le, Classical.not_not, beq_iff_eq, beq_eq_false_iff_ne] at hc1
    refine WL.skip rfl rfl rfl rfl rfl ?_
    refine WL.skip rfl rfl rfl rfl rfl ?_
    refine WL.skip rfl rfl rfl rfl rfl ?_
    refine WL.pure rfl rfl rfl (PV.pickF rfl rfl) ?_
    refine WL.pure rfl rfl rfl (PV.move rfl) ?_
    refine WL.skip rfl rfl rfl rfl rfl ?_
    refine WL.skip rfl rfl rfl rfl rfl ?_
    refine WL.skip rfl rfl rfl rfl rfl ?_
    refine WL.skip rfl rfl rfl rfl rfl ?_
    refine WL.pure rfl rfl rfl (PV.pickF rfl rfl) ?_
    refine WL.pure rfl rfl rfl (PV.assign rfl) ?_
    refine WL.nilS ?_
    refine CW.ret ?_
    refine RQ.r1 rfl ?_
    refine ⟨?_, hB⟩
    simp only [isWordB, wordB]; first | (simp_all; done) | (simp_all; omega) | (simp_all; intros; omega)
  try simp only [decide_eq_true_eq, decide_eq_false_iff_not, Bool.not_eq_true', Bool.not_eq_false', Bool.not_eq_eq_eq_not, Bool.not_true, Bool.not_false, Int.not_lt, Int.not_le, Classical.not_not, beq_iff_eq, beq_eq_false_iff_ne] at hc1
  refine WL.pureG rfl rfl rfl rfl rfl (PV.move rfl) ?_
  refine WL.pureG rfl rfl rfl rfl rfl ((by first | exact PV.len rfl (by assumption) T.sl26 | exact PV.lenOs rfl (by assumption) T.sl26 | exact PV.len rfl (NL.rd (by assumption)) T.sl26 | exact PV.len rfl (Inn.rd (by assumption) (by omega)) T.sl26)) ?_
  refine WL.pureG rfl rfl rfl rfl rfl (PV.leq rfl rfl) ?_
  refine WL.pure rfl rfl rfl (PV.pickT rfl rfl) ?_
  refine WL.pure rfl rfl rfl (PV.move rfl) ?_
  refine WL.split (t := 12) rfl (fun hc2 => ?_) (fun hc2 => ?_)
  rotate_left
  · skip
    try simp only [decide_eq_true_eq, decide_eq_false_iff_not, Bool.not_eq_true', Bool.not_eq_false', Bool.not_eq_eq_eq_not, Bool.not_true, Bool.not_false, Int.not_lt, Int.not_le, Classical.not_not, beq_iff_eq, beq_eq_false_iff_ne] at hc2
    refine WL.skip rfl rfl rfl rfl rfl ?_
    refine WL.skip rfl rfl rfl rfl rfl ?_
    refine WL.skip rfl rfl rfl rfl rfl ?_
    refine WL.skip rfl rfl rfl rfl rfl ?_
    refine WL.pure rfl rfl rfl (PV.pickF rfl rfl) ?_
    refine WL.pure rfl rfl rfl (PV.assign rfl) ?_
    refine WL.nilS ?_
    refine CW.ret ?_
    refine RQ.r1 rfl ?_
    refine ⟨?_, hB⟩
    simp only [isWordB, wordB]; first | (simp_all; done) | (simp_all; omega) | (simp_all; intros; omega)
  try simp only [decide_eq_true_eq, decide_eq_false_iff_not, Bool.not_eq_true', Bool.not_eq_false', Bool.not_eq_eq_eq_not, Bool.not_true, Bool.not_false, Int.not_lt, Int.not_le, Classical.not_not, beq_iff_eq, beq_eq_false_iff_ne] at hc2
  refine WL.pureG rfl rfl rfl rfl rfl (PV.move rfl) ?_
  refine WL.pureG rfl rfl rfl rfl rfl (PV.move rfl) ?_
  refine WL.pureG rfl rfl rfl rfl rfl (PV.sub rfl rfl (by constructor <;> omega)) ?_
  refine WL.opG rfl rfl rfl (OpK.callR rfl T.cf120 rfl (c_impl_areWithin (by first | assumption | exact Rd.up (by assumption) hB | exact Osl.rd (by assumption) | exact Osn.rdR (by assumption) | exact NL.rd (by assumption) | exact rdII (by assumption) (by assumption) | exact Inn.rd (by assumption) (by omega))) (fun w2 hXw2 => ?_))
  have hB := hB.trans hXw2
  refine WL.pure rfl rfl rfl (PV.pickT rfl rfl) ?_
  refine WL.pure rfl rfl rfl (PV.assign rfl) ?_
  refine WL.nilS ?_
  refine CW.ret ?_
  refine RQ.r1 rfl ?_
  refine ⟨?_, hB⟩
  simp only [isWordB, wordB]; first | (simp_all; done) | (simp_all; omega) | (simp_all; intros; omega)
theorem c_slices_Clone_int64_int64 {w : World} {va : Value} {xs : List Int} (ha : Rd EI w va xs) (hN : xs.length ≤ 1048576) : Calls Try.prog 117 #[va] w (Ret1 (fun v w' => Ext w w' ∧ ∃ v1 og_v1, v = v1 ∧ Osl VI w' og_v1 v1 (xs) ∧ Lo w og_v1)) := by
  have hB : Ext w w := Ext.refl w
  have hla := ha.leI
  refine callsOf (vs := [_]) Try.func117 rfl Try.ntmps117 rfl rfl ?_
  refine CW.seq ?_
  refine CW.reg ?_
  refine WL.pure rfl rfl rfl (PV.assign rfl) ?_
  refine WL.nilS ?_
  refine CW.seq ?_
  refine CW.seq ?_
  refine CW.reg ?_
  refine WL.pure rfl rfl rfl (PV.move rfl) ?_
  refine WL.pure rfl rfl rfl ((by first | exact PV.eqlNil T.sl26 rfl (by assumption) rfl | exact PV.eqlNil T.sl26 rfl (Osl.rd (by assumption)) rfl)) ?_
  refine WL.nilS ?_
  refine CW.cond rfl (fun hc1 => ?_) (fun hc1 => ?_)
  · skip
    try simp only [decide_eq_true_eq, decide_eq_false_iff_not, Bool.not_eq_true', Bool.not_eq_false', Bool.not_eq_eq_eq_not, Bool.not_true, Bool.not_false, Int.not_lt, Int.not_le, Classical.not_not, beq_iff_eq, beq_eq_false_iff_ne] at hc1
    refine CW.seq ?_
    refine CW.reg ?_
    refine WL.pure rfl rfl rfl (PV.assign rfl) ?_
    refine WL.nilS ?_
    refine CW.ret ?_
    refine RQ.then ?_
    refine RQ.r1 rfl ?_
    refine ⟨hB, (.slice none 0 0), none, ?_, osE (Osl.nil _ _) ?_, Lo.nl _⟩
    · skip
      rfl
    · skip
      first | rfl | (simp; done) | exact ((Rd.nil_of ha (by assumption)).1).symm
  try simp only [decide_eq_true_eq, decide_eq_false_iff_not, Bool.not_eq_true', Bool.not_eq_false', Bool.not_eq_eq_eq_not, Bool.not_true, Bool.not_false, Int.not_lt, Int.not_le, Classical.not_not, beq_iff_eq, beq_eq_false_iff_ne] at hc1
  refine CW.skipS ?_
  refine CW.seq ?_
  refine CW.reg ?_
  refine WL.op rfl (OpK.buildS VI (os := []) [] rfl T.sl26 rfl rfl T.zv2 rfl (by intro z hz; cases hz) rfl (fun v1 g1 w1 hXw1 ho1 hge1 => ?_))
  have hl1 := Lo.new hB hge1
  have hB := hB.trans hXw1
  refine WL.pure rfl rfl rfl (PV.move rfl) ?_
  refine WL.op rfl (OpK.appendS (f := VI) rfl T.sl26 T.zv2 rfl rfl ho1 rfl (Rd.src (by first | assumption | exact Rd.up (by assumption) hB | exact Inn.rd (by assumption) (by omega)) (fun _ => rfl)) (by first | (simp only [List.length_cons, List.length_nil]; omega) | (simp_all; omega)) (fun v2 og2 w2 hXw2 ho2 hap2 => ?_))
  have hl2 := Lo.app hl1 hB hap2
  have hB := hB.updL hXw2 hl1
  refine WL.pure rfl rfl rfl (PV.assign rfl) ?_
  refine WL.nilS ?_
  refine CW.ret ?_
  refine RQ.r1 rfl ?_
  refine ⟨hB, v2, og2, ?_, osE ho2 ?_, hl2⟩
  · skip
    rfl
  · skip
    first | rfl | (simp; done) | exact ((Rd.nil_of ha (by assumption)).1).symm
theorem c_impl_wordsOf {w : World} {L n : Int} (hL : 1 ≤ L ∧ L ≤ 4) (hn : 0 ≤ n ∧ n ≤ 5) : Calls Try.prog 124 #[.int .i64 L, .int .i64 n] w (Ret1 (fun v w' => Ext w w' ∧ ∃ u og_u vs_u os_u, v = u ∧ Osl VV w' og_u u vs_u ∧ Lo w og_u ∧ Inn w' os_u vs_u (wordsL L n.toNat) ∧ LoI w os_u ∧ DI os_u og_u)) := by
  have hB : Ext w w := Ext.refl w
  refine callsOf (vs := [_, _]) Try.func124 rfl Try.ntmps124 rfl rfl ?_
  refine CW.seq ?_
  refine CW.reg ?_
  refine WL.pure rfl rfl rfl (PV.assign rfl) ?_
  refine WL.nilS ?_
  refine CW.seq ?_
  refine CW.reg ?_
  refine WL.op rfl (OpK.buildS VI (os := []) [] rfl T.sl26 rfl rfl T.zv2 rfl (by intro z hz; cases hz) rfl (fun v1 g1 w1 hXw1 ho1 hge1 => ?_))
  have hl1 := Lo.new hB hge1
  have hB := hB.trans hXw1
  refine WL.op rfl (OpK.buildS VV (os := [.tmp 10]) [_] rfl T.sl28 rfl rfl T.zv26 rfl (by intro z hz; first | rfl | (simp only [List.mem_cons, List.not_mem_nil, or_false] at hz; subst hz; exact (by first | exact Rd.cells1 (by assumption) | exact Osl.cells1 (by assumption) | exact Osn.cells1 (by assumption) | exact Rd.cells1 (NL.rd (by assumption)) | exact Inn.cell1 (by assumption) (by omega) | rfl))) rfl (fun v2 g2 w2 hXw2 ho2 hge2 => ?_))
  have hl2 := Lo.new hB hge2
  have hd1_2 := Dj.new ho1.ltO hge2
  have hB := hB.trans hXw2
  have ho1 := ho1.up hXw2
  refine WL.pure rfl rfl rfl (PV.assign rfl) ?_
  refine WL.nilS ?_
  refine CW.seq ?_
  refine CW.seq ?_
  refine CW.reg ?_
  refine WL.pure rfl rfl rfl (PV.move rfl) ?_
  refine WL.pure rfl rfl rfl (PV.move rfl) ?_
  refine WL.nilS ?_
  refine CW.block ?_
  have hn3 := Inn.one ho1
  have hl3 := LoI.one hl1
  have hd2_3 := DI.one hd1_2
  have hlt2 := ho2.ltO
  have hlt3 := hn3.ltO
  refine CW.loop (σk := [(0, _), (12, _)]) (fun ρ wz m => ∃ (v4 : Value) (og4 : Option Nat) (vs4 : List Value) (os4 : List (Option Nat)) (i : Nat), ρ = [(5, v4), (13, .int .i64 (i : Nat))] ∧ m = n.toNat - i ∧ UpdL [(some g2)] w2 wz ∧ Osl VV wz og4 v4 (vs4) ∧ OgR w2 (some g2) og4 ∧ Inn wz os4 vs4 (wordsL L i) ∧ BlR w2 [(some g1)] os4 ∧ DI os4 og4 ∧ ((i : Int) ≤ n)) (ρ₀ := [(5, _), (13, _)]) (m₀ := _) ⟨rfl, rfl, rfl, rfl, trivial⟩ ⟨v2, (some g2), _, [(some g1)], 0, rfl, rfl, (UpdL.refl _ _), ho2, OgR.refl _ _, innE hn3 (by rfl), BlR.refl _ _, hd2_3, (by first | omega | rfl | (simp; done) | assumption | (simp_all; done))⟩ ?_
  rintro _ wl1 _ ⟨v4, og4, vs4, os4, i, rfl, rfl, hU0, ho4, ha4, hn5, hy5, hd4_5, hi⟩
  have hl4 := Lo.ogr hl2 hB ha4
  have hg0_4 := ha4
  have hk0_4 : OkB [(some g2)] w2 og4 := OkB.ogr (OkB.mem (by simp)) (Nat.le_refl _) ha4
  have hBpre0 := hB
  have hB := hB.loop hU0 ⟨hl2, trivial⟩
  have hlv5 := hn5.lv
  have hz0_5 := hy5
  have hl5 := LoI.blr hl3 hBpre0 hy5
  have h256 := fun h : (i : Int) < n => wordsL_256 (L := L) (n := i) (by omega) (by omega); have hwg := fun (q : Nat) (h : q < (wordsL L i).length) => wordsL_get (L := L) (n := i) h
  refine CW.seq ?_
  refine CW.reg ?_
  refine WL.pure rfl rfl rfl (PV.lss rfl rfl) ?_
  refine WL.nilS ?_
  refine CW.seq ?_
  refine CW.cond rfl (fun hc1 => ?_) (fun hc1 => ?_)
  · skip
    try simp only [decide_eq_true_eq, decide_eq_false_iff_not, Bool.not_eq_true', Bool.not_eq_false', Bool.not_eq_eq_eq_not, Bool.not_true, Bool.not_false, Int.not_lt, Int.not_le, Classical.not_not, beq_iff_eq, beq_eq_false_iff_ne] at hc1
    have h256 := h256 (by omega)
    refine CW.skipS ?_
    refine CW.seq ?_
    refine CW.block ?_
    refine CW.seq ?_
    refine CW.reg ?_
    refine WL.op rfl (OpK.buildS VV (os := []) [] rfl T.sl28 rfl rfl T.zv26 rfl (by intro z hz; cases hz) rfl (fun v6 g6 w3 hXw3 ho6 hge6 => ?_))
    have hl6 := Lo.new hB hge6
    have hd5_6 := DI.new hn5 hge6
    have hd4_6 := Dj.new ho4.ltO hge6
    have hk0_6 := OkN.new hU0 hge6
    have hg0_6 := OgR.new hU0.size hge6
    have hB := hB.trans hXw3
    have hn5 := hn5.up hXw3
    have ho4 := ho4.up hXw3
    have hU0 := hU0.ext hXw3
    refine WL.pure rfl rfl rfl (PV.assign rfl) ?_
    refine WL.nilS ?_
    refine CW.seq ?_
    refine CW.seq ?_
    refine CW.reg ?_
    refine WL.pure rfl rfl rfl (PV.move rfl) ?_
    refine WL.pure rfl rfl rfl ((PV.lenOs rfl ho4 T.sl28)) ?_
    refine WL.pure rfl rfl rfl (PV.move rfl) ?_
    refine WL.nilS ?_
    refine CW.block ?_
    have hn7 := Inn.zero w3
    have hl7 := LoI.nl w
    have hz0_7 := BlR.nil hU0
    have hd4_7 : DI [] og4 := DI.zero _
    have hd6_7 : DI [] (some g6) := DI.zero _
    have hdd5_7 : DD os4 [] := DD.zeroR _
    have hlt5 := hn5.ltO
    have hlt4 := ho4.ltO
    have hlt6 := ho6.ltO
    have hlt7 := hn7.ltO
    refine CW.loop (σk := [(0, _), (12, _), (13, _), (16, _), (17, _)]) (fun ρ wz m => ∃ (v8 : Value) (og8 : Option Nat) (vs8 : List Value) (os8 : List (Option Nat)) (k : Nat), ρ = [(6, v8), (18, .int .i64 (k : Nat))] ∧ m = (wordsL L i).length - k ∧ UpdL [(some g6)] w3 wz ∧ Osl VV wz og8 v8 (vs8) ∧ OgR w3 (some g6) og8 ∧ Inn wz os8 vs8 (gP L (wordsL L i) k 0) ∧ BlR w3 [] os8 ∧ DI os8 og8 ∧ (k ≤ (wordsL L i).length)) (ρ₀ := [(6, _), (18, _)]) (m₀ := _) ⟨rfl, rfl, rfl, rfl, rfl, rfl, rfl, trivial⟩ ⟨v6, (some g6), _, [], 0, rfl, rfl, (UpdL.refl _ _), ho6, OgR.refl _ _, innE hn7 (by exact gP_zero _ _), BlR.refl _ _, hd6_7, (by first | omega | rfl | (simp; done) | assumption | (simp_all; done))⟩ ?_
    rintro _ wl2 _ ⟨v8, og8, vs8, os8, k, rfl, rfl, hU1, ho8, ha8, hn9, hy9, hd8_9, hk⟩
    have hU0 := hU0.trans hU1 ⟨hk0_6, trivial⟩
    have hn5 := hn5.loop hU1 ⟨hd5_6, trivial⟩
    have ho4 := ho4.loop hU1 ⟨hd4_6, trivial⟩
    have hl8 := Lo.ogr hl6 hB ha8
    have hg1_8 := ha8
    have hk1_8 : OkB [(some g6)] w3 og8 := OkB.ogr (OkB.mem (by simp)) (Nat.le_refl _) ha8
    have hk0_8 := OkB.ogr hk0_6 (by first | assumption | exact UpdL.size (by assumption)) ha8
    have hg0_8 := OgR.trans hg0_6 (by first | assumption | exact UpdL.size (by assumption)) ha8
    have hd5_8 := DI.ogr hd5_6 hlt5 ha8
    have hd4_8 := Dj.ogr hd4_6 hlt4 ha8
    have hBpre1 := hB
    have hB := hB.loop hU1 ⟨hl6, trivial⟩
    have hlv9 := hn9.lv
    have hd4_9 := DI.blr hd4_7 hlt4 hy9
    have hz1_9 := hy9
    have hz0_9 := BlR.trans hz0_7 (by first | assumption | exact UpdL.size (by assumption)) hy9
    have hl9 := LoI.blr hl7 hBpre1 hy9
    have hgl := gP_len (L := L) (xss := (wordsL L i)) (k := k) (l := 0) hk (by omega) (by omega)
    refine CW.seq ?_
    refine CW.reg ?_
    refine WL.pure rfl rfl rfl (PV.lss rfl rfl) ?_
    refine WL.nilS ?_
    refine CW.seq ?_
    refine CW.cond rfl (fun hc2 => ?_) (fun hc2 => ?_)
    · skip
      try simp only [decide_eq_true_eq, decide_eq_false_iff_not, Bool.not_eq_true', Bool.not_eq_false', Bool.not_eq_eq_eq_not, Bool.not_true, Bool.not_false, Int.not_lt, Int.not_le, Classical.not_not, beq_iff_eq, beq_eq_false_iff_ne] at hc2
      refine CW.skipS ?_
      refine CW.seq ?_
      refine CW.block ?_
      refine CW.seq ?_
      refine CW.reg ?_
      first
        | refine WL.atO (x := .tmp 16) (y := .tmp 18) (f := VV) (.slice none 0 0) rfl rfl ho4 (by first | omega | (simp only [List.length_set]; omega) | (simp only [List.length_append, List.length_take, List.length_replicate, List.length_drop]; omega)) (fun p1 hpp1 hcp1 => ?_)
        | refine WL.atOZ (x := .tmp 16) (y := .tmp 18) (f := VV) (.slice none 0 0) rfl rfl ho4 (by first | omega | (simp only [List.length_set]; omega) | (simp only [List.length_append, List.length_take, List.length_replicate, List.length_drop]; omega)) (fun p1 hpp1 hzp1 hcp1 => ?_)
      refine WL.pure rfl rfl rfl ((by first | exact PV.indexAddr hpp1 rfl rfl T.sl28 | exact PV.indexAddr hpp1 rfl (by rw [← hzp1]; rfl) T.sl28)) ?_
      refine WL.pure rfl rfl rfl ((by first | exact PV.load0 T.na26 rfl (by first | exact Cells.up (by assumption) hB | exact Bx.cells (by assumption) | assumption) (Ext.refl _) rfl | exact PV.load1 T.na26 rfl (by first | exact Cells.up (by assumption) hB | exact Bx.cells (by assumption) | assumption) (Ext.refl _) rfl)) ?_
      refine WL.pure rfl rfl rfl (PV.assign rfl) ?_
      refine WL.nilS ?_
      refine CW.seq ?_
      refine CW.reg ?_
      refine WL.pure rfl rfl rfl (PV.move rfl) ?_
      refine WL.pure rfl rfl rfl (PV.move rfl) ?_
      refine WL.nilS ?_
      refine CW.block ?_
      have hlt5 := hn5.ltO
      have hlt4 := ho4.ltO
      have hlt9 := hn9.ltO
      have hlt8 := ho8.ltO
      refine CW.loop (σk := [(0, _), (8, _), (12, _), (13, _), (16, _), (17, _), (18, _), (22, _)]) (fun ρ wz m => ∃ (v10 : Value) (og10 : Option Nat) (vs10 : List Value) (os10 : List (Option Nat)) (l : Nat), ρ = [(6, v10), (23, .int .i64 (l : Nat))] ∧ m = L.toNat - l ∧ UpdL [og8] wl2 wz ∧ Osl VV wz og10 v10 (vs10) ∧ OgR wl2 og8 og10 ∧ Inn wz os10 vs10 (gP L (wordsL L i) k l) ∧ BlR wl2 os8 os10 ∧ DI os10 og10 ∧ ((l : Int) ≤ L)) (ρ₀ := [(6, _), (23, _)]) (m₀ := _) ⟨rfl, rfl, rfl, rfl, rfl, rfl, rfl, rfl, rfl, rfl, trivial⟩ ⟨v8, og8, _, os8, 0, rfl, rfl, (UpdL.refl _ _), ho8, OgR.refl _ _, innE hn9 (by rfl), BlR.refl _ _, hd8_9, (by first | omega | rfl | (simp; done) | assumption | (simp_all; done))⟩ ?_
      rintro _ wl3 _ ⟨v10, og10, vs10, os10, l, rfl, rfl, hU2, ho10, ha10, hn11, hy11, hd10_11, hl⟩
      have hU0 := hU0.trans hU2 ⟨hk0_8, trivial⟩
      have hU1 := hU1.trans hU2 ⟨hk1_8, trivial⟩
      have hn5 := hn5.loop hU2 ⟨hd5_8, trivial⟩
      have ho4 := ho4.loop hU2 ⟨hd4_8, trivial⟩
      have hl10 := Lo.ogr hl8 hB ha10
      have hg2_10 := ha10
      have hk2_10 : OkB [og8] wl2 og10 := OkB.ogr (OkB.mem (by simp)) (Nat.le_refl _) ha10
      have hk0_10 := OkB.ogr hk0_8 (by first | assumption | exact UpdL.size (by assumption)) ha10
      have hg0_10 := OgR.trans hg0_8 (by first | assumption | exact UpdL.size (by assumption)) ha10
      have hk1_10 := OkB.ogr hk1_8 (by first | assumption | exact UpdL.size (by assumption)) ha10
      have hg1_10 := OgR.trans hg1_8 (by first | assumption | exact UpdL.size (by assumption)) ha10
      have hd5_10 := DI.ogr hd5_8 hlt5 ha10
      have hd4_10 := Dj.ogr hd4_8 hlt4 ha10
      have hBpre2 := hB
      have hB := hB.loop hU2 ⟨hl8, trivial⟩
      have hlv11 := hn11.lv
      have hd4_11 := DI.blr hd4_9 hlt4 hy11
      have hz2_11 := hy11
      have hz0_11 := BlR.trans hz0_9 (by first | assumption | exact UpdL.size (by assumption)) hy11
      have hz1_11 := BlR.trans hz1_9 (by first | assumption | exact UpdL.size (by assumption)) hy11
      have hl11 := LoI.blr hl9 hBpre2 hy11
      have hgl := gP_len (L := L) (xss := (wordsL L i)) (k := k) (l := l) (by omega) (by omega) (by omega)
      refine CW.seq ?_
      refine CW.reg ?_
      refine WL.pure rfl rfl rfl (PV.lss rfl rfl) ?_
      refine WL.nilS ?_
      refine CW.seq ?_
      refine CW.cond rfl (fun hc3 => ?_) (fun hc3 => ?_)
      · skip
        try simp only [decide_eq_true_eq, decide_eq_false_iff_not, Bool.not_eq_true', Bool.not_eq_false', Bool.not_eq_eq_eq_not, Bool.not_true, Bool.not_false, Int.not_lt, Int.not_le, Classical.not_not, beq_iff_eq, beq_eq_false_iff_ne] at hc3
        refine CW.skipS ?_
        refine CW.seq ?_
        refine CW.block ?_
        refine CW.seq ?_
        refine CW.reg ?_
        refine WL.pure rfl rfl rfl (PV.move rfl) ?_
        refine WL.pure rfl rfl rfl (PV.assign rfl) ?_
        refine WL.nilS ?_
        refine CW.reg ?_
        have hw5 := hwg k (by omega)
        refine WL.pure rfl rfl rfl (PV.move rfl) ?_
        refine WL.pure rfl rfl rfl (PV.move rfl) ?_
        refine WL.op rfl (OpK.call rfl T.cf117 rfl (c_slices_Clone_int64_int64 (by first | assumption | exact Rd.up (by assumption) hB | exact Osl.rd (by assumption) | exact Osn.rdR (by assumption) | exact NL.rd (by assumption) | exact rdII (by assumption) (by assumption) | exact Inn.rd (by assumption) (by omega)) (by first | assumption | omega | (simp only [marks_len, marksB_len, marksR_len, sumL_marksS]; omega))) (fun rv1 w4 hR => ?_))
        obtain ⟨hXw4, v12, og12, rfl, ho12, hq12⟩ := hR
        have hl12 := Lo.up hq12 hB
        have hd5_12 := DI.fresh hn5 hq12
        have hd4_12 := Dj.lo ho4.ltO hq12
        have hd11_12 := DI.fresh hn11 hq12
        have hd10_12 := Dj.lo ho10.ltO hq12
        have hk0_12 := OkN.lo hU0 hq12
        have hg0_12 := OgR.lo hU0.size hq12
        have hk1_12 := OkN.lo hU1 hq12
        have hg1_12 := OgR.lo hU1.size hq12
        have hk2_12 := OkN.lo hU2 hq12
        have hg2_12 := OgR.lo hU2.size hq12
        have hB := hB.trans hXw4
        have hn5 := hn5.up hXw4
        have ho4 := ho4.up hXw4
        have hn11 := hn11.up hXw4
        have ho10 := ho10.up hXw4
        have hU0 := hU0.ext hXw4
        have hU1 := hU1.ext hXw4
        have hU2 := hU2.ext hXw4
        refine WL.pure rfl rfl rfl (PV.move rfl) ?_
        refine WL.op rfl (OpK.buildS VI (os := [.tmp 29]) [_] rfl T.sl26 rfl rfl T.zv2 rfl (by intro z hz; first | rfl | (simp only [List.mem_cons, List.not_mem_nil, or_false] at hz; subst hz; exact (by first | exact Rd.cells1 (by assumption) | exact Osl.cells1 (by assumption) | exact Osn.cells1 (by assumption) | exact Rd.cells1 (NL.rd (by assumption)) | exact Inn.cell1 (by assumption) (by omega) | rfl))) rfl (fun v13 g13 w5 hXw5 ho13 hge13 => ?_))
        have hl13 := Lo.new hB hge13
        have hd5_13 := DI.new hn5 hge13
        have hd4_13 := Dj.new ho4.ltO hge13
        have hd11_13 := DI.new hn11 hge13
        have hd10_13 := Dj.new ho10.ltO hge13
        have hd12_13 := Dj.new ho12.ltO hge13
        have hk0_13 := OkN.new hU0 hge13
        have hg0_13 := OgR.new hU0.size hge13
        have hk1_13 := OkN.new hU1 hge13
        have hg1_13 := OgR.new hU1.size hge13
        have hk2_13 := OkN.new hU2 hge13
        have hg2_13 := OgR.new hU2.size hge13
        have hB := hB.trans hXw5
        have hn5 := hn5.up hXw5
        have ho4 := ho4.up hXw5
        have hn11 := hn11.up hXw5
        have ho10 := ho10.up hXw5
        have ho12 := ho12.up hXw5
        have hU0 := hU0.ext hXw5
        have hU1 := hU1.ext hXw5
        have hU2 := hU2.ext hXw5
        refine WL.op rfl (OpK.appendS (f := VI) rfl T.sl26 T.zv2 rfl rfl ho12 rfl (Osl.src ho13 (fun _ => rfl)) (by first | (simp only [List.length_cons, List.length_nil]; omega) | (simp only [List.length_append, List.length_cons, List.length_nil]; omega)) (fun v14 og14 w6 hXw6 ho14 hap14 => ?_))
        have hl14 := Lo.app hl12 hB hap14
        have hd5_14 := DI.app hd5_12 hn5 hap14
        have hd4_14 := Dj.app hd4_12 ho4.ltO hap14
        have hd11_14 := DI.app hd11_12 hn11 hap14
        have hd10_14 := Dj.app hd10_12 ho10.ltO hap14
        have hd13_14 := Dj.app (Dj.symm hd12_13) ho13.ltO hap14
        have hk0_14 := OkN.app hU0 hk0_12 hap14
        have hg0_14 := OgR.app hg0_12 hU0.size hap14
        have hk1_14 := OkN.app hU1 hk1_12 hap14
        have hg1_14 := OgR.app hg1_12 hU1.size hap14
        have hk2_14 := OkN.app hU2 hk2_12 hap14
        have hg2_14 := OgR.app hg2_12 hU2.size hap14
        have hB := hB.updL hXw6 hl12
        have hn5 := hn5.updD hXw6 hd5_12
        have ho4 := ho4.updD hXw6 hd4_12
        have hn11 := hn11.updD hXw6 hd11_12
        have ho10 := ho10.updD hXw6 hd10_12
        have ho13 := ho13.updD hXw6 (Dj.symm hd12_13)
        have hU0 := hU0.step hXw6 hk0_12
        have hU1 := hU1.step hXw6 hk1_12
        have hU2 := hU2.step hXw6 hk2_12
        refine WL.op rfl (OpK.buildS VV (os := [.tmp 31]) [_] rfl T.sl28 rfl rfl T.zv26 rfl (by intro z hz; first | rfl | (simp only [List.mem_cons, List.not_mem_nil, or_false] at hz; subst hz; exact (by first | exact Rd.cells1 (by assumption) | exact Osl.cells1 (by assumption) | exact Osn.cells1 (by assumption) | exact Rd.cells1 (NL.rd (by assumption)) | exact Inn.cell1 (by assumption) (by omega) | rfl))) rfl (fun v15 g15 w7 hXw7 ho15 hge15 => ?_))
        have hl15 := Lo.new hB hge15
        have hd5_15 := DI.new hn5 hge15
        have hd4_15 := Dj.new ho4.ltO hge15
        have hd11_15 := DI.new hn11 hge15
        have hd10_15 := Dj.new ho10.ltO hge15
        have hd13_15 := Dj.new ho13.ltO hge15
        have hd14_15 := Dj.new ho14.ltO hge15
        have hk0_15 := OkN.new hU0 hge15
        have hg0_15 := OgR.new hU0.size hge15
        have hk1_15 := OkN.new hU1 hge15
        have hg1_15 := OgR.new hU1.size hge15
        have hk2_15 := OkN.new hU2 hge15
        have hg2_15 := OgR.new hU2.size hge15
        have hB := hB.trans hXw7
        have hn5 := hn5.up hXw7
        have ho4 := ho4.up hXw7
        have hn11 := hn11.up hXw7
        have ho10 := ho10.up hXw7
        have ho13 := ho13.up hXw7
        have ho14 := ho14.up hXw7
        have hU0 := hU0.ext hXw7
        have hU1 := hU1.ext hXw7
        have hU2 := hU2.ext hXw7
        refine WL.op rfl (OpK.appendS (f := VV) rfl T.sl28 T.zv26 rfl rfl ho10 rfl (Osl.srcM ho15 (one_mem (Osl.oneCell ho14))) (by first | (simp only [List.length_cons, List.length_nil]; omega) | (simp only [List.length_append, List.length_cons, List.length_nil]; omega)) (fun v16 og16 w8 hXw8 ho16 hap16 => ?_))
        have hn17 := Inn.put hn11 ho14 hd11_14
        have hl17 := LoI.put hl11 hl14
        have hz0_17 := BlR.put hz0_11 hg0_14
        have hz1_17 := BlR.put hz1_11 hg1_14
        have hz2_17 := BlR.put hz2_11 hg2_14
        have hd4_17 := DI.put hd4_11 (Dj.symm hd4_14)
        have hd10_17 := DI.put hd10_11 (Dj.symm hd10_14)
        have hd13_17 := DI.put hd11_13 (Dj.symm hd13_14)
        have hd15_17 := DI.put hd11_15 hd14_15
        have hnp17 := hn17
        have hl16 := Lo.app hl10 hB hap16
        have hd5_16 := DI.app hd5_10 hn5 hap16
        have hd4_16 := Dj.app hd4_10 ho4.ltO hap16
        have hd13_16 := Dj.app (Dj.symm hd10_13) ho13.ltO hap16
        have hd15_16 := Dj.app (Dj.symm hd10_15) ho15.ltO hap16
        have hd16_17 := DI.app hd10_17 hn17 hap16
        have hk0_16 := OkN.app hU0 hk0_10 hap16
        have hg0_16 := OgR.app hg0_10 hU0.size hap16
        have hk1_16 := OkN.app hU1 hk1_10 hap16
        have hg1_16 := OgR.app hg1_10 hU1.size hap16
        have hk2_16 := OkN.app hU2 hk2_10 hap16
        have hg2_16 := OgR.app hg2_10 hU2.size hap16
        have hB := hB.updL hXw8 hl10
        have hn5 := hn5.updD hXw8 hd5_10
        have ho4 := ho4.updD hXw8 hd4_10
        have ho13 := ho13.updD hXw8 (Dj.symm hd10_13)
        have ho15 := ho15.updD hXw8 (Dj.symm hd10_15)
        have hn17 := hn17.updD hXw8 hd10_17
        have hU0 := hU0.step hXw8 hk0_10
        have hU1 := hU1.step hXw8 hk1_10
        have hU2 := hU2.step hXw8 hk2_10
        refine WL.pure rfl rfl rfl (PV.assign rfl) ?_
        refine WL.nil ?_
        refine NQ.block ?_
        refine NQ.then ?_
        refine CW.reg ?_
        refine WL.pure rfl rfl rfl (PV.add rfl rfl (by constructor <;> omega)) ?_
        refine WL.pure rfl rfl rfl (PV.move rfl) ?_
        refine WL.nil ?_
        refine NQ.next (ρ := [(6, _), (23, _)]) ⟨rfl, rfl, rfl, rfl, rfl, rfl, rfl, rfl, rfl, rfl, trivial⟩ ?_
        exact ⟨_, ⟨v16, og16, _, (os10 ++ [og14]), l + 1, rfl, rfl, hU2, ho16, (by first | exact hg2_16 | exact OgR.weak hg2_16), innE hn17 (by exact gP_put), (by first | exact hz2_17 | exact BlR.weak hz2_17), hd16_17, (by first | omega | assumption | (simp_all; done) | (simp_all; omega))⟩, by omega⟩
      try simp only [decide_eq_true_eq, decide_eq_false_iff_not, Bool.not_eq_true', Bool.not_eq_false', Bool.not_eq_eq_eq_not, Bool.not_true, Bool.not_false, Int.not_lt, Int.not_le, Classical.not_not, beq_iff_eq, beq_eq_false_iff_ne] at hc3
      refine CW.exit ?_
      refine XQ.then ?_
      refine XQ.then ?_
      refine XQ.here ?_
      refine NQ.block ?_
      refine NQ.then ?_
      refine CW.reg ?_
      refine WL.pure rfl rfl rfl (PV.add rfl rfl (by constructor <;> omega)) ?_
      refine WL.pure rfl rfl rfl (PV.move rfl) ?_
      refine WL.nil ?_
      refine NQ.next (ρ := [(6, _), (18, _)]) ⟨rfl, rfl, rfl, rfl, rfl, rfl, rfl, trivial⟩ ?_
      exact ⟨_, ⟨v10, og10, _, os10, k + 1, rfl, rfl, hU1, ho10, (by first | exact hg1_10 | exact OgR.weak hg1_10), innE hn11 (by rw [show l = L.toNat from (by omega)]; exact gP_next (by omega)), (by first | exact hz1_11 | exact BlR.weak hz1_11), hd10_11, (by first | omega | assumption | (simp_all; done) | (simp_all; omega))⟩, by omega⟩
    try simp only [decide_eq_true_eq, decide_eq_false_iff_not, Bool.not_eq_true', Bool.not_eq_false', Bool.not_eq_eq_eq_not, Bool.not_true, Bool.not_false, Int.not_lt, Int.not_le, Classical.not_not, beq_iff_eq, beq_eq_false_iff_ne] at hc2
    refine CW.exit ?_
    refine XQ.then ?_
    refine XQ.then ?_
    refine XQ.here ?_
    refine NQ.then ?_
    refine CW.reg ?_
    refine WL.pure rfl rfl rfl (PV.move rfl) ?_
    refine WL.pure rfl rfl rfl (PV.assign rfl) ?_
    refine WL.nil ?_
    refine NQ.block ?_
    refine NQ.then ?_
    refine CW.reg ?_
    refine WL.pure rfl rfl rfl (PV.add rfl rfl (by constructor <;> omega)) ?_
    refine WL.pure rfl rfl rfl (PV.move rfl) ?_
    refine WL.nil ?_
    refine NQ.next (ρ := [(5, _), (13, _)]) ⟨rfl, rfl, rfl, rfl, trivial⟩ ?_
    exact ⟨_, ⟨v8, og8, _, os8, i + 1, rfl, rfl, hU0, ho8, (by first | exact hg0_8 | exact OgR.weak hg0_8), innE hn9 (by rw [show k = (wordsL L i).length from (by omega)]; exact gP_done (Nat.le_refl _)), (by first | exact hz0_9 | exact BlR.weak hz0_9), hd8_9, (by first | omega | assumption | (simp_all; done) | (simp_all; omega))⟩, by omega⟩
  try simp only [decide_eq_true_eq, decide_eq_false_iff_not, Bool.not_eq_true', Bool.not_eq_false', Bool.not_eq_eq_eq_not, Bool.not_true, Bool.not_false, Int.not_lt, Int.not_le, Classical.not_not, beq_iff_eq, beq_eq_false_iff_ne] at hc1
  refine CW.exit ?_
  refine XQ.then ?_
  refine XQ.then ?_
  refine XQ.here ?_
  refine NQ.then ?_
  refine CW.seq ?_
  refine CW.reg ?_
  refine WL.pure rfl rfl rfl (PV.move rfl) ?_
  refine WL.pure rfl rfl rfl (PV.assign rfl) ?_
  refine WL.nilS ?_
  refine CW.ret ?_
  refine RQ.r1 rfl ?_
  refine ⟨hB, v4, og4, _ , os4, ?_, ho4, hl4, innE hn5 ?_, hl5, hd4_5⟩
  · skip
    rfl
  · skip
    rw [show i = n.toNat from (by omega)]
theorem c_impl_wordsUpTo {w : World} {L n : Int} (hL : 1 ≤ L ∧ L ≤ 4) (hn : 0 ≤ n ∧ n ≤ 5) : Calls Try.prog 82 #[.int .i64 L, .int .i64 n] w (Ret1 (fun v w' => Ext w w' ∧ ∃ u og_u vs_u os_u, v = u ∧ Osl VV w' og_u u vs_u ∧ Lo w og_u ∧ Inn w' os_u vs_u (wordsP L (n.toNat + 1)) ∧ LoI w os_u ∧ DI os_u og_u)) := by
  have hB : Ext w w := Ext.refl w
  refine callsOf (vs := [_, _]) Try.func82 rfl Try.ntmps82 rfl rfl ?_
  refine CW.seq ?_
  refine CW.reg ?_
  refine WL.pure rfl rfl rfl (PV.assign rfl) ?_
  refine WL.nilS ?_
  refine CW.seq ?_
  refine CW.reg ?_
  refine WL.op rfl (OpK.buildS VV (os := []) [] rfl T.sl28 rfl rfl T.zv26 rfl (by intro z hz; cases hz) rfl (fun v1 g1 w1 hXw1 ho1 hge1 => ?_))
  have hl1 := Lo.new hB hge1
  have hB := hB.trans hXw1
  refine WL.pure rfl rfl rfl (PV.assign rfl) ?_
  refine WL.nilS ?_
  refine CW.seq ?_
  refine CW.seq ?_
  refine CW.reg ?_
  refine WL.pure rfl rfl rfl (PV.move rfl) ?_
  refine WL.pure rfl rfl rfl (PV.add rfl rfl (by constructor <;> omega)) ?_
  refine WL.pure rfl rfl rfl (PV.move rfl) ?_
  refine WL.nilS ?_
  refine CW.block ?_
  have hn2 := Inn.zero w1
  have hl2 := LoI.nl w
  have hd1_2 : DI [] (some g1) := DI.zero _
  have hlt1 := ho1.ltO
  have hlt2 := hn2.ltO
  refine CW.loop (σk := [(0, _), (9, _)]) (fun ρ wz m => ∃ (v3 : Value) (og3 : Option Nat) (vs3 : List Value) (os3 : List (Option Nat)) (i : Nat), ρ = [(5, v3), (10, .int .i64 (i : Nat))] ∧ m = (n + 1).toNat - i ∧ UpdL [(some g1)] w1 wz ∧ Osl VV wz og3 v3 (vs3) ∧ OgR w1 (some g1) og3 ∧ Inn wz os3 vs3 (wordsP L i) ∧ BlR w1 [] os3 ∧ DI os3 og3 ∧ ((i : Int) ≤ n + 1)) (ρ₀ := [(5, _), (10, _)]) (m₀ := _) ⟨rfl, rfl, rfl, rfl, trivial⟩ ⟨v1, (some g1), _, [], 0, rfl, rfl, (UpdL.refl _ _), ho1, OgR.refl _ _, innE hn2 (by exact wordsP_zero _), BlR.refl _ _, hd1_2, (by first | omega | rfl | (simp; done) | assumption | (simp_all; done))⟩ ?_
  rintro _ wl1 _ ⟨v3, og3, vs3, os3, i, rfl, rfl, hU0, ho3, ha3, hn4, hy4, hd3_4, hi⟩
  have hl3 := Lo.ogr hl1 hB ha3
  have hg0_3 := ha3
  have hk0_3 : OkB [(some g1)] w1 og3 := OkB.ogr (OkB.mem (by simp)) (Nat.le_refl _) ha3
  have hBpre0 := hB
  have hB := hB.loop hU0 ⟨hl1, trivial⟩
  have hlv4 := hn4.lv
  have hz0_4 := hy4
  have hl4 := LoI.blr hl2 hBpre0 hy4
  have hpl := wordsP_len (L := L) (by omega) i (by omega)
  refine CW.seq ?_
  refine CW.reg ?_
  refine WL.pure rfl rfl rfl (PV.lss rfl rfl) ?_
  refine WL.nilS ?_
  refine CW.seq ?_
  refine CW.cond rfl (fun hc1 => ?_) (fun hc1 => ?_)
  · skip
    try simp only [decide_eq_true_eq, decide_eq_false_iff_not, Bool.not_eq_true', Bool.not_eq_false', Bool.not_eq_eq_eq_not, Bool.not_true, Bool.not_false, Int.not_lt, Int.not_le, Classical.not_not, beq_iff_eq, beq_eq_false_iff_ne] at hc1
    refine CW.skipS ?_
    refine CW.seq ?_
    refine CW.block ?_
    refine CW.seq ?_
    refine CW.reg ?_
    refine WL.pure rfl rfl rfl (PV.move rfl) ?_
    refine WL.pure rfl rfl rfl (PV.assign rfl) ?_
    refine WL.nilS ?_
    refine CW.reg ?_
    refine WL.pure rfl rfl rfl (PV.move rfl) ?_
    refine WL.pure rfl rfl rfl (PV.move rfl) ?_
    refine WL.pure rfl rfl rfl (PV.move rfl) ?_
    refine WL.op rfl (OpK.call rfl T.cf124 rfl (c_impl_wordsOf (by first | assumption | omega | (simp only [marks_len, marksB_len, marksR_len, sumL_marksS]; omega)) (by first | assumption | omega | (simp only [marks_len, marksB_len, marksR_len, sumL_marksS]; omega))) (fun rv1 w2 hR => ?_))
    obtain ⟨hXw2, v5, og5, vs6, os6, rfl, ho5, hq5, hn6, hq6, hd5_6⟩ := hR
    have hl5 := Lo.up hq5 hB
    have hd4_5 := DI.fresh hn4 hq5
    have hd3_5 := Dj.lo ho3.ltO hq5
    have hk0_5 := OkN.lo hU0 hq5
    have hg0_5 := OgR.lo hU0.size hq5
    have hl6 := LoI.up hq6 hB
    have hlv6 := hn6.lv
    have hdd4_6 := DD.symm (DD.lo hn4 hq6)
    have hd3_6 := DI.lo ho3.ltO hq6
    have hz0_6 := BlR.lo hU0.size hq6
    have hB := hB.trans hXw2
    have hn4 := hn4.up hXw2
    have ho3 := ho3.up hXw2
    have hU0 := hU0.ext hXw2
    have hwl9 := wordsL_1024 (L := L) (n := ((i : Int)).toNat) (by omega) (by omega)
    refine WL.op rfl (OpK.appendS (f := VV) rfl T.sl28 T.zv26 rfl rfl ho3 rfl (Osl.srcM ho5 (Inn.cells hn6)) (by first | (simp only [List.length_cons, List.length_nil]; omega) | (omega)) (fun v7 og7 w3 hXw3 ho7 hap7 => ?_))
    have hn8 := Inn.app hn4 hn6 (DD.symm hdd4_6)
    have hl8 := LoI.cat hl4 hl6
    have hz0_8 := BlR.cat hz0_4 hz0_6
    have hd3_8 := DI.cat hd3_4 hd3_6
    have hd5_8 := DI.cat hd4_5 hd5_6
    have hnp8 := hn8
    have hl7 := Lo.app hl3 hB hap7
    have hd5_7 := Dj.app (Dj.symm hd3_5) ho5.ltO hap7
    have hd7_8 := DI.app hd3_8 hn8 hap7
    have hk0_7 := OkN.app hU0 hk0_3 hap7
    have hg0_7 := OgR.app hg0_3 hU0.size hap7
    have hB := hB.updL hXw3 hl3
    have ho5 := ho5.updD hXw3 (Dj.symm hd3_5)
    have hn8 := hn8.updD hXw3 hd3_8
    have hU0 := hU0.step hXw3 hk0_3
    refine WL.pure rfl rfl rfl (PV.assign rfl) ?_
    refine WL.nil ?_
    refine NQ.block ?_
    refine NQ.then ?_
    refine CW.reg ?_
    refine WL.pure rfl rfl rfl (PV.add rfl rfl (by constructor <;> omega)) ?_
    refine WL.pure rfl rfl rfl (PV.move rfl) ?_
    refine WL.nil ?_
    refine NQ.next (ρ := [(5, _), (10, _)]) ⟨rfl, rfl, rfl, rfl, trivial⟩ ?_
    exact ⟨_, ⟨v7, og7, _, (os3 ++ os6), i + 1, rfl, rfl, hU0, ho7, (by first | exact hg0_7 | exact OgR.weak hg0_7), innE hn8 (by exact wordsP_succ _ _), (by first | exact hz0_8 | exact BlR.weak hz0_8), hd7_8, (by first | omega | assumption | (simp_all; done) | (simp_all; omega))⟩, by omega⟩
  try simp only [decide_eq_true_eq, decide_eq_false_iff_not, Bool.not_eq_true', Bool.not_eq_false', Bool.not_eq_eq_eq_not, Bool.not_true, Bool.not_false, Int.not_lt, Int.not_le, Classical.not_not, beq_iff_eq, beq_eq_false_iff_ne] at hc1
  refine CW.exit ?_
  refine XQ.then ?_
  refine XQ.then ?_
  refine XQ.here ?_
  refine NQ.then ?_
  refine CW.seq ?_
  refine CW.reg ?_
  refine WL.pure rfl rfl rfl (PV.move rfl) ?_
  refine WL.pure rfl rfl rfl (PV.assign rfl) ?_
  refine WL.nilS ?_
  refine CW.ret ?_
  refine RQ.r1 rfl ?_
  refine ⟨hB, v3, og3, _ , os3, ?_, ho3, hl3, innE hn4 ?_, hl4, hd3_4⟩
  · skip
    rfl
  · skip
    rw [show i = n.toNat + 1 from (by omega)]
theorem c_impl_pass {w : World} {va : Value} {xs : List Int} {a l : Int} (ha : Rd EI w va xs) (hab : 0 ≤ a ∧ a ≤ 100) : Calls Try.prog 125 #[va, .int .i64 a, .int .i64 l] w (Ret1 (RQt (.tuple #[.int .i64 (pasI a l), .bool (pasB xs a l)]) w)) := by
  have hB : Ext w w := Ext.refl w
  have hla := ha.leI
  refine callsOf (vs := [_, _, _]) Try.func125 rfl Try.ntmps125 rfl rfl ?_
  refine CW.seq ?_
  refine CW.reg ?_
  refine WL.pure rfl rfl rfl (PV.assign rfl) ?_
  refine WL.pure rfl rfl rfl (PV.assign rfl) ?_
  refine WL.nilS ?_
  refine CW.seq ?_
  refine CW.seq ?_
  refine CW.reg ?_
  refine WL.pure rfl rfl rfl (PV.move rfl) ?_
  refine WL.pure rfl rfl rfl (PV.lss rfl rfl) ?_
  refine WL.nilS ?_
  refine CW.cond rfl (fun hc1 => ?_) (fun hc1 => ?_)
  · skip
    try simp only [decide_eq_true_eq, decide_eq_false_iff_not, Bool.not_eq_true', Bool.not_eq_false', Bool.not_eq_eq_eq_not, Bool.not_true, Bool.not_false, Int.not_lt, Int.not_le, Classical.not_not, beq_iff_eq, beq_eq_false_iff_ne] at hc1
    refine CW.seq ?_
    refine CW.reg ?_
    refine WL.pure rfl rfl rfl (PV.move rfl) ?_
    refine WL.pure rfl rfl rfl (PV.assign rfl) ?_
    refine WL.pure rfl rfl rfl (PV.assign rfl) ?_
    refine WL.nilS ?_
    refine CW.ret ?_
    refine RQ.then ?_
    refine RQ.r2 rfl rfl ?_
    refine ⟨?_, hB⟩
    first | (rw [(pas_neg (xs := xs) (by assumption : l < 0)).1, (pas_neg (xs := xs) (by assumption : l < 0)).2]) | (rw [(pas_pos (xs := xs) (by omega : ¬ l < 0)).1, (pas_pos (xs := xs) (by omega : ¬ l < 0)).2]; first | (rw [decide_eq_false (by omega : ¬ a < xs.length)]; rfl) | (rw [decide_eq_true (by omega : a < xs.length)]; rfl))
  try simp only [decide_eq_true_eq, decide_eq_false_iff_not, Bool.not_eq_true', Bool.not_eq_false', Bool.not_eq_eq_eq_not, Bool.not_true, Bool.not_false, Int.not_lt, Int.not_le, Classical.not_not, beq_iff_eq, beq_eq_false_iff_ne] at hc1
  refine CW.skipS ?_
  refine CW.seq ?_
  refine CW.draw T.mixed (by kernel_rfl) (fun _ _ _ _ _ h => h) (fun w8 w9 => Upd none w8 w9) 16 (.take 0 (.take 1 (.take 2 (.take 3 (.take 4 (.take 5 (.take 6 (.take 14 (.split (.take 7 (.take 8 (.take 9 (.take 10 (.take 11 (.take 12 (.take 13 (.take 15 .done)))))))) (.take 7 (.take 8 (.take 9 (.take 10 (.take 11 (.take 12 (.take 13 (.take 15 .done))))))))))))))))) (by kernel_rfl) (fun w1 hXd => ?_)
  have hB := hB.trans hXd
  have hBr := hB
  have hS : Upd none w1 w1 := Ext.toUpd (Ext.refl _)
  refine HP.take rfl rfl rfl rfl hS (fun wS hS1 => PV.move rfl) ?_
  refine HP.take rfl rfl rfl rfl hS (fun wS hS1 => PV.add rfl rfl (by constructor <;> omega)) ?_
  refine HP.take rfl rfl rfl rfl hS (fun wS hS1 => PV.move rfl) ?_
  refine HP.take rfl rfl rfl rfl hS (fun wS hS1 => PV.move rfl) ?_
  refine HP.take rfl rfl rfl rfl hS (fun wS hS1 => (by first | exact PV.len rfl (by assumption) T.sl26 | exact PV.lenOs rfl (by assumption) T.sl26 | exact PV.len rfl (NL.rd (by assumption)) T.sl26 | exact PV.len rfl (Inn.rd (by assumption) (by omega)) T.sl26)) ?_
  refine HP.take rfl rfl rfl rfl hS (fun wS hS1 => PV.lss rfl rfl) ?_
  refine HP.take rfl rfl rfl rfl hS (fun wS hS1 => PV.move rfl) ?_
  refine HP.take rfl rfl rfl rfl hS (fun wS hS1 => PV.assign rfl) ?_
  refine HP.split (t := 17) rfl (fun hc2 => ?_) (fun hc2 => ?_)
  rotate_left
  · skip
    try simp only [decide_eq_true_eq, decide_eq_false_iff_not, Bool.not_eq_true', Bool.not_eq_false', Bool.not_eq_eq_eq_not, Bool.not_true, Bool.not_false, Int.not_lt, Int.not_le, Classical.not_not, beq_iff_eq, beq_eq_false_iff_ne] at hc2
    refine HP.skip rfl rfl rfl rfl rfl rfl hS ?_
    refine HP.skip rfl rfl rfl rfl rfl rfl hS ?_
    refine HP.skip rfl rfl rfl rfl rfl rfl hS ?_
    refine HP.skip rfl rfl rfl rfl rfl rfl hS ?_
    refine HP.skip rfl rfl rfl rfl rfl rfl hS ?_
    refine HP.skip rfl rfl rfl rfl rfl rfl hS ?_
    refine HP.take rfl rfl rfl rfl hS (fun wS hS1 => PV.pickF rfl rfl) ?_
    refine HP.take rfl rfl rfl rfl hS (fun wS hS1 => PV.assign rfl) ?_
    refine HP.doneS ?_
    refine CW.ret ?_
    refine RQ.r2 rfl rfl ?_
    refine ⟨?_, hB⟩
    first | (rw [(pas_neg (xs := xs) (by assumption : l < 0)).1, (pas_neg (xs := xs) (by assumption : l < 0)).2]) | (rw [(pas_pos (xs := xs) (by omega : ¬ l < 0)).1, (pas_pos (xs := xs) (by omega : ¬ l < 0)).2]; first | (rw [decide_eq_false (by omega : ¬ a < xs.length)]; rfl) | (rw [decide_eq_true (by omega : a < xs.length)]; rfl))
  try simp only [decide_eq_true_eq, decide_eq_false_iff_not, Bool.not_eq_true', Bool.not_eq_false', Bool.not_eq_eq_eq_not, Bool.not_true, Bool.not_false, Int.not_lt, Int.not_le, Classical.not_not, beq_iff_eq, beq_eq_false_iff_ne] at hc2
  refine HP.takeG rfl rfl rfl rfl rfl rfl hS (fun wS hS1 => PV.move rfl) ?_
  refine HP.takeG rfl rfl rfl rfl rfl rfl hS (fun wS hS1 => PV.move rfl) ?_
  first
    | refine HP.at (x := .tmp 18) (y := .tmp 19) (E := EI) (0) rfl rfl (by first | assumption | exact Inn.rd (by assumption) (by omega)) (by first | omega | (simp only [List.length_set]; omega) | (simp only [List.length_append, List.length_take, List.length_replicate, List.length_drop]; omega)) (fun p1 csp1 hpp1 hcp1 hq => ?_)
    | refine HP.atZ (x := .tmp 18) (y := .tmp 19) (E := EI) (0) rfl rfl (by first | assumption | exact Inn.rd (by assumption) (by omega)) (by first | omega | (simp only [List.length_set]; omega) | (simp only [List.length_append, List.length_take, List.length_replicate, List.length_drop]; omega)) (fun p1 csp1 hpp1 hzp1 hcp1 hq => ?_)
  cases hq
  refine HP.takeG rfl rfl rfl rfl rfl rfl hS (fun wS hS1 => (by first | exact PV.indexAddr hpp1 rfl rfl T.sl26 | exact PV.indexAddr hpp1 rfl (by rw [← hzp1]; rfl) T.sl26)) ?_
  refine HP.takeG rfl rfl rfl rfl rfl rfl hS (fun wS hS1 => (by first | exact PV.load0 T.na2 rfl (by first | exact Cells.up (by assumption) (hBr.trans hS1) | exact Bx.cells (Bx.updD (by assumption) hS1 (Dj.nlR _)) | exact Cells.upd (by assumption) hS1 (by simp)) (Ext.refl _) rfl | exact PV.load1 T.na2 rfl (by first | exact Cells.up (by assumption) (hBr.trans hS1) | exact Bx.cells (Bx.updD (by assumption) hS1 (Dj.nlR _)) | exact Cells.upd (by assumption) hS1 (by simp)) (Ext.refl _) rfl)) ?_
  refine HP.takeG rfl rfl rfl rfl rfl rfl hS (fun wS hS1 => PV.move rfl) ?_
  refine HP.takeG rfl rfl rfl rfl rfl rfl hS (fun wS hS1 => PV.eql rfl rfl) ?_
  refine HP.take rfl rfl rfl rfl hS (fun wS hS1 => PV.pickT rfl rfl) ?_
  refine HP.take rfl rfl rfl rfl hS (fun wS hS1 => PV.assign rfl) ?_
  refine HP.doneS ?_
  refine CW.ret ?_
  refine RQ.r2 rfl rfl ?_
  refine ⟨?_, hB⟩
  first | (rw [(pas_neg (xs := xs) (by assumption : l < 0)).1, (pas_neg (xs := xs) (by assumption : l < 0)).2]) | (rw [(pas_pos (xs := xs) (by omega : ¬ l < 0)).1, (pas_pos (xs := xs) (by omega : ¬ l < 0)).2]; first | (rw [decide_eq_false (by omega : ¬ a < xs.length)]; rfl) | (rw [decide_eq_true (by omega : a < xs.length)]; rfl))

end Go.Proofs.Ythjeebjgdeldkaa
