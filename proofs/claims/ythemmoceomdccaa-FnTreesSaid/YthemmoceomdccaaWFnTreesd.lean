/- Walks of the functions that the law FnTrees reaches: each says what its function computes. No condition. -/
import Derived.Test.YthemmoceomdccaaProg
import Derived.Test.YthemmoceomdccaaLibM
import Derived.Test.YthemmoceomdccaaPlA
import Derived.Test.YthemmoceomdccaaPlM
import Derived.Test.YthemmoceomdccaaLibN
import Derived.Test.YthemmoceomdccaaLibO
import Derived.Test.YthemmoceomdccaaLibG2
import Derived.Test.YthemmoceomdccaaPlG
import Derived.Test.YthemmoceomdccaaLibRf
import Derived.Test.YthemmoceomdccaaPlTr
import Derived.Test.YthemmoceomdccaaPlTs
import Derived.Test.YthemmoceomdccaaLibRs
import Derived.Test.YthemmoceomdccaaLibR
import Derived.Test.YthemmoceomdccaaPlX
import Derived.Test.YthemmoceomdccaaPlCt
import Derived.Test.YthemmoceomdccaaPlFt
import Derived.Test.YthemmoceomdccaaLibKp
import Derived.Test.YthemmoceomdccaaLibKa
import Derived.Test.YthemmoceomdccaaPlCl
import Derived.Test.YthemmoceomdccaaPlR
import Derived.Test.YthemmoceomdccaaPlDq
import Derived.Test.YthemmoceomdccaaPlFu
import Derived.Test.YthemmoceomdccaaPlFv
import Derived.Test.YthemmoceomdccaaPlId
import Derived.Test.YthemmoceomdccaaPlCn
import Derived.Test.YthemmoceomdccaaPlFy
import Derived.Test.YthemmoceomdccaaPlR8
import Derived.Test.YthemmoceomdccaaWFnTreesc
namespace Go.Proofs.Ythemmoceomdccaa
open Go Go.WX Go.Proofs
set_option linter.unusedSimpArgs false
set_option linter.unusedVariables false

theorem c_impl_WordHasTree_1 {w : World} {b : World} {pt pw ps : Addr} {a0 : Int} {a1 : Int} {va2 : Value} {xa2 : List Int} {va3 : Value} {xa3 : List Int} {va4 : Value} {xa4 : List Bool} {vw : Value} {xs ys : List Int} {i L : Nat} (hB0 : Ext b w) (htb_ps : Bx w ps (List.map VU32 (ys))) (htl_ps : Lo b (some ps.block)) (htb_pt : Bx w pt [.int .i64 a0, .int .i64 a1, va2, va3, va4]) (htb_pw : Bx w pw [vw]) (htd_pt_ps : Dj (some pt.block) (some ps.block)) (htd_pw_ps : Dj (some pw.block) (some ps.block)) (ha2 : Rd EI b va2 xa2) (ha3 : Rd EI b va3 xa3) (ha4 : Rd EB b va4 xa4) (hw : Rd EI b vw xs) (gt : GT a0 xa2 xa3 xs) (hTb : Tb a0 xa2 xa3 xs 13 156 ys L i) (hL : 1 ≤ L ∧ i + L ≤ xs.length ∧ xs.length ≤ 12) : Calls Try.prog 145 #[.int .i64 (i : Nat), .int .i64 ((i + L : Nat) : Int), .pointer (some pt), .pointer (some pw), .pointer (some ps)] w (Ret1 (fun v w' => UpdL [some ps.block] w w' ∧ ∃ (zs : List Int), v = .tuple #[] ∧ (Tb a0 xa2 xa3 xs 13 156 zs L (i + 1)) ∧ Bx w' ps (List.map VU32 (zs)))) := by
  have hB := hB0
  have hla2 := ha2.leI; have hla3 := ha3.leI; have hla4 := ha4.leI; have hlw := hw.leI; have hs := gt.s; have hnl := gt.nl; have hnn := hTb.n
  refine callsOf (vs := [_, _, _, _, _]) Try.func145 rfl Try.ntmps145 rfl rfl ?_
  have hUB : UpdL [(some ps.block)] w w := UpdL.refl _ _
  have hb1 := htb_ps
  have hl1 := htl_ps
  have hkB_1 : OkB [(some ps.block)] w (some ps.block) := OkB.mem (by simp)
  have hgB_1 := OgR.refl w (some ps.block)
  have hb2 := htb_pt
  have hd1_2 := Dj.symm htd_pt_ps
  have hb3 := htb_pw
  have hd1_3 := Dj.symm htd_pw_ps
  refine CW.seq ?_
  refine CW.seq ?_
  refine CW.reg ?_
  refine WL.mv rfl rfl ?_
  refine WL.mv rfl rfl ?_
  refine WL.pure rfl rfl rfl (PV.add rfl rfl (by constructor <;> omega)) ?_
  refine WL.pure rfl rfl rfl (PV.eql rfl rfl) ?_
  refine WL.nilS ?_
  refine CW.cond rfl (fun hc1 => ?_) (fun hc1 => ?_)
  · skip
    try simp only [nq] at hc1
    have hLe : L = 1 := (by omega); have hlf := gt.leaf (i := i) (by omega); have hwi := allIn_get gt.iw (k := i) (by omega)
    refine CW.draw T.mixed (by kernel_rfl) (fun _ _ _ _ _ h => h) (fun w8 w9 => Upd none w8 w9) 11 (.take 0 (.take 1 (.take 2 (.take 3 (.take 4 (.take 5 (.take 6 (.take 9 (.must 7 (.take 8 (.take 10 (.must 11 .done)))))))))))) (by kernel_rfl) (fun w1 hXd => ?_)
    have hB := hB.trans hXd
    have hb1 := hb1.up hXd
    have hb2 := hb2.up hXd
    have hb3 := hb3.up hXd
    have hUB := hUB.ext hXd
    have hBr := hB
    have hS : Upd none w1 w1 := Ext.toUpd (Ext.refl _)
    refine HP.take rfl rfl rfl rfl hS (fun wS hS1 => PV.move rfl) ?_
    refine HP.take rfl rfl rfl rfl hS (fun wS hS1 => PV.move rfl) ?_
    refine HP.take rfl rfl rfl rfl hS (fun wS hS1 => PV.loadA T.ag72 rfl (Bx.cells (Bx.updD (by assumption) hS1 (Dj.nlR _))) (Ext.refl _) rfl) ?_
    refine HP.take rfl rfl rfl rfl hS (fun wS hS1 => PV.load0 T.na28 rfl (Bx.cells (Bx.updD (by assumption) hS1 (Dj.nlR _))) (Ext.refl _) rfl) ?_
    refine HP.take rfl rfl rfl rfl hS (fun wS hS1 => PV.move rfl) ?_
    first
      | refine HP.at (x := .tmp 17) (y := .tmp 18) (E := EI) (0) rfl rfl (by first | assumption | exact Inn.rd (by assumption) (by omega)) (by first | omega | (simp only [List.length_set]; omega) | (simp only [List.length_append, List.length_take, List.length_replicate, List.length_drop]; omega)) (fun p1 csp1 hpp1 hcp1 hq => ?_)
      | refine HP.atZ (x := .tmp 17) (y := .tmp 18) (E := EI) (0) rfl rfl (by first | assumption | exact Inn.rd (by assumption) (by omega)) (by first | omega | (simp only [List.length_set]; omega) | (simp only [List.length_append, List.length_take, List.length_replicate, List.length_drop]; omega)) (fun p1 csp1 hpp1 hzp1 hcp1 hq => ?_)
    cases hq
    refine HP.take rfl rfl rfl rfl hS (fun wS hS1 => (by first | exact PV.indexAddr hpp1 rfl rfl T.sl28 | exact PV.indexAddr hpp1 rfl (by rw [← hzp1]; rfl) T.sl28)) ?_
    refine HP.take rfl rfl rfl rfl hS (fun wS hS1 => (by first | exact PV.load0 T.na2 rfl (by first | exact Cells.up (by assumption) (hBr.trans hS1) | exact Bx.cells (Bx.updD (by assumption) hS1 (Dj.nlR _)) | exact Cells.upd (by assumption) hS1 (by simp)) (Ext.refl _) rfl | exact PV.load1 T.na2 rfl (by first | exact Cells.up (by assumption) (hBr.trans hS1) | exact Bx.cells (Bx.updD (by assumption) hS1 (Dj.nlR _)) | exact Cells.upd (by assumption) hS1 (by simp)) (Ext.refl _) rfl)) ?_
    refine HP.take rfl rfl rfl rfl hS (fun wS hS1 => (by first | exact PV.ixN T.ar174 rfl hb1.spot rfl (by omega) | exact PV.ixZ T.ar174 rfl hb1.spot rfl (by omega))) ?_
    refine HP.must rfl rfl (OpK.callR rfl T.cf137 rfl (c_impl_TreeMachine_leaf (by first | assumption | exact Rd.up (by assumption) hB | exact Osl.rd (by assumption) | exact Osn.rdR (by assumption) | exact NL.rd (by assumption) | exact rdII (by assumption) (by assumption) | exact Inn.rd (by assumption) (by omega)) (by first | assumption | exact Rd.up (by assumption) hB | exact Osl.rd (by assumption) | exact Osn.rdR (by assumption) | exact NL.rd (by assumption) | exact rdII (by assumption) (by assumption) | exact Inn.rd (by assumption) (by omega)) (by first | assumption | exact Rd.up (by assumption) hB | exact Osl.rd (by assumption) | exact Osn.rdR (by assumption) | exact NL.rd (by assumption) | exact rdII (by assumption) (by assumption) | exact Inn.rd (by assumption) (by omega)) (by first | assumption | omega | (simp only [marks_len, marksB_len, marksR_len]; omega))) (fun w2 hXw2 => ?_))
    refine ⟨Upd.trans hS hXw2, ?_⟩
    have hS := Upd.trans hS hXw2
    have hB := hB.trans hXw2
    have hb1 := hb1.up hXw2
    have hb2 := hb2.up hXw2
    have hb3 := hb3.up hXw2
    have hUB := hUB.ext hXw2
    refine HP.take rfl rfl rfl rfl hS (fun wS hS1 => PV.shl rfl rfl (by omega) (by first | (simp only [IntKind.bits]; omega) | (simp [IntKind.bits] <;> omega))) ?_
    refine HP.take rfl rfl rfl rfl hS (fun wS hS1 => (by first | exact PV.ixPN1 T.ar173 rfl rfl (by omega) | exact PV.ixPZ1 T.ar173 rfl rfl (by omega))) ?_
    refine HP.last rfl rfl (OpK.storeArr T.sz172 rfl rfl rfl hb1 (by first | omega | (simp only [List.length_set]; omega)) (fun w3 hXw3 hb1 => ?_))
    have hB := hB.updL hXw3 hl1
    have hb2 := hb2.updD hXw3 (Dj.symm hd1_2)
    have hb3 := hb3.updD hXw3 (Dj.symm hd1_3)
    have hUB := hUB.step hXw3 hkB_1
    refine HP.doneS ?_
    refine CW.seq ?_
    refine CW.reg ?_
    refine WL.mv rfl rfl ?_
    refine WL.pure rfl rfl rfl (PV.add rfl rfl (by constructor <;> omega)) ?_
    refine WL.asg rfl rfl ?_
    refine WL.nilS ?_
    refine CW.block ?_
    refine CW.loop (σk := [(0, _), (1, _), (2, _), (4, _)]) (fun ρ wz m => ∃ (k : Nat) (v : Int), ρ = [(7, .int .i64 (k : Nat))] ∧ m = i + L - k ∧ UpdL [(some ps.block)] w3 wz ∧ Bx wz ps (List.map VU32 (ys.set (i * 13 + (i + L)) v)) ∧ (i + 1 ≤ k ∧ k ≤ i + L) ∧ (Pg a0 xa2 xa3 xs v i (i + L) k 0)) (ρ₀ := [(7, _)]) (m₀ := _) ⟨rfl, rfl, rfl, rfl, rfl, trivial⟩ ⟨i + 1, _, rfl, rfl, (UpdL.refl _ _), bxM hb1 (by first | rfl | exact (set_same hz0 (by omega)).symm), (by first | omega | rfl | (simp; done) | assumption | (simp_all; done)), (by first | (rw [hLe]; exact (Pg.one gt (by omega)).at (sh32 (by omega)).symm) | exact Pg.zero gt (by omega))⟩ ?_
    rintro _ wl1 _ ⟨k, v, rfl, rfl, hU0, hb1, hk, hp⟩
    have hUB := hUB.trans hU0 ⟨hkB_1, trivial⟩
    have hb2 := hb2.loop hU0 ⟨(Dj.symm hd1_2), trivial⟩
    have hb3 := hb3.loop hU0 ⟨(Dj.symm hd1_3), trivial⟩
    have hk0_1 : OkB [(some ps.block)] w3 (some ps.block) := OkB.mem (by simp)
    have hB := hB.loop hU0 ⟨hl1, trivial⟩
    refine CW.seq ?_
    refine CW.seq ?_
    refine CW.reg ?_
    refine WL.mv rfl rfl ?_
    refine WL.mv rfl rfl ?_
    refine WL.pure rfl rfl rfl (PV.lss rfl rfl) ?_
    refine WL.nilS ?_
    refine CW.cond rfl (fun hc2 => ?_) (fun hc2 => ?_)
    · skip
      try simp only [nq] at hc2
      refine CW.skipS ?_
      refine CW.seq ?_
      refine CW.block ?_
      refine CW.seq ?_
      refine CW.reg ?_
      refine WL.pure rfl rfl rfl (PV.fieldAddr T.fl72_0 rfl hb2.cells) ?_
      refine WL.pure rfl rfl rfl (PV.load1 T.na2 rfl hb2.cells (Ext.refl _) rfl) ?_
      refine WL.mv rfl rfl ?_
      refine WL.nilS ?_
      refine CW.block ?_
      refine CW.loop (σk := [(0, _), (1, _), (2, _), (4, _), (7, _), (33, _)]) (fun ρ wz m => ∃ (x : Nat) (v : Int), ρ = [(34, .int .i64 (x : Nat))] ∧ m = a0.toNat - x ∧ UpdL [(some ps.block)] wl1 wz ∧ Bx wz ps (List.map VU32 (ys.set (i * 13 + (i + L)) v)) ∧ ((x : Int) ≤ a0) ∧ (Pg a0 xa2 xa3 xs v i (i + L) k (x * a0))) (ρ₀ := [(34, _)]) (m₀ := _) ⟨rfl, rfl, rfl, rfl, rfl, rfl, rfl, trivial⟩ ⟨0, v, rfl, rfl, (UpdL.refl _ _), bxM hb1 (by rfl), (by first | omega | rfl | (simp; done) | assumption | (simp_all; done)), (by exact hp.to (by simp))⟩ ?_
      rintro _ wl2 _ ⟨x, v, rfl, rfl, hU1, hb1, hx, hp⟩
      have hUB := hUB.trans hU1 ⟨hkB_1, trivial⟩
      have hU0 := hU0.trans hU1 ⟨hk0_1, trivial⟩
      have hb2 := hb2.loop hU1 ⟨(Dj.symm hd1_2), trivial⟩
      have hb3 := hb3.loop hU1 ⟨(Dj.symm hd1_3), trivial⟩
      have hk1_1 : OkB [(some ps.block)] wl1 (some ps.block) := OkB.mem (by simp)
      have hB := hB.loop hU1 ⟨hl1, trivial⟩
      refine CW.seq ?_
      refine CW.reg ?_
      refine WL.pure rfl rfl rfl (PV.lss rfl rfl) ?_
      refine WL.nilS ?_
      refine CW.seq ?_
      refine CW.cond rfl (fun hc3 => ?_) (fun hc3 => ?_)
      · skip
        try simp only [nq] at hc3
        refine CW.skipS ?_
        refine CW.seq ?_
        refine CW.block ?_
        refine CW.seq ?_
        refine CW.reg ?_
        refine WL.mv rfl rfl ?_
        refine WL.asg rfl rfl ?_
        refine WL.nilS ?_
        refine CW.seq ?_
        refine CW.reg ?_
        refine WL.pure rfl rfl rfl (PV.fieldAddr T.fl72_0 rfl hb2.cells) ?_
        refine WL.pure rfl rfl rfl (PV.load1 T.na2 rfl hb2.cells (Ext.refl _) rfl) ?_
        refine WL.mv rfl rfl ?_
        refine WL.nilS ?_
        refine CW.block ?_
        refine CW.loop (σk := [(0, _), (1, _), (2, _), (4, _), (7, _), (8, _), (33, _), (34, _), (38, _)]) (fun ρ wz m => ∃ (y : Nat) (v : Int), ρ = [(39, .int .i64 (y : Nat))] ∧ m = a0.toNat - y ∧ UpdL [(some ps.block)] wl2 wz ∧ Bx wz ps (List.map VU32 (ys.set (i * 13 + (i + L)) v)) ∧ ((y : Int) ≤ a0) ∧ (Pg a0 xa2 xa3 xs v i (i + L) k (x * a0 + y))) (ρ₀ := [(39, _)]) (m₀ := _) ⟨rfl, rfl, rfl, rfl, rfl, rfl, rfl, rfl, rfl, rfl, trivial⟩ ⟨0, v, rfl, rfl, (UpdL.refl _ _), bxM hb1 (by rfl), (by first | omega | rfl | (simp; done) | assumption | (simp_all; done)), (by exact hp.to (by simp))⟩ ?_
        rintro _ wl3 _ ⟨y, v, rfl, rfl, hU2, hb1, hy, hp⟩
        have hUB := hUB.trans hU2 ⟨hkB_1, trivial⟩
        have hU0 := hU0.trans hU2 ⟨hk0_1, trivial⟩
        have hU1 := hU1.trans hU2 ⟨hk1_1, trivial⟩
        have hb2 := hb2.loop hU2 ⟨(Dj.symm hd1_2), trivial⟩
        have hb3 := hb3.loop hU2 ⟨(Dj.symm hd1_3), trivial⟩
        have hk2_1 : OkB [(some ps.block)] wl2 (some ps.block) := OkB.mem (by simp)
        have hB := hB.loop hU2 ⟨hl1, trivial⟩
        refine CW.seq ?_
        refine CW.reg ?_
        refine WL.pure rfl rfl rfl (PV.lss rfl rfl) ?_
        refine WL.nilS ?_
        refine CW.seq ?_
        refine CW.cond rfl (fun hc4 => ?_) (fun hc4 => ?_)
        · skip
          try simp only [nq] at hc4
          refine CW.skipS ?_
          refine CW.seq ?_
          refine CW.block ?_
          refine CW.seq ?_
          refine CW.reg ?_
          refine WL.mv rfl rfl ?_
          refine WL.asg rfl rfl ?_
          refine WL.nilS ?_
          refine CW.seq ?_
          refine CW.reg ?_
          have hl := hTb.left (k := k) (v := v) (by omega) (by omega) (by omega) (by omega); have hr := hTb.right (k := k) (v := v) (by omega) (by omega) (by omega) (by omega); have e1 := hl.1; have o1 := hl.2; have e2 := hr.1; have o2 := hr.2; have b1 := (bt32 (x := (x : Int)) o1.r).trans (o1.i x (by omega) (by omega)); have b2 := (bt32 (x := (y : Int)) o2.r).trans (o2.i y (by omega) (by omega)); rw [← e1] at b1; rw [← e2] at b2; have hj := gt.join (x := (x : Int)) (y := (y : Int)) (by omega) (by omega); have e0 : (ys.set (i * 13 + (i + L)) v).getD (i * 13 + (i + L)) 0 = v := gset_eq (by omega); have hlen : (ys.set (i * 13 + (i + L)) v).length = 156 := (by rw [List.length_set]; exact hnn)
          refine WL.mv rfl rfl ?_
          refine WL.mv rfl rfl ?_
          refine WL.pure rfl rfl rfl ((by first | exact PV.ixN T.ar174 rfl hb1.spot rfl (by omega) | exact PV.ixZ T.ar174 rfl hb1.spot rfl (by omega))) ?_
          refine WL.pure rfl rfl rfl ((by first | exact PV.ixPN1 T.ar173 rfl rfl (by omega) | exact PV.ixPZ1 T.ar173 rfl rfl (by omega))) ?_
          refine WL.pure rfl rfl rfl (PV.loadArr 0 T.na172 rfl (Bx.cells hb1) (Ext.refl _) (by first | omega | (simp only [List.length_set]; omega))) ?_
          refine WL.mv rfl rfl ?_
          refine WL.pure rfl rfl rfl (PV.shr rfl rfl (by omega) (by first | (simp only [IntKind.bits]; omega) | (simp [IntKind.bits] <;> omega))) ?_
          refine WL.pure rfl rfl rfl (PV.and rfl rfl) ?_
          refine WL.pure rfl rfl rfl (PV.eql rfl rfl) ?_
          refine WL.mv rfl rfl ?_
          refine WL.split (t := 51) rfl (fun hc5 => ?_) (fun hc5 => ?_)
          rotate_left
          · skip
            try simp only [nq] at hc5
            refine WL.skip rfl rfl rfl rfl rfl ?_
            refine WL.skip rfl rfl rfl rfl rfl ?_
            refine WL.skip rfl rfl rfl rfl rfl ?_
            refine WL.skip rfl rfl rfl rfl rfl ?_
            refine WL.skip rfl rfl rfl rfl rfl ?_
            refine WL.skip rfl rfl rfl rfl rfl ?_
            refine WL.skip rfl rfl rfl rfl rfl ?_
            refine WL.skip rfl rfl rfl rfl rfl ?_
            refine WL.skip rfl rfl rfl rfl rfl ?_
            refine WL.pure rfl rfl rfl (PV.pickF rfl rfl) ?_
            refine WL.nilS ?_
            refine CW.condF rfl ?_
            refine CW.skip ?_
            refine NQ.block ?_
            refine NQ.then ?_
            refine CW.reg ?_
            refine WL.pure rfl rfl rfl (PV.add rfl rfl (by constructor <;> omega)) ?_
            refine WL.mv rfl rfl ?_
            refine WL.nil ?_
            refine NQ.next (ρ := [(39, _)]) ⟨rfl, rfl, rfl, rfl, rfl, rfl, rfl, rfl, rfl, rfl, trivial⟩ ?_
            exact ⟨_, ⟨y + 1, v, rfl, rfl, hU2, bxM hb1 (by first | rfl | (rw [List.set_set, e0, or32 hp.r (by omega)])), (by first | omega | assumption | (simp_all; done) | (simp_all; omega)), (by first | exact (hp.take gt rfl (b1.1 (by assumption)) (b2.1 (by assumption))).to (by omega) | exact (hp.skip gt rfl (by omega) (fun h9 => by first | exact absurd (b1.2 h9.1) (by assumption) | exact absurd (b2.2 h9.2) (by assumption))).to (by omega))⟩, by omega⟩
          try simp only [nq] at hc5
          refine WL.pureG rfl rfl rfl rfl rfl (PV.move rfl) ?_
          refine WL.pureG rfl rfl rfl rfl rfl (PV.move rfl) ?_
          refine WL.pureG rfl rfl rfl rfl rfl ((by first | exact PV.ixN T.ar174 rfl hb1.spot rfl (by omega) | exact PV.ixZ T.ar174 rfl hb1.spot rfl (by omega))) ?_
          refine WL.pureG rfl rfl rfl rfl rfl ((by first | exact PV.ixPN1 T.ar173 rfl rfl (by omega) | exact PV.ixPZ1 T.ar173 rfl rfl (by omega))) ?_
          refine WL.pureG rfl rfl rfl rfl rfl (PV.loadArr 0 T.na172 rfl (Bx.cells hb1) (Ext.refl _) (by first | omega | (simp only [List.length_set]; omega))) ?_
          refine WL.pureG rfl rfl rfl rfl rfl (PV.move rfl) ?_
          refine WL.pureG rfl rfl rfl rfl rfl (PV.shr rfl rfl (by omega) (by first | (simp only [IntKind.bits]; omega) | (simp [IntKind.bits] <;> omega))) ?_
          refine WL.pureG rfl rfl rfl rfl rfl (PV.and rfl rfl) ?_
          refine WL.pureG rfl rfl rfl rfl rfl (PV.eql rfl rfl) ?_
          refine WL.pure rfl rfl rfl (PV.pickT rfl rfl) ?_
          refine WL.nilS ?_
          refine CW.cond rfl (fun hc6 => ?_) (fun hc6 => ?_)
          · skip
            try simp only [nq] at hc6
            refine CW.draw T.mixed (by kernel_rfl) (fun _ _ _ _ _ h => h) (fun w8 w9 => Upd none w8 w9) 13 (.take 0 (.take 1 (.take 2 (.take 3 (.take 4 (.take 5 (.take 6 (.take 7 (.take 11 (.must 8 (.take 9 (.take 10 (.take 12 (.must 13 .done)))))))))))))) (by kernel_rfl) (fun w4 hXd => ?_)
            have hB := hB.trans hXd
            have hb1 := hb1.up hXd
            have hb2 := hb2.up hXd
            have hb3 := hb3.up hXd
            have hUB := hUB.ext hXd
            have hU0 := hU0.ext hXd
            have hU1 := hU1.ext hXd
            have hU2 := hU2.ext hXd
            have hBr := hB
            have hS : Upd none w4 w4 := Ext.toUpd (Ext.refl _)
            refine HP.take rfl rfl rfl rfl hS (fun wS hS1 => PV.move rfl) ?_
            refine HP.take rfl rfl rfl rfl hS (fun wS hS1 => PV.move rfl) ?_
            refine HP.take rfl rfl rfl rfl hS (fun wS hS1 => (by first | exact PV.ixN T.ar174 rfl hb1.spot rfl (by omega) | exact PV.ixZ T.ar174 rfl hb1.spot rfl (by omega))) ?_
            refine HP.take rfl rfl rfl rfl hS (fun wS hS1 => (by first | exact PV.ixPN1 T.ar173 rfl rfl (by omega) | exact PV.ixPZ1 T.ar173 rfl rfl (by omega))) ?_
            refine HP.take rfl rfl rfl rfl hS (fun wS hS1 => PV.loadArr 0 T.na172 rfl (Bx.cells (Bx.updD hb1 hS1 (Dj.nlR _))) (Ext.refl _) (by first | omega | (simp only [List.length_set]; omega))) ?_
            refine HP.take rfl rfl rfl rfl hS (fun wS hS1 => PV.loadA T.ag72 rfl (Bx.cells (Bx.updD (by assumption) hS1 (Dj.nlR _))) (Ext.refl _) rfl) ?_
            refine HP.take rfl rfl rfl rfl hS (fun wS hS1 => PV.move rfl) ?_
            refine HP.take rfl rfl rfl rfl hS (fun wS hS1 => PV.move rfl) ?_
            refine HP.take rfl rfl rfl rfl hS (fun wS hS1 => (by first | exact PV.ixN T.ar174 rfl hb1.spot rfl (by omega) | exact PV.ixZ T.ar174 rfl hb1.spot rfl (by omega))) ?_
            refine HP.must rfl rfl (OpK.callR rfl T.cf138 rfl (c_impl_TreeMachine_join (by first | assumption | exact Rd.up (by assumption) hB | exact Osl.rd (by assumption) | exact Osn.rdR (by assumption) | exact NL.rd (by assumption) | exact rdII (by assumption) (by assumption) | exact Inn.rd (by assumption) (by omega)) (by first | assumption | exact Rd.up (by assumption) hB | exact Osl.rd (by assumption) | exact Osn.rdR (by assumption) | exact NL.rd (by assumption) | exact rdII (by assumption) (by assumption) | exact Inn.rd (by assumption) (by omega)) (by first | assumption | exact Rd.up (by assumption) hB | exact Osl.rd (by assumption) | exact Osn.rdR (by assumption) | exact NL.rd (by assumption) | exact rdII (by assumption) (by assumption) | exact Inn.rd (by assumption) (by omega)) (by first | assumption | omega | (simp only [marks_len, marksB_len, marksR_len]; omega)) (by first | assumption | omega | (simp only [marks_len, marksB_len, marksR_len]; omega)) (by first | assumption | omega | (simp only [marks_len, marksB_len, marksR_len]; omega)) (by first | assumption | omega | (simp only [marks_len, marksB_len, marksR_len]; omega))) (fun w5 hXw5 => ?_))
            refine ⟨Upd.trans hS hXw5, ?_⟩
            have hS := Upd.trans hS hXw5
            have hB := hB.trans hXw5
            have hb1 := hb1.up hXw5
            have hb2 := hb2.up hXw5
            have hb3 := hb3.up hXw5
            have hUB := hUB.ext hXw5
            have hU0 := hU0.ext hXw5
            have hU1 := hU1.ext hXw5
            have hU2 := hU2.ext hXw5
            refine HP.take rfl rfl rfl rfl hS (fun wS hS1 => PV.shl rfl rfl (by omega) (by first | (simp only [IntKind.bits]; omega) | (simp [IntKind.bits] <;> omega))) ?_
            refine HP.take rfl rfl rfl rfl hS (fun wS hS1 => PV.or rfl rfl) ?_
            refine HP.take rfl rfl rfl rfl hS (fun wS hS1 => (by first | exact PV.ixPN1 T.ar173 rfl rfl (by omega) | exact PV.ixPZ1 T.ar173 rfl rfl (by omega))) ?_
            refine HP.last rfl rfl (OpK.storeArr T.sz172 rfl rfl rfl hb1 (by first | omega | (simp only [List.length_set]; omega)) (fun w6 hXw6 hb1 => ?_))
            have hB := hB.updL hXw6 hl1
            have hb2 := hb2.updD hXw6 (Dj.symm hd1_2)
            have hb3 := hb3.updD hXw6 (Dj.symm hd1_3)
            have hUB := hUB.step hXw6 hkB_1
            have hU0 := hU0.step hXw6 hk0_1
            have hU1 := hU1.step hXw6 hk1_1
            have hU2 := hU2.step hXw6 hk2_1
            refine HP.done ?_
            refine NQ.block ?_
            refine NQ.then ?_
            refine CW.reg ?_
            refine WL.pure rfl rfl rfl (PV.add rfl rfl (by constructor <;> omega)) ?_
            refine WL.mv rfl rfl ?_
            refine WL.nil ?_
            refine NQ.next (ρ := [(39, _)]) ⟨rfl, rfl, rfl, rfl, rfl, rfl, rfl, rfl, rfl, rfl, trivial⟩ ?_
            exact ⟨_, ⟨y + 1, sB v (xa3.getD ((x : Int) * a0 + (y : Int)).toNat 0), rfl, rfl, hU2, bxM hb1 (by first | rfl | (rw [List.set_set, e0, or32 hp.r (by omega)])), (by first | omega | assumption | (simp_all; done) | (simp_all; omega)), (by first | exact (hp.take gt rfl (b1.1 (by assumption)) (b2.1 (by assumption))).to (by omega) | exact (hp.skip gt rfl (by omega) (fun h9 => by first | exact absurd (b1.2 h9.1) (by assumption) | exact absurd (b2.2 h9.2) (by assumption))).to (by omega))⟩, by omega⟩
          try simp only [nq] at hc6
          refine CW.skip ?_
          refine NQ.block ?_
          refine NQ.then ?_
          refine CW.reg ?_
          refine WL.pure rfl rfl rfl (PV.add rfl rfl (by constructor <;> omega)) ?_
          refine WL.mv rfl rfl ?_
          refine WL.nil ?_
          refine NQ.next (ρ := [(39, _)]) ⟨rfl, rfl, rfl, rfl, rfl, rfl, rfl, rfl, rfl, rfl, trivial⟩ ?_
          exact ⟨_, ⟨y + 1, v, rfl, rfl, hU2, bxM hb1 (by first | rfl | (rw [List.set_set, e0, or32 hp.r (by omega)])), (by first | omega | assumption | (simp_all; done) | (simp_all; omega)), (by first | exact (hp.take gt rfl (b1.1 (by assumption)) (b2.1 (by assumption))).to (by omega) | exact (hp.skip gt rfl (by omega) (fun h9 => by first | exact absurd (b1.2 h9.1) (by assumption) | exact absurd (b2.2 h9.2) (by assumption))).to (by omega))⟩, by omega⟩
        try simp only [nq] at hc4
        refine CW.exit ?_
        refine XQ.then ?_
        refine XQ.then ?_
        refine XQ.here ?_
        refine NQ.block ?_
        refine NQ.then ?_
        refine CW.reg ?_
        refine WL.pure rfl rfl rfl (PV.add rfl rfl (by constructor <;> omega)) ?_
        refine WL.mv rfl rfl ?_
        refine WL.nil ?_
        refine NQ.next (ρ := [(34, _)]) ⟨rfl, rfl, rfl, rfl, rfl, rfl, rfl, trivial⟩ ?_
        exact ⟨_, ⟨x + 1, _, rfl, rfl, hU1, bxM hb1 (by rfl), (by first | omega | assumption | (simp_all; done) | (simp_all; omega)), (by exact hp.to (rowE (by omega)))⟩, by omega⟩
      try simp only [nq] at hc3
      refine CW.exit ?_
      refine XQ.then ?_
      refine XQ.then ?_
      refine XQ.here ?_
      refine NQ.block ?_
      refine NQ.then ?_
      refine CW.reg ?_
      refine WL.mv rfl rfl ?_
      refine WL.pure rfl rfl rfl (PV.add rfl rfl (by constructor <;> omega)) ?_
      refine WL.asg rfl rfl ?_
      refine WL.nil ?_
      refine NQ.next (ρ := [(7, _)]) ⟨rfl, rfl, rfl, rfl, rfl, trivial⟩ ?_
      exact ⟨_, ⟨k + 1, _, rfl, rfl, hU0, bxM hb1 (by rfl), (by first | omega | assumption | (simp_all; done) | (simp_all; omega)), (by exact hp.nextk gt (by rw [show (x : Int) = a0 from (by omega)]))⟩, by omega⟩
    try simp only [nq] at hc2
    refine CW.exit ?_
    refine XQ.then ?_
    refine XQ.then ?_
    refine XQ.here ?_
    refine NQ.r0 ?_
    refine ⟨hUB, _, rfl, ?_, hb1⟩
    · skip
      exact hTb.put (by omega) (by omega) (by omega) (by omega) (hp.done gt (.inl (by omega)))
  try simp only [nq] at hc1
  have hz0 := hTb.z i (i + L) (by omega) (by omega) (by omega)
  refine CW.skipS ?_
  refine CW.seq ?_
  refine CW.reg ?_
  refine WL.mv rfl rfl ?_
  refine WL.pure rfl rfl rfl (PV.add rfl rfl (by constructor <;> omega)) ?_
  refine WL.asg rfl rfl ?_
  refine WL.nilS ?_
  refine CW.block ?_
  refine CW.loop (σk := [(0, _), (1, _), (2, _), (4, _)]) (fun ρ wz m => ∃ (k : Nat) (v : Int), ρ = [(7, .int .i64 (k : Nat))] ∧ m = i + L - k ∧ UpdL [(some ps.block)] w wz ∧ Bx wz ps (List.map VU32 (ys.set (i * 13 + (i + L)) v)) ∧ (i + 1 ≤ k ∧ k ≤ i + L) ∧ (Pg a0 xa2 xa3 xs v i (i + L) k 0)) (ρ₀ := [(7, _)]) (m₀ := _) ⟨rfl, rfl, rfl, rfl, rfl, trivial⟩ ⟨i + 1, 0, rfl, rfl, (UpdL.refl _ _), bxM hb1 (by first | rfl | exact (set_same hz0 (by omega)).symm), (by first | omega | rfl | (simp; done) | assumption | (simp_all; done)), (by first | (rw [hLe]; exact (Pg.one gt (by omega)).at (sh32 (by omega)).symm) | exact Pg.zero gt (by omega))⟩ ?_
  rintro _ wl4 _ ⟨k, v, rfl, rfl, hU0, hb1, hk, hp⟩
  have hUB := hUB.trans hU0 ⟨hkB_1, trivial⟩
  have hb2 := hb2.loop hU0 ⟨(Dj.symm hd1_2), trivial⟩
  have hb3 := hb3.loop hU0 ⟨(Dj.symm hd1_3), trivial⟩
  have hk0_1 : OkB [(some ps.block)] w (some ps.block) := OkB.mem (by simp)
  have hB := hB.loop hU0 ⟨hl1, trivial⟩
  refine CW.seq ?_
  refine CW.seq ?_
  refine CW.reg ?_
  refine WL.mv rfl rfl ?_
  refine WL.mv rfl rfl ?_
  refine WL.pure rfl rfl rfl (PV.lss rfl rfl) ?_
  refine WL.nilS ?_
  refine CW.cond rfl (fun hc7 => ?_) (fun hc7 => ?_)
  · skip
    try simp only [nq] at hc7
    refine CW.skipS ?_
    refine CW.seq ?_
    refine CW.block ?_
    refine CW.seq ?_
    refine CW.reg ?_
    refine WL.pure rfl rfl rfl (PV.fieldAddr T.fl72_0 rfl hb2.cells) ?_
    refine WL.pure rfl rfl rfl (PV.load1 T.na2 rfl hb2.cells (Ext.refl _) rfl) ?_
    refine WL.mv rfl rfl ?_
    refine WL.nilS ?_
    refine CW.block ?_
    refine CW.loop (σk := [(0, _), (1, _), (2, _), (4, _), (7, _), (33, _)]) (fun ρ wz m => ∃ (x : Nat) (v : Int), ρ = [(34, .int .i64 (x : Nat))] ∧ m = a0.toNat - x ∧ UpdL [(some ps.block)] wl4 wz ∧ Bx wz ps (List.map VU32 (ys.set (i * 13 + (i + L)) v)) ∧ ((x : Int) ≤ a0) ∧ (Pg a0 xa2 xa3 xs v i (i + L) k (x * a0))) (ρ₀ := [(34, _)]) (m₀ := _) ⟨rfl, rfl, rfl, rfl, rfl, rfl, rfl, trivial⟩ ⟨0, v, rfl, rfl, (UpdL.refl _ _), bxM hb1 (by rfl), (by first | omega | rfl | (simp; done) | assumption | (simp_all; done)), (by exact hp.to (by simp))⟩ ?_
    rintro _ wl5 _ ⟨x, v, rfl, rfl, hU1, hb1, hx, hp⟩
    have hUB := hUB.trans hU1 ⟨hkB_1, trivial⟩
    have hU0 := hU0.trans hU1 ⟨hk0_1, trivial⟩
    have hb2 := hb2.loop hU1 ⟨(Dj.symm hd1_2), trivial⟩
    have hb3 := hb3.loop hU1 ⟨(Dj.symm hd1_3), trivial⟩
    have hk1_1 : OkB [(some ps.block)] wl4 (some ps.block) := OkB.mem (by simp)
    have hB := hB.loop hU1 ⟨hl1, trivial⟩
    refine CW.seq ?_
    refine CW.reg ?_
    refine WL.pure rfl rfl rfl (PV.lss rfl rfl) ?_
    refine WL.nilS ?_
    refine CW.seq ?_
    refine CW.cond rfl (fun hc8 => ?_) (fun hc8 => ?_)
    · skip
      try simp only [nq] at hc8
      refine CW.skipS ?_
      refine CW.seq ?_
      refine CW.block ?_
      refine CW.seq ?_
      refine CW.reg ?_
      refine WL.mv rfl rfl ?_
      refine WL.asg rfl rfl ?_
      refine WL.nilS ?_
      refine CW.seq ?_
      refine CW.reg ?_
      refine WL.pure rfl rfl rfl (PV.fieldAddr T.fl72_0 rfl hb2.cells) ?_
      refine WL.pure rfl rfl rfl (PV.load1 T.na2 rfl hb2.cells (Ext.refl _) rfl) ?_
      refine WL.mv rfl rfl ?_
      refine WL.nilS ?_
      refine CW.block ?_
      refine CW.loop (σk := [(0, _), (1, _), (2, _), (4, _), (7, _), (8, _), (33, _), (34, _), (38, _)]) (fun ρ wz m => ∃ (y : Nat) (v : Int), ρ = [(39, .int .i64 (y : Nat))] ∧ m = a0.toNat - y ∧ UpdL [(some ps.block)] wl5 wz ∧ Bx wz ps (List.map VU32 (ys.set (i * 13 + (i + L)) v)) ∧ ((y : Int) ≤ a0) ∧ (Pg a0 xa2 xa3 xs v i (i + L) k (x * a0 + y))) (ρ₀ := [(39, _)]) (m₀ := _) ⟨rfl, rfl, rfl, rfl, rfl, rfl, rfl, rfl, rfl, rfl, trivial⟩ ⟨0, v, rfl, rfl, (UpdL.refl _ _), bxM hb1 (by rfl), (by first | omega | rfl | (simp; done) | assumption | (simp_all; done)), (by exact hp.to (by simp))⟩ ?_
      rintro _ wl6 _ ⟨y, v, rfl, rfl, hU2, hb1, hy, hp⟩
      have hUB := hUB.trans hU2 ⟨hkB_1, trivial⟩
      have hU0 := hU0.trans hU2 ⟨hk0_1, trivial⟩
      have hU1 := hU1.trans hU2 ⟨hk1_1, trivial⟩
      have hb2 := hb2.loop hU2 ⟨(Dj.symm hd1_2), trivial⟩
      have hb3 := hb3.loop hU2 ⟨(Dj.symm hd1_3), trivial⟩
      have hk2_1 : OkB [(some ps.block)] wl5 (some ps.block) := OkB.mem (by simp)
      have hB := hB.loop hU2 ⟨hl1, trivial⟩
      refine CW.seq ?_
      refine CW.reg ?_
      refine WL.pure rfl rfl rfl (PV.lss rfl rfl) ?_
      refine WL.nilS ?_
      refine CW.seq ?_
      refine CW.cond rfl (fun hc9 => ?_) (fun hc9 => ?_)
      · skip
        try simp only [nq] at hc9
        refine CW.skipS ?_
        refine CW.seq ?_
        refine CW.block ?_
        refine CW.seq ?_
        refine CW.reg ?_
        refine WL.mv rfl rfl ?_
        refine WL.asg rfl rfl ?_
        refine WL.nilS ?_
        refine CW.seq ?_
        refine CW.reg ?_
        have hl := hTb.left (k := k) (v := v) (by omega) (by omega) (by omega) (by omega); have hr := hTb.right (k := k) (v := v) (by omega) (by omega) (by omega) (by omega); have e1 := hl.1; have o1 := hl.2; have e2 := hr.1; have o2 := hr.2; have b1 := (bt32 (x := (x : Int)) o1.r).trans (o1.i x (by omega) (by omega)); have b2 := (bt32 (x := (y : Int)) o2.r).trans (o2.i y (by omega) (by omega)); rw [← e1] at b1; rw [← e2] at b2; have hj := gt.join (x := (x : Int)) (y := (y : Int)) (by omega) (by omega); have e0 : (ys.set (i * 13 + (i + L)) v).getD (i * 13 + (i + L)) 0 = v := gset_eq (by omega); have hlen : (ys.set (i * 13 + (i + L)) v).length = 156 := (by rw [List.length_set]; exact hnn)
        refine WL.mv rfl rfl ?_
        refine WL.mv rfl rfl ?_
        refine WL.pure rfl rfl rfl ((by first | exact PV.ixN T.ar174 rfl hb1.spot rfl (by omega) | exact PV.ixZ T.ar174 rfl hb1.spot rfl (by omega))) ?_
        refine WL.pure rfl rfl rfl ((by first | exact PV.ixPN1 T.ar173 rfl rfl (by omega) | exact PV.ixPZ1 T.ar173 rfl rfl (by omega))) ?_
        refine WL.pure rfl rfl rfl (PV.loadArr 0 T.na172 rfl (Bx.cells hb1) (Ext.refl _) (by first | omega | (simp only [List.length_set]; omega))) ?_
        refine WL.mv rfl rfl ?_
        refine WL.pure rfl rfl rfl (PV.shr rfl rfl (by omega) (by first | (simp only [IntKind.bits]; omega) | (simp [IntKind.bits] <;> omega))) ?_
        refine WL.pure rfl rfl rfl (PV.and rfl rfl) ?_
        refine WL.pure rfl rfl rfl (PV.eql rfl rfl) ?_
        refine WL.mv rfl rfl ?_
        refine WL.split (t := 51) rfl (fun hc10 => ?_) (fun hc10 => ?_)
        rotate_left
        · skip
          try simp only [nq] at hc10
          refine WL.skip rfl rfl rfl rfl rfl ?_
          refine WL.skip rfl rfl rfl rfl rfl ?_
          refine WL.skip rfl rfl rfl rfl rfl ?_
          refine WL.skip rfl rfl rfl rfl rfl ?_
          refine WL.skip rfl rfl rfl rfl rfl ?_
          refine WL.skip rfl rfl rfl rfl rfl ?_
          refine WL.skip rfl rfl rfl rfl rfl ?_
          refine WL.skip rfl rfl rfl rfl rfl ?_
          refine WL.skip rfl rfl rfl rfl rfl ?_
          refine WL.pure rfl rfl rfl (PV.pickF rfl rfl) ?_
          refine WL.nilS ?_
          refine CW.condF rfl ?_
          refine CW.skip ?_
          refine NQ.block ?_
          refine NQ.then ?_
          refine CW.reg ?_
          refine WL.pure rfl rfl rfl (PV.add rfl rfl (by constructor <;> omega)) ?_
          refine WL.mv rfl rfl ?_
          refine WL.nil ?_
          refine NQ.next (ρ := [(39, _)]) ⟨rfl, rfl, rfl, rfl, rfl, rfl, rfl, rfl, rfl, rfl, trivial⟩ ?_
          exact ⟨_, ⟨y + 1, v, rfl, rfl, hU2, bxM hb1 (by first | rfl | (rw [List.set_set, e0, or32 hp.r (by omega)])), (by first | omega | assumption | (simp_all; done) | (simp_all; omega)), (by first | exact (hp.take gt rfl (b1.1 (by assumption)) (b2.1 (by assumption))).to (by omega) | exact (hp.skip gt rfl (by omega) (fun h9 => by first | exact absurd (b1.2 h9.1) (by assumption) | exact absurd (b2.2 h9.2) (by assumption))).to (by omega))⟩, by omega⟩
        try simp only [nq] at hc10
        refine WL.pureG rfl rfl rfl rfl rfl (PV.move rfl) ?_
        refine WL.pureG rfl rfl rfl rfl rfl (PV.move rfl) ?_
        refine WL.pureG rfl rfl rfl rfl rfl ((by first | exact PV.ixN T.ar174 rfl hb1.spot rfl (by omega) | exact PV.ixZ T.ar174 rfl hb1.spot rfl (by omega))) ?_
        refine WL.pureG rfl rfl rfl rfl rfl ((by first | exact PV.ixPN1 T.ar173 rfl rfl (by omega) | exact PV.ixPZ1 T.ar173 rfl rfl (by omega))) ?_
        refine WL.pureG rfl rfl rfl rfl rfl (PV.loadArr 0 T.na172 rfl (Bx.cells hb1) (Ext.refl _) (by first | omega | (simp only [List.length_set]; omega))) ?_
        refine WL.pureG rfl rfl rfl rfl rfl (PV.move rfl) ?_
        refine WL.pureG rfl rfl rfl rfl rfl (PV.shr rfl rfl (by omega) (by first | (simp only [IntKind.bits]; omega) | (simp [IntKind.bits] <;> omega))) ?_
        refine WL.pureG rfl rfl rfl rfl rfl (PV.and rfl rfl) ?_
        refine WL.pureG rfl rfl rfl rfl rfl (PV.eql rfl rfl) ?_
        refine WL.pure rfl rfl rfl (PV.pickT rfl rfl) ?_
        refine WL.nilS ?_
        refine CW.cond rfl (fun hc11 => ?_) (fun hc11 => ?_)
        · skip
          try simp only [nq] at hc11
          refine CW.draw T.mixed (by kernel_rfl) (fun _ _ _ _ _ h => h) (fun w8 w9 => Upd none w8 w9) 13 (.take 0 (.take 1 (.take 2 (.take 3 (.take 4 (.take 5 (.take 6 (.take 7 (.take 11 (.must 8 (.take 9 (.take 10 (.take 12 (.must 13 .done)))))))))))))) (by kernel_rfl) (fun w7 hXd => ?_)
          have hB := hB.trans hXd
          have hb1 := hb1.up hXd
          have hb2 := hb2.up hXd
          have hb3 := hb3.up hXd
          have hUB := hUB.ext hXd
          have hU0 := hU0.ext hXd
          have hU1 := hU1.ext hXd
          have hU2 := hU2.ext hXd
          have hBr := hB
          have hS : Upd none w7 w7 := Ext.toUpd (Ext.refl _)
          refine HP.take rfl rfl rfl rfl hS (fun wS hS1 => PV.move rfl) ?_
          refine HP.take rfl rfl rfl rfl hS (fun wS hS1 => PV.move rfl) ?_
          refine HP.take rfl rfl rfl rfl hS (fun wS hS1 => (by first | exact PV.ixN T.ar174 rfl hb1.spot rfl (by omega) | exact PV.ixZ T.ar174 rfl hb1.spot rfl (by omega))) ?_
          refine HP.take rfl rfl rfl rfl hS (fun wS hS1 => (by first | exact PV.ixPN1 T.ar173 rfl rfl (by omega) | exact PV.ixPZ1 T.ar173 rfl rfl (by omega))) ?_
          refine HP.take rfl rfl rfl rfl hS (fun wS hS1 => PV.loadArr 0 T.na172 rfl (Bx.cells (Bx.updD hb1 hS1 (Dj.nlR _))) (Ext.refl _) (by first | omega | (simp only [List.length_set]; omega))) ?_
          refine HP.take rfl rfl rfl rfl hS (fun wS hS1 => PV.loadA T.ag72 rfl (Bx.cells (Bx.updD (by assumption) hS1 (Dj.nlR _))) (Ext.refl _) rfl) ?_
          refine HP.take rfl rfl rfl rfl hS (fun wS hS1 => PV.move rfl) ?_
          refine HP.take rfl rfl rfl rfl hS (fun wS hS1 => PV.move rfl) ?_
          refine HP.take rfl rfl rfl rfl hS (fun wS hS1 => (by first | exact PV.ixN T.ar174 rfl hb1.spot rfl (by omega) | exact PV.ixZ T.ar174 rfl hb1.spot rfl (by omega))) ?_
          refine HP.must rfl rfl (OpK.callR rfl T.cf138 rfl (c_impl_TreeMachine_join (by first | assumption | exact Rd.up (by assumption) hB | exact Osl.rd (by assumption) | exact Osn.rdR (by assumption) | exact NL.rd (by assumption) | exact rdII (by assumption) (by assumption) | exact Inn.rd (by assumption) (by omega)) (by first | assumption | exact Rd.up (by assumption) hB | exact Osl.rd (by assumption) | exact Osn.rdR (by assumption) | exact NL.rd (by assumption) | exact rdII (by assumption) (by assumption) | exact Inn.rd (by assumption) (by omega)) (by first | assumption | exact Rd.up (by assumption) hB | exact Osl.rd (by assumption) | exact Osn.rdR (by assumption) | exact NL.rd (by assumption) | exact rdII (by assumption) (by assumption) | exact Inn.rd (by assumption) (by omega)) (by first | assumption | omega | (simp only [marks_len, marksB_len, marksR_len]; omega)) (by first | assumption | omega | (simp only [marks_len, marksB_len, marksR_len]; omega)) (by first | assumption | omega | (simp only [marks_len, marksB_len, marksR_len]; omega)) (by first | assumption | omega | (simp only [marks_len, marksB_len, marksR_len]; omega))) (fun w8 hXw8 => ?_))
          refine ⟨Upd.trans hS hXw8, ?_⟩
          have hS := Upd.trans hS hXw8
          have hB := hB.trans hXw8
          have hb1 := hb1.up hXw8
          have hb2 := hb2.up hXw8
          have hb3 := hb3.up hXw8
          have hUB := hUB.ext hXw8
          have hU0 := hU0.ext hXw8
          have hU1 := hU1.ext hXw8
          have hU2 := hU2.ext hXw8
          refine HP.take rfl rfl rfl rfl hS (fun wS hS1 => PV.shl rfl rfl (by omega) (by first | (simp only [IntKind.bits]; omega) | (simp [IntKind.bits] <;> omega))) ?_
          refine HP.take rfl rfl rfl rfl hS (fun wS hS1 => PV.or rfl rfl) ?_
          refine HP.take rfl rfl rfl rfl hS (fun wS hS1 => (by first | exact PV.ixPN1 T.ar173 rfl rfl (by omega) | exact PV.ixPZ1 T.ar173 rfl rfl (by omega))) ?_
          refine HP.last rfl rfl (OpK.storeArr T.sz172 rfl rfl rfl hb1 (by first | omega | (simp only [List.length_set]; omega)) (fun w9 hXw9 hb1 => ?_))
          have hB := hB.updL hXw9 hl1
          have hb2 := hb2.updD hXw9 (Dj.symm hd1_2)
          have hb3 := hb3.updD hXw9 (Dj.symm hd1_3)
          have hUB := hUB.step hXw9 hkB_1
          have hU0 := hU0.step hXw9 hk0_1
          have hU1 := hU1.step hXw9 hk1_1
          have hU2 := hU2.step hXw9 hk2_1
          refine HP.done ?_
          refine NQ.block ?_
          refine NQ.then ?_
          refine CW.reg ?_
          refine WL.pure rfl rfl rfl (PV.add rfl rfl (by constructor <;> omega)) ?_
          refine WL.mv rfl rfl ?_
          refine WL.nil ?_
          refine NQ.next (ρ := [(39, _)]) ⟨rfl, rfl, rfl, rfl, rfl, rfl, rfl, rfl, rfl, rfl, trivial⟩ ?_
          exact ⟨_, ⟨y + 1, sB v (xa3.getD ((x : Int) * a0 + (y : Int)).toNat 0), rfl, rfl, hU2, bxM hb1 (by first | rfl | (rw [List.set_set, e0, or32 hp.r (by omega)])), (by first | omega | assumption | (simp_all; done) | (simp_all; omega)), (by first | exact (hp.take gt rfl (b1.1 (by assumption)) (b2.1 (by assumption))).to (by omega) | exact (hp.skip gt rfl (by omega) (fun h9 => by first | exact absurd (b1.2 h9.1) (by assumption) | exact absurd (b2.2 h9.2) (by assumption))).to (by omega))⟩, by omega⟩
        try simp only [nq] at hc11
        refine CW.skip ?_
        refine NQ.block ?_
        refine NQ.then ?_
        refine CW.reg ?_
        refine WL.pure rfl rfl rfl (PV.add rfl rfl (by constructor <;> omega)) ?_
        refine WL.mv rfl rfl ?_
        refine WL.nil ?_
        refine NQ.next (ρ := [(39, _)]) ⟨rfl, rfl, rfl, rfl, rfl, rfl, rfl, rfl, rfl, rfl, trivial⟩ ?_
        exact ⟨_, ⟨y + 1, v, rfl, rfl, hU2, bxM hb1 (by first | rfl | (rw [List.set_set, e0, or32 hp.r (by omega)])), (by first | omega | assumption | (simp_all; done) | (simp_all; omega)), (by first | exact (hp.take gt rfl (b1.1 (by assumption)) (b2.1 (by assumption))).to (by omega) | exact (hp.skip gt rfl (by omega) (fun h9 => by first | exact absurd (b1.2 h9.1) (by assumption) | exact absurd (b2.2 h9.2) (by assumption))).to (by omega))⟩, by omega⟩
      try simp only [nq] at hc9
      refine CW.exit ?_
      refine XQ.then ?_
      refine XQ.then ?_
      refine XQ.here ?_
      refine NQ.block ?_
      refine NQ.then ?_
      refine CW.reg ?_
      refine WL.pure rfl rfl rfl (PV.add rfl rfl (by constructor <;> omega)) ?_
      refine WL.mv rfl rfl ?_
      refine WL.nil ?_
      refine NQ.next (ρ := [(34, _)]) ⟨rfl, rfl, rfl, rfl, rfl, rfl, rfl, trivial⟩ ?_
      exact ⟨_, ⟨x + 1, _, rfl, rfl, hU1, bxM hb1 (by rfl), (by first | omega | assumption | (simp_all; done) | (simp_all; omega)), (by exact hp.to (rowE (by omega)))⟩, by omega⟩
    try simp only [nq] at hc8
    refine CW.exit ?_
    refine XQ.then ?_
    refine XQ.then ?_
    refine XQ.here ?_
    refine NQ.block ?_
    refine NQ.then ?_
    refine CW.reg ?_
    refine WL.mv rfl rfl ?_
    refine WL.pure rfl rfl rfl (PV.add rfl rfl (by constructor <;> omega)) ?_
    refine WL.asg rfl rfl ?_
    refine WL.nil ?_
    refine NQ.next (ρ := [(7, _)]) ⟨rfl, rfl, rfl, rfl, rfl, trivial⟩ ?_
    exact ⟨_, ⟨k + 1, _, rfl, rfl, hU0, bxM hb1 (by rfl), (by first | omega | assumption | (simp_all; done) | (simp_all; omega)), (by exact hp.nextk gt (by rw [show (x : Int) = a0 from (by omega)]))⟩, by omega⟩
  try simp only [nq] at hc7
  refine CW.exit ?_
  refine XQ.then ?_
  refine XQ.then ?_
  refine XQ.here ?_
  refine NQ.r0 ?_
  refine ⟨hUB, _, rfl, ?_, hb1⟩
  · skip
    exact hTb.put (by omega) (by omega) (by omega) (by omega) (hp.done gt (.inl (by omega)))
theorem c_impl_eachPart {w : World} {b : World} {pt pw ps : Addr} {a0 : Int} {a1 : Int} {va2 : Value} {xa2 : List Int} {va3 : Value} {xa3 : List Int} {va4 : Value} {xa4 : List Bool} {vw : Value} {xs ys : List Int}  (hB0 : Ext b w) (htb_ps : Bx w ps (List.map VU32 (ys))) (htl_ps : Lo b (some ps.block)) (htb_pt : Bx w pt [.int .i64 a0, .int .i64 a1, va2, va3, va4]) (htb_pw : Bx w pw [vw]) (htd_pt_ps : Dj (some pt.block) (some ps.block)) (htd_pw_ps : Dj (some pw.block) (some ps.block)) (ha2 : Rd EI b va2 xa2) (ha3 : Rd EI b va3 xa3) (ha4 : Rd EB b va4 xa4) (hw : Rd EI b vw xs) (gt : GT a0 xa2 xa3 xs) (hTb : Tb a0 xa2 xa3 xs 13 156 ys 1 0) (h12 : 1 ≤ xs.length ∧ xs.length ≤ 12) : Calls Try.prog 113 #[.int .i64 (xs.length : Nat), .func (.func 145) #[] #[.pointer (some pt), .pointer (some pw), .pointer (some ps)]] w (Ret1 (fun v w' => UpdL [some ps.block] w w' ∧ ∃ (zs : List Int), v = .tuple #[] ∧ (Tb a0 xa2 xa3 xs 13 156 zs (xs.length + 1) 0) ∧ Bx w' ps (List.map VU32 (zs)))) := by
  have hB := hB0
  have hla2 := ha2.leI; have hla3 := ha3.leI; have hla4 := ha4.leI; have hlw := hw.leI; have hs := gt.s; have hnl := gt.nl; have hnn := hTb.n
  refine callsOf (vs := [_, _]) Try.func113 rfl Try.ntmps113 rfl rfl ?_
  have hUB : UpdL [(some ps.block)] w w := UpdL.refl _ _
  have hb1 := htb_ps
  have hl1 := htl_ps
  have hkB_1 : OkB [(some ps.block)] w (some ps.block) := OkB.mem (by simp)
  have hgB_1 := OgR.refl w (some ps.block)
  have hb2 := htb_pt
  have hd1_2 := Dj.symm htd_pt_ps
  have hb3 := htb_pw
  have hd1_3 := Dj.symm htd_pw_ps
  refine CW.seq ?_
  refine CW.reg ?_
  refine WL.asg rfl rfl ?_
  refine WL.nilS ?_
  refine CW.block ?_
  refine CW.loop (σk := [(0, _), (1, _)]) (fun ρ wz m => ∃ (L : Nat) (ys1 : List Int), ρ = [(4, .int .i64 (L : Nat))] ∧ m = xs.length + 1 - L ∧ UpdL [(some ps.block)] w wz ∧ Bx wz ps (List.map VU32 (ys1)) ∧ (1 ≤ L ∧ L ≤ xs.length + 1) ∧ (Tb a0 xa2 xa3 xs 13 156 ys1 L 0)) (ρ₀ := [(4, _)]) (m₀ := _) ⟨rfl, rfl, rfl, trivial⟩ ⟨1, ys, rfl, rfl, (UpdL.refl _ _), bxM hb1 (by rfl), (by first | omega | rfl | (simp; done) | assumption | (simp_all; done)), (by first | omega | rfl | (simp; done) | assumption | (simp_all; done))⟩ ?_
  rintro _ wl1 _ ⟨L, ys1, rfl, rfl, hU0, hb1, hL, ht⟩
  have hUB := hUB.trans hU0 ⟨hkB_1, trivial⟩
  have hb2 := hb2.loop hU0 ⟨(Dj.symm hd1_2), trivial⟩
  have hb3 := hb3.loop hU0 ⟨(Dj.symm hd1_3), trivial⟩
  have hk0_1 : OkB [(some ps.block)] w (some ps.block) := OkB.mem (by simp)
  have hB := hB.loop hU0 ⟨hl1, trivial⟩
  refine CW.seq ?_
  refine CW.seq ?_
  refine CW.reg ?_
  refine WL.mv rfl rfl ?_
  refine WL.mv rfl rfl ?_
  refine WL.pure rfl rfl rfl (PV.leq rfl rfl) ?_
  refine WL.nilS ?_
  refine CW.cond rfl (fun hc1 => ?_) (fun hc1 => ?_)
  · skip
    try simp only [nq] at hc1
    refine CW.skipS ?_
    refine CW.seq ?_
    refine CW.block ?_
    refine CW.seq ?_
    refine CW.reg ?_
    refine WL.mv rfl rfl ?_
    refine WL.mv rfl rfl ?_
    refine WL.pure rfl rfl rfl (PV.sub rfl rfl (by constructor <;> omega)) ?_
    refine WL.pure rfl rfl rfl (PV.add rfl rfl (by constructor <;> omega)) ?_
    refine WL.mv rfl rfl ?_
    refine WL.nilS ?_
    refine CW.block ?_
    refine CW.loop (σk := [(0, _), (1, _), (4, _), (14, _)]) (fun ρ wz m => ∃ (I : Nat) (ys2 : List Int), ρ = [(15, .int .i64 (I : Nat))] ∧ m = xs.length + 1 - I ∧ UpdL [(some ps.block)] wl1 wz ∧ Bx wz ps (List.map VU32 (ys2)) ∧ (I + L ≤ xs.length + 1) ∧ (Tb a0 xa2 xa3 xs 13 156 ys2 L I)) (ρ₀ := [(15, _)]) (m₀ := _) ⟨rfl, rfl, rfl, rfl, rfl, trivial⟩ ⟨0, ys1, rfl, rfl, (UpdL.refl _ _), bxM hb1 (by rfl), (by first | omega | rfl | (simp; done) | assumption | (simp_all; done)), (by first | omega | rfl | (simp; done) | assumption | (simp_all; done))⟩ ?_
    rintro _ wl2 _ ⟨I, ys2, rfl, rfl, hU1, hb1, hI, ht2⟩
    have hUB := hUB.trans hU1 ⟨hkB_1, trivial⟩
    have hU0 := hU0.trans hU1 ⟨hk0_1, trivial⟩
    have hb2 := hb2.loop hU1 ⟨(Dj.symm hd1_2), trivial⟩
    have hb3 := hb3.loop hU1 ⟨(Dj.symm hd1_3), trivial⟩
    have hk1_1 : OkB [(some ps.block)] wl1 (some ps.block) := OkB.mem (by simp)
    have hB := hB.loop hU1 ⟨hl1, trivial⟩
    refine CW.seq ?_
    refine CW.reg ?_
    refine WL.pure rfl rfl rfl (PV.lss rfl rfl) ?_
    refine WL.nilS ?_
    refine CW.seq ?_
    refine CW.cond rfl (fun hc2 => ?_) (fun hc2 => ?_)
    · skip
      try simp only [nq] at hc2
      refine CW.skipS ?_
      refine CW.seq ?_
      refine CW.block ?_
      refine CW.seq ?_
      refine CW.reg ?_
      refine WL.mv rfl rfl ?_
      refine WL.asg rfl rfl ?_
      refine WL.nilS ?_
      refine CW.reg ?_
      refine WL.mv rfl rfl ?_
      refine WL.mv rfl rfl ?_
      refine WL.mv rfl rfl ?_
      refine WL.mv rfl rfl ?_
      refine WL.pure rfl rfl rfl (PV.add rfl rfl (by constructor <;> omega)) ?_
      refine WL.op rfl (OpK.callC rfl T.cf145 rfl rfl (c_impl_WordHasTree_1 (i := I) (L := L) (ys := ys2) hB (by first | assumption | exact Lo.nl _) (by first | assumption | exact Lo.nl _) (by first | assumption | exact Lo.nl _) (by first | assumption | exact Lo.nl _) (by first | assumption | exact Dj.symm (by assumption)) (by first | assumption | exact Dj.symm (by assumption)) (by first | assumption | exact Rd.up (by assumption) hB | exact Osl.rd (by assumption) | exact Osn.rdR (by assumption) | exact NL.rd (by assumption) | exact rdII (by assumption) (by assumption) | exact Inn.rd (by assumption) (by omega)) (by first | assumption | exact Rd.up (by assumption) hB | exact Osl.rd (by assumption) | exact Osn.rdR (by assumption) | exact NL.rd (by assumption) | exact rdII (by assumption) (by assumption) | exact Inn.rd (by assumption) (by omega)) (by first | assumption | exact Rd.up (by assumption) hB | exact Osl.rd (by assumption) | exact Osn.rdR (by assumption) | exact NL.rd (by assumption) | exact rdII (by assumption) (by assumption) | exact Inn.rd (by assumption) (by omega)) (by first | assumption | exact Rd.up (by assumption) hB | exact Osl.rd (by assumption) | exact Osn.rdR (by assumption) | exact NL.rd (by assumption) | exact rdII (by assumption) (by assumption) | exact Inn.rd (by assumption) (by omega)) (by first | assumption | omega | (simp only [marks_len, marksB_len, marksR_len]; omega)) (by first | assumption | omega | (simp only [marks_len, marksB_len, marksR_len]; omega)) (by first | assumption | omega | (simp only [marks_len, marksB_len, marksR_len]; omega))) (fun rv1 w1 hR => ?_))
      obtain ⟨hUC6, zs7, rfl, hm8, hbn1⟩ := hR
      have hUB := hUB.trans hUC6 ⟨hkB_1, trivial⟩
      have hU0 := hU0.trans hUC6 ⟨hk0_1, trivial⟩
      have hU1 := hU1.trans hUC6 ⟨hk1_1, trivial⟩
      have hb2 := hb2.loop hUC6 ⟨(Dj.symm hd1_2), trivial⟩
      have hb3 := hb3.loop hUC6 ⟨(Dj.symm hd1_3), trivial⟩
      have hB := hB.loop hUC6 ⟨hl1, trivial⟩
      have hb1 := hbn1
      refine WL.nil ?_
      refine NQ.block ?_
      refine NQ.then ?_
      refine CW.reg ?_
      refine WL.pure rfl rfl rfl (PV.add rfl rfl (by constructor <;> omega)) ?_
      refine WL.mv rfl rfl ?_
      refine WL.nil ?_
      refine NQ.next (ρ := [(15, _)]) ⟨rfl, rfl, rfl, rfl, rfl, trivial⟩ ?_
      exact ⟨_, ⟨I + 1, _, rfl, rfl, hU1, bxM hb1 (by rfl), (by first | omega | assumption | (simp_all; done) | (simp_all; omega)), (by assumption)⟩, by omega⟩
    try simp only [nq] at hc2
    refine CW.exit ?_
    refine XQ.then ?_
    refine XQ.then ?_
    refine XQ.here ?_
    refine NQ.block ?_
    refine NQ.then ?_
    refine CW.reg ?_
    refine WL.mv rfl rfl ?_
    refine WL.pure rfl rfl rfl (PV.add rfl rfl (by constructor <;> omega)) ?_
    refine WL.asg rfl rfl ?_
    refine WL.nil ?_
    refine NQ.next (ρ := [(4, _)]) ⟨rfl, rfl, rfl, trivial⟩ ?_
    exact ⟨_, ⟨L + 1, _, rfl, rfl, hU0, bxM hb1 (by rfl), (by first | omega | assumption | (simp_all; done) | (simp_all; omega)), (by exact ht2.next (by omega))⟩, by omega⟩
  try simp only [nq] at hc1
  refine CW.exit ?_
  refine XQ.then ?_
  refine XQ.then ?_
  refine XQ.here ?_
  refine NQ.r0 ?_
  refine ⟨hUB, _, rfl, ?_, hb1⟩
  · skip
    (obtain rfl : L = xs.length + 1 := (by omega)); exact ht
theorem c_impl_WordHasTree {w : World} {a0 : Int} {a1 : Int} {va2 : Value} {xa2 : List Int} {va3 : Value} {xa3 : List Int} {va4 : Value} {xa4 : List Bool} {vw : Value} {xs : List Int} (ha2 : Rd EI w va2 xa2) (ha3 : Rd EI w va3 xa3) (ha4 : Rd EB w va4 xa4) (hw : Rd EI w vw xs) : Calls Try.prog 58 #[.agg #[.int .i64 a0, .int .i64 a1, va2, va3, va4], vw] w (Ret1 (RQt (.tuple #[.bool (whR (treesB a0 a1 xa2 xa3 xa4) a0 a1 xa2 xa3 xs xa4), .bool (whB (treesB a0 a1 xa2 xa3 xa4) xs a1)]) w)) := by
  have hB : Ext w w := Ext.refl w
  have hla2 := ha2.leI; have hla3 := ha3.leI; have hla4 := ha4.leI; have hlw := hw.leI
  refine callsOf (vs := [_, _]) Try.func58 rfl Try.ntmps58 rfl rfl ?_
  refine CW.seq ?_
  refine CW.reg ?_
  refine WL.op rfl (OpK.box rfl rfl (by first | exact Rd.cells1 (by assumption) | exact Osl.cells1 (by assumption) | exact Osn.cells1 (by assumption) | exact Rd.cells1 (NL.rd (by assumption)) | exact Inn.cell1 (by assumption) (by omega) | assumption | rfl) (fun b1 w1 hXw1 hb1 hge1 => ?_))
  have hl1 := Lo.new hB hge1
  have hB := hB.trans hXw1
  refine WL.op rfl (OpK.box rfl rfl (by first | exact Rd.cells1 (by assumption) | exact Osl.cells1 (by assumption) | exact Osn.cells1 (by assumption) | exact Rd.cells1 (NL.rd (by assumption)) | exact Inn.cell1 (by assumption) (by omega) | assumption | rfl) (fun b2 w2 hXw2 hb2 hge2 => ?_))
  have hl2 := Lo.new hB hge2
  have hd1_2 := Dj.new hb1.ltO hge2
  have hB := hB.trans hXw2
  have hb1 := hb1.up hXw2
  refine WL.asg rfl rfl ?_
  refine WL.asg rfl rfl ?_
  refine WL.nilS ?_
  refine CW.seq ?_
  refine CW.seq ?_
  refine CW.reg ?_
  refine WL.pure rfl rfl rfl (PV.loadA T.ag72 rfl hb1.cells (Ext.refl _) rfl) ?_
  refine WL.op rfl (OpK.callR rfl T.cf56 rfl (c_impl_ValidTrees (by first | assumption | exact Rd.up (by assumption) hB | exact Osl.rd (by assumption) | exact Osn.rdR (by assumption) | exact NL.rd (by assumption) | exact rdII (by assumption) (by assumption) | exact Inn.rd (by assumption) (by omega)) (by first | assumption | exact Rd.up (by assumption) hB | exact Osl.rd (by assumption) | exact Osn.rdR (by assumption) | exact NL.rd (by assumption) | exact rdII (by assumption) (by assumption) | exact Inn.rd (by assumption) (by omega)) (by first | assumption | exact Rd.up (by assumption) hB | exact Osl.rd (by assumption) | exact Osn.rdR (by assumption) | exact NL.rd (by assumption) | exact rdII (by assumption) (by assumption) | exact Inn.rd (by assumption) (by omega))) (fun w3 hXw3 => ?_))
  have hB := hB.trans hXw3
  have hb1 := hb1.up hXw3
  have hb2 := hb2.up hXw3
  refine WL.pure rfl rfl rfl (PV.not rfl) ?_
  refine WL.mv rfl rfl ?_
  refine WL.split (t := 12) rfl (fun hc1 => ?_) (fun hc1 => ?_)
  · skip
    try simp only [nq] at hc1
    refine WL.skip rfl rfl rfl rfl rfl ?_
    refine WL.skip rfl rfl rfl rfl rfl ?_
    refine WL.skip rfl rfl rfl rfl rfl ?_
    refine WL.skip rfl rfl rfl rfl rfl ?_
    refine WL.skip rfl rfl rfl rfl rfl ?_
    refine WL.pure rfl rfl rfl (PV.pickT rfl rfl) ?_
    refine WL.mv rfl rfl ?_
    refine WL.skip rfl rfl rfl rfl rfl ?_
    refine WL.skip rfl rfl rfl rfl rfl ?_
    refine WL.skip rfl rfl rfl rfl rfl ?_
    refine WL.pure rfl rfl rfl (PV.pickT rfl rfl) ?_
    refine WL.nilS ?_
    refine CW.condT rfl ?_
    refine CW.seq ?_
    refine CW.reg ?_
    refine WL.asg rfl rfl ?_
    refine WL.asg rfl rfl ?_
    refine WL.nilS ?_
    refine CW.ret ?_
    refine RQ.then ?_
    refine RQ.r2 rfl rfl ?_
    refine ⟨?_, hB⟩
    first | exact whV_n (whB_n1 (Bool.eq_false_iff.2 (treesB_no (by assumption)))) | exact whV_n (whB_n2 (by assumption)) | exact whV_n (whB_n3 (by omega)) | exact whV_y hwb (hasT_yes (by omega) (by assumption) (hb.1 (by assumption))) | exact whV_y hwb (hasT_no (fun s hs => hno s (by omega)))
  try simp only [nq] at hc1
  refine WL.pureG rfl rfl rfl rfl rfl (PV.load0 T.na28 rfl hb2.cells (Ext.refl _) rfl) ?_
  refine WL.pureG rfl rfl rfl rfl rfl (PV.fieldAddr T.fl72_1 rfl hb1.cells) ?_
  refine WL.pureG rfl rfl rfl rfl rfl (PV.load1 T.na2 rfl hb1.cells (Ext.refl _) rfl) ?_
  refine WL.opG rfl rfl rfl (OpK.callR rfl T.cf124 rfl (c_impl_IsWord (by first | assumption | exact Rd.up (by assumption) hB | exact Osl.rd (by assumption) | exact Osn.rdR (by assumption) | exact NL.rd (by assumption) | exact rdII (by assumption) (by assumption) | exact Inn.rd (by assumption) (by omega))) (fun w4 hXw4 => ?_))
  have hB := hB.trans hXw4
  have hb1 := hb1.up hXw4
  have hb2 := hb2.up hXw4
  refine WL.pureG rfl rfl rfl rfl rfl (PV.not rfl) ?_
  refine WL.pure rfl rfl rfl (PV.pickF rfl rfl) ?_
  refine WL.mv rfl rfl ?_
  refine WL.split (t := 19) rfl (fun hc2 => ?_) (fun hc2 => ?_)
  · skip
    try simp only [nq] at hc2
    refine WL.skip rfl rfl rfl rfl rfl ?_
    refine WL.skip rfl rfl rfl rfl rfl ?_
    refine WL.skip rfl rfl rfl rfl rfl ?_
    refine WL.pure rfl rfl rfl (PV.pickT rfl rfl) ?_
    refine WL.nilS ?_
    refine CW.condT rfl ?_
    refine CW.seq ?_
    refine CW.reg ?_
    refine WL.asg rfl rfl ?_
    refine WL.asg rfl rfl ?_
    refine WL.nilS ?_
    refine CW.ret ?_
    refine RQ.then ?_
    refine RQ.r2 rfl rfl ?_
    refine ⟨?_, hB⟩
    first | exact whV_n (whB_n1 (Bool.eq_false_iff.2 (treesB_no (by assumption)))) | exact whV_n (whB_n2 (by assumption)) | exact whV_n (whB_n3 (by omega)) | exact whV_y hwb (hasT_yes (by omega) (by assumption) (hb.1 (by assumption))) | exact whV_y hwb (hasT_no (fun s hs => hno s (by omega)))
  try simp only [nq] at hc2
  refine WL.pureG rfl rfl rfl rfl rfl (PV.load0 T.na28 rfl hb2.cells (Ext.refl _) rfl) ?_
  refine WL.pureG rfl rfl rfl rfl rfl ((by first | exact PV.len rfl (by assumption) T.sl28 | exact PV.lenOs rfl (by assumption) T.sl28 | exact PV.len rfl (NL.rd (by assumption)) T.sl28 | exact PV.len rfl (Inn.rd (by assumption) (by omega)) T.sl28)) ?_
  refine WL.pureG rfl rfl rfl rfl rfl (PV.eql rfl rfl) ?_
  refine WL.pure rfl rfl rfl (PV.pickF rfl rfl) ?_
  refine WL.nilS ?_
  refine CW.cond rfl (fun hc3 => ?_) (fun hc3 => ?_)
  · skip
    try simp only [nq] at hc3
    refine CW.seq ?_
    refine CW.reg ?_
    refine WL.asg rfl rfl ?_
    refine WL.asg rfl rfl ?_
    refine WL.nilS ?_
    refine CW.ret ?_
    refine RQ.then ?_
    refine RQ.r2 rfl rfl ?_
    refine ⟨?_, hB⟩
    first | exact whV_n (whB_n1 (Bool.eq_false_iff.2 (treesB_no (by assumption)))) | exact whV_n (whB_n2 (by assumption)) | exact whV_n (whB_n3 (by omega)) | exact whV_y hwb (hasT_yes (by omega) (by assumption) (hb.1 (by assumption))) | exact whV_y hwb (hasT_no (fun s hs => hno s (by omega)))
  try simp only [nq] at hc3
  refine CW.skipS ?_
  refine CW.seq ?_
  refine CW.reg ?_
  have htv := (by assumption : (1 ≤ a0 ∧ a0 ≤ 16) ∧ (1 ≤ a1 ∧ a1 ≤ 4) ∧ (xa2.length : Int) = a1 ∧ (xa3.length : Int) = a0 * a0 ∧ (xa4.length : Int) = a0 ∧ allIn xa2 0 (a0 - 1) = true ∧ allIn xa3 0 (a0 - 1) = true); have hwd := isW (by assumption); have gt := GT.of htv hwd.2; have hwb := whB_y (treesB_yes htv) (by assumption : isWordB xs a1 = true) (show 1 ≤ xs.length by omega); have hT0 := Tb.zero (S := a0) (lf := xa2) (nx := xa3) (wd := xs) 13 156
  refine WL.pure rfl rfl rfl (PV.buildArr (f := VU32) (x0 := 0) T.az174) ?_
  refine WL.op rfl (OpK.allocArr (f := VU32) (x0 := 0) rfl T.az174 (fun b3 w5 hXw5 hb3 hge3 => ?_))
  have hl3 := Lo.new hB hge3
  have hd1_3 := Dj.new hb1.ltO hge3
  have hd2_3 := Dj.new hb2.ltO hge3
  have hB := hB.trans hXw5
  have hb1 := hb1.up hXw5
  have hb2 := hb2.up hXw5
  refine WL.op rfl (OpK.storeArrA T.sz174 rfl rfl (by simp) (by simp) (fun _ => rfl) hb3 (fun w6 hXw6 hb3 => ?_))
  have hB := hB.updL hXw6 hl3
  have hb1 := hb1.updD hXw6 hd1_3
  have hb2 := hb2.updD hXw6 hd2_3
  refine WL.nilS ?_
  refine CW.seq ?_
  refine CW.reg ?_
  refine WL.pure rfl rfl rfl (PV.load0 T.na28 rfl hb2.cells (Ext.refl _) rfl) ?_
  refine WL.pure rfl rfl rfl ((by first | exact PV.len rfl (by assumption) T.sl28 | exact PV.lenOs rfl (by assumption) T.sl28 | exact PV.len rfl (NL.rd (by assumption)) T.sl28 | exact PV.len rfl (Inn.rd (by assumption) (by omega)) T.sl28)) ?_
  refine WL.pure rfl rfl rfl (PV.makeFunc (fs := []) (cs := [.tmp 2, .tmp 3, .tmp 6]) rfl rfl) ?_
  refine WL.op rfl (OpK.call rfl T.cf113 rfl (c_impl_eachPart hB (by first | assumption | exact Lo.nl _) (by first | assumption | exact Lo.nl _) (by first | assumption | exact Lo.nl _) (by first | assumption | exact Lo.nl _) (by first | assumption | exact Dj.symm (by assumption)) (by first | assumption | exact Dj.symm (by assumption)) (by first | assumption | exact Rd.up (by assumption) hB | exact Osl.rd (by assumption) | exact Osn.rdR (by assumption) | exact NL.rd (by assumption) | exact rdII (by assumption) (by assumption) | exact Inn.rd (by assumption) (by omega)) (by first | assumption | exact Rd.up (by assumption) hB | exact Osl.rd (by assumption) | exact Osn.rdR (by assumption) | exact NL.rd (by assumption) | exact rdII (by assumption) (by assumption) | exact Inn.rd (by assumption) (by omega)) (by first | assumption | exact Rd.up (by assumption) hB | exact Osl.rd (by assumption) | exact Osn.rdR (by assumption) | exact NL.rd (by assumption) | exact rdII (by assumption) (by assumption) | exact Inn.rd (by assumption) (by omega)) (by first | assumption | exact Rd.up (by assumption) hB | exact Osl.rd (by assumption) | exact Osn.rdR (by assumption) | exact NL.rd (by assumption) | exact rdII (by assumption) (by assumption) | exact Inn.rd (by assumption) (by omega)) (by first | assumption | omega | (simp only [marks_len, marksB_len, marksR_len]; omega)) (by first | assumption | omega | (simp only [marks_len, marksB_len, marksR_len]; omega)) (by first | assumption | omega | (simp only [marks_len, marksB_len, marksR_len]; omega))) (fun rv1 w7 hR => ?_))
  obtain ⟨hUC4, zs5, rfl, hm6, hbn3⟩ := hR
  have hb1 := hb1.loop hUC4 ⟨hd1_3, trivial⟩
  have hb2 := hb2.loop hUC4 ⟨hd2_3, trivial⟩
  have hB := hB.loop hUC4 ⟨hl3, trivial⟩
  have hb3 := hbn3
  have hTT := (by assumption : Tb a0 xa2 xa3 xs 13 156 _ (xs.length + 1) 0); have htn := hTT.n; have htop := hTT.topW (by omega)
  refine WL.nilS ?_
  refine CW.seq ?_
  refine CW.seq ?_
  refine CW.reg ?_
  refine WL.pure rfl rfl rfl (PV.fieldAddr T.fl72_4 rfl hb1.cells) ?_
  refine WL.pure rfl rfl rfl (PV.load1 T.na62 rfl hb1.cells (Ext.refl _) rfl) ?_
  refine WL.pure rfl rfl rfl ((by first | exact PV.len rfl (by assumption) T.sl62 | exact PV.lenOs rfl (by assumption) T.sl62 | exact PV.len rfl (NL.rd (by assumption)) T.sl62 | exact PV.len rfl (Inn.rd (by assumption) (by omega)) T.sl62)) ?_
  refine WL.mv rfl rfl ?_
  refine WL.nilS ?_
  refine CW.block ?_
  refine CW.loop (σk := [(3, _), (6, _), (30, _), (31, _)]) (fun ρ wz m => ∃ (k : Nat), ρ = [(32, .int .i64 (k : Nat))] ∧ m = xa4.length - k ∧ UpdL [] w7 wz ∧ (k ≤ xa4.length) ∧ (∀ s : Nat, s < k → xa4.getD s false = true → ¬ Der a0 xa2 xa3 xs 0 xs.length (s : Int))) (ρ₀ := [(32, _)]) (m₀ := _) ⟨rfl, rfl, rfl, rfl, rfl, trivial⟩ ⟨0, rfl, rfl, (UpdL.refl _ _), (by first | omega | rfl | (simp; done) | assumption | (simp_all; done)), (by intro s h9; omega)⟩ ?_
  rintro _ wl1 _ ⟨k, rfl, rfl, hU0, hk, hno⟩
  have hb1 := hb1.loop hU0 trivial
  have hb2 := hb2.loop hU0 trivial
  have hb3 := hb3.loop hU0 trivial
  have hB := hB.loop hU0 trivial
  refine CW.seq ?_
  refine CW.reg ?_
  refine WL.pure rfl rfl rfl (PV.lss rfl rfl) ?_
  refine WL.nilS ?_
  refine CW.seq ?_
  refine CW.cond rfl (fun hc4 => ?_) (fun hc4 => ?_)
  · skip
    try simp only [nq] at hc4
    refine CW.skipS ?_
    refine CW.seq ?_
    refine CW.block ?_
    refine CW.seq ?_
    refine CW.reg ?_
    refine WL.mv rfl rfl ?_
    first
      | refine WL.at (x := .tmp 30) (y := .tmp 32) (E := EB) (false) rfl rfl (by first | assumption | exact Inn.rd (by assumption) (by omega)) (by first | omega | (simp only [List.length_set]; omega) | (simp only [List.length_append, List.length_take, List.length_replicate, List.length_drop]; omega)) (fun p1 csp1 hpp1 hcp1 hq => ?_)
      | refine WL.atZ (x := .tmp 30) (y := .tmp 32) (E := EB) (false) rfl rfl (by first | assumption | exact Inn.rd (by assumption) (by omega)) (by first | omega | (simp only [List.length_set]; omega) | (simp only [List.length_append, List.length_take, List.length_replicate, List.length_drop]; omega)) (fun p1 csp1 hpp1 hzp1 hcp1 hq => ?_)
    cases hq
    refine WL.pure rfl rfl rfl ((by first | exact PV.indexAddr hpp1 rfl rfl T.sl62 | exact PV.indexAddr hpp1 rfl (by rw [← hzp1]; rfl) T.sl62)) ?_
    refine WL.pure rfl rfl rfl ((by first | exact PV.load0 T.na4 rfl (by first | exact Cells.up (by assumption) hB | exact Bx.cells (by assumption) | assumption) (Ext.refl _) rfl | exact PV.load1 T.na4 rfl (by first | exact Cells.up (by assumption) hB | exact Bx.cells (by assumption) | assumption) (Ext.refl _) rfl)) ?_
    refine WL.asg rfl rfl ?_
    refine WL.asg rfl rfl ?_
    refine WL.nilS ?_
    refine CW.seq ?_
    refine CW.reg ?_
    have hb := (bt32 (x := (k : Int)) htop.r).trans (htop.i k (by omega) (by omega))
    refine WL.mv rfl rfl ?_
    refine WL.mv rfl rfl ?_
    refine WL.split (t := 38) rfl (fun hc5 => ?_) (fun hc5 => ?_)
    rotate_left
    · skip
      try simp only [nq] at hc5
      refine WL.skip rfl rfl rfl rfl rfl ?_
      refine WL.skip rfl rfl rfl rfl rfl ?_
      refine WL.skip rfl rfl rfl rfl rfl ?_
      refine WL.skip rfl rfl rfl rfl rfl ?_
      refine WL.skip rfl rfl rfl rfl rfl ?_
      refine WL.skip rfl rfl rfl rfl rfl ?_
      refine WL.skip rfl rfl rfl rfl rfl ?_
      refine WL.skip rfl rfl rfl rfl rfl ?_
      refine WL.skip rfl rfl rfl rfl rfl ?_
      refine WL.pure rfl rfl rfl (PV.pickF rfl rfl) ?_
      refine WL.nilS ?_
      refine CW.condF rfl ?_
      refine CW.skip ?_
      refine NQ.block ?_
      refine NQ.then ?_
      refine CW.reg ?_
      refine WL.pure rfl rfl rfl (PV.add rfl rfl (by constructor <;> omega)) ?_
      refine WL.mv rfl rfl ?_
      refine WL.nil ?_
      refine NQ.next (ρ := [(32, _)]) ⟨rfl, rfl, rfl, rfl, rfl, trivial⟩ ?_
      exact ⟨_, ⟨k + 1, rfl, rfl, hU0, (by first | omega | assumption | (simp_all; done) | (simp_all; omega)), (by exact noT hno (fun h8 h9 => by first | exact absurd h8 (by rw [(by assumption : xa4.getD k false = false)]; decide) | exact absurd (hb.2 h9) (by assumption)))⟩, by omega⟩
    try simp only [nq] at hc5
    refine WL.pureG rfl rfl rfl rfl rfl (PV.load0 T.na28 rfl hb2.cells (Ext.refl _) rfl) ?_
    refine WL.pureG rfl rfl rfl rfl rfl ((by first | exact PV.len rfl (by assumption) T.sl28 | exact PV.lenOs rfl (by assumption) T.sl28 | exact PV.len rfl (NL.rd (by assumption)) T.sl28 | exact PV.len rfl (Inn.rd (by assumption) (by omega)) T.sl28)) ?_
    refine WL.pureG rfl rfl rfl rfl rfl (PV.ixN (i := 0) T.ar174 rfl hb3.spot rfl (by omega)) ?_
    refine WL.pureG rfl rfl rfl rfl rfl ((by first | exact PV.ixPN1 T.ar173 rfl rfl (by omega) | exact PV.ixPZ1 T.ar173 rfl rfl (by omega))) ?_
    refine WL.pureG rfl rfl rfl rfl rfl (PV.loadArr 0 T.na172 rfl (Bx.cells hb3) (Ext.refl _) (by first | omega | (simp only [List.length_set]; omega))) ?_
    refine WL.pureG rfl rfl rfl rfl rfl (PV.move rfl) ?_
    refine WL.pureG rfl rfl rfl rfl rfl (PV.shr rfl rfl (by omega) (by first | (simp only [IntKind.bits]; omega) | (simp [IntKind.bits] <;> omega))) ?_
    refine WL.pureG rfl rfl rfl rfl rfl (PV.and rfl rfl) ?_
    refine WL.pureG rfl rfl rfl rfl rfl (PV.eql rfl rfl) ?_
    refine WL.pure rfl rfl rfl (PV.pickT rfl rfl) ?_
    refine WL.nilS ?_
    refine CW.cond rfl (fun hc6 => ?_) (fun hc6 => ?_)
    · skip
      try simp only [nq] at hc6
      refine CW.seq ?_
      refine CW.reg ?_
      refine WL.asg rfl rfl ?_
      refine WL.asg rfl rfl ?_
      refine WL.nilS ?_
      refine CW.ret ?_
      refine RQ.block ?_
      refine RQ.then ?_
      refine RQ.then ?_
      refine RQ.block ?_
      refine RQ.then ?_
      refine RQ.r2 rfl rfl ?_
      refine ⟨?_, hB⟩
      first | exact whV_n (whB_n1 (Bool.eq_false_iff.2 (treesB_no (by assumption)))) | exact whV_n (whB_n2 (by assumption)) | exact whV_n (whB_n3 (by omega)) | exact whV_y hwb (hasT_yes (by omega) (by assumption) (hb.1 (by assumption))) | exact whV_y hwb (hasT_no (fun s hs => hno s (by omega)))
    try simp only [nq] at hc6
    refine CW.skip ?_
    refine NQ.block ?_
    refine NQ.then ?_
    refine CW.reg ?_
    refine WL.pure rfl rfl rfl (PV.add rfl rfl (by constructor <;> omega)) ?_
    refine WL.mv rfl rfl ?_
    refine WL.nil ?_
    refine NQ.next (ρ := [(32, _)]) ⟨rfl, rfl, rfl, rfl, rfl, trivial⟩ ?_
    exact ⟨_, ⟨k + 1, rfl, rfl, hU0, (by first | omega | assumption | (simp_all; done) | (simp_all; omega)), (by exact noT hno (fun h8 h9 => by first | exact absurd h8 (by rw [(by assumption : xa4.getD k false = false)]; decide) | exact absurd (hb.2 h9) (by assumption)))⟩, by omega⟩
  try simp only [nq] at hc4
  refine CW.exit ?_
  refine XQ.then ?_
  refine XQ.then ?_
  refine XQ.here ?_
  refine NQ.then ?_
  refine CW.seq ?_
  refine CW.reg ?_
  refine WL.asg rfl rfl ?_
  refine WL.asg rfl rfl ?_
  refine WL.nilS ?_
  refine CW.ret ?_
  refine RQ.r2 rfl rfl ?_
  refine ⟨?_, hB⟩
  first | exact whV_n (whB_n1 (Bool.eq_false_iff.2 (treesB_no (by assumption)))) | exact whV_n (whB_n2 (by assumption)) | exact whV_n (whB_n3 (by omega)) | exact whV_y hwb (hasT_yes (by omega) (by assumption) (hb.1 (by assumption))) | exact whV_y hwb (hasT_no (fun s hs => hno s (by omega)))
set_option maxHeartbeats 8000000 in
theorem c_impl_FirstTree {w : World} {a0 : Int} {a1 : Int} {va2 : Value} {xa2 : List Int} {va3 : Value} {xa3 : List Int} {va4 : Value} {xa4 : List Bool}  (ha2 : Rd EI w va2 xa2) (ha3 : Rd EI w va3 xa3) (ha4 : Rd EB w va4 xa4) : Calls Try.prog 59 #[.agg #[.int .i64 a0, .int .i64 a1, va2, va3, va4]] w (Ret1 (fun v w' => Ext w w' ∧ ∃ u og_u, v = .tuple #[u, .bool (ftB (treesB a0 a1 xa2 xa3 xa4) xa4 (foundL a0 xa3 xa2))] ∧ Osl VI w' og_u u (ftT (treesB a0 a1 xa2 xa3 xa4) xa4 (foundL a0 xa3 xa2)) ∧ Lo w og_u)) := by
  have hB : Ext w w := Ext.refl w
  have hla2 := ha2.leI; have hla3 := ha3.leI; have hla4 := ha4.leI
  refine callsOf (vs := [_]) Try.func59 rfl Try.ntmps59 rfl rfl ?_
  refine CW.seq ?_
  refine CW.reg ?_
  refine WL.op rfl (OpK.box rfl rfl (by first | exact Rd.cells1 (by assumption) | exact Osl.cells1 (by assumption) | exact Osn.cells1 (by assumption) | exact Rd.cells1 (NL.rd (by assumption)) | exact Inn.cell1 (by assumption) (by omega) | assumption | rfl) (fun b1 w1 hXw1 hb1 hge1 => ?_))
  have hl1 := Lo.new hB hge1
  have hB := hB.trans hXw1
  refine WL.asg rfl rfl ?_
  refine WL.asg rfl rfl ?_
  refine WL.nilS ?_
  refine CW.seq ?_
  refine CW.seq ?_
  refine CW.reg ?_
  refine WL.pure rfl rfl rfl (PV.loadA T.ag72 rfl hb1.cells (Ext.refl _) rfl) ?_
  refine WL.op rfl (OpK.callR rfl T.cf56 rfl (c_impl_ValidTrees (by first | assumption | exact Rd.up (by assumption) hB | exact Osl.rd (by assumption) | exact Osn.rdR (by assumption) | exact NL.rd (by assumption) | exact rdII (by assumption) (by assumption) | exact Inn.rd (by assumption) (by omega)) (by first | assumption | exact Rd.up (by assumption) hB | exact Osl.rd (by assumption) | exact Osn.rdR (by assumption) | exact NL.rd (by assumption) | exact rdII (by assumption) (by assumption) | exact Inn.rd (by assumption) (by omega)) (by first | assumption | exact Rd.up (by assumption) hB | exact Osl.rd (by assumption) | exact Osn.rdR (by assumption) | exact NL.rd (by assumption) | exact rdII (by assumption) (by assumption) | exact Inn.rd (by assumption) (by omega))) (fun w2 hXw2 => ?_))
  have hB := hB.trans hXw2
  have hb1 := hb1.up hXw2
  refine WL.pure rfl rfl rfl (PV.not rfl) ?_
  refine WL.nilS ?_
  refine CW.cond rfl (fun hc1 => ?_) (fun hc1 => ?_)
  · skip
    try simp only [nq] at hc1
    refine CW.seq ?_
    refine CW.reg ?_
    refine WL.asg rfl rfl ?_
    refine WL.asg rfl rfl ?_
    refine WL.nilS ?_
    refine CW.ret ?_
    refine RQ.then ?_
    refine RQ.r2 rfl rfl ?_
    refine ⟨hB, (.slice none 0 0), none, ?_, osE (Osl.nil _ _) ?_, Lo.nl _⟩
    · skip
      exact tE2 rfl (bE (by first | (rw [(Bool.eq_false_iff.2 (treesB_no (by assumption)))]; rfl) | exact (ft_long hno (by omega) (by assumption) (by rw [htr]; omega)).1.symm | (rw [hvb]; first | exact (ft_yes hno (by omega) (by assumption) (by rw [htr]; omega)).1.symm | exact htr.symm.trans (ft_yes hno (by omega) (by assumption) (by rw [htr]; omega)).1.symm) | exact (ft_none hno (by omega)).1.symm | (exfalso; exact absurd (by assumption : xa4.getD ((foundL a0 xa3 xa2).getD k (0, 0, 0, 0)).1.toNat false = true) (by rw [(by assumption : xa4.getD ((foundL a0 xa3 xa2).getD k (0, 0, 0, 0)).1.toNat false = false)]; decide))))
    · skip
      first | (rw [(Bool.eq_false_iff.2 (treesB_no (by assumption)))]; rfl) | exact (ft_long hno (by omega) (by assumption) (by rw [htr]; omega)).2.symm | (rw [hvb]; first | exact (ft_yes hno (by omega) (by assumption) (by rw [htr]; omega)).2.symm | exact htr.symm.trans (ft_yes hno (by omega) (by assumption) (by rw [htr]; omega)).2.symm) | exact (ft_none hno (by omega)).2.symm | (exfalso; exact absurd (by assumption : xa4.getD ((foundL a0 xa3 xa2).getD k (0, 0, 0, 0)).1.toNat false = true) (by rw [(by assumption : xa4.getD ((foundL a0 xa3 xa2).getD k (0, 0, 0, 0)).1.toNat false = false)]; decide))
  try simp only [nq] at hc1
  have hv : (1 ≤ a0 ∧ a0 ≤ 16) ∧ (1 ≤ a1 ∧ a1 ≤ 4) ∧ (xa2.length : Int) = a1 ∧ (xa3.length : Int) = a0 * a0 ∧ (xa4.length : Int) = a0 ∧ allIn xa2 0 (a0 - 1) = true ∧ allIn xa3 0 (a0 - 1) = true := (by assumption); have hvb := treesB_yes hv; have tv : TV a0 a1 xa2 xa3 := ⟨hv.1, hv.2.1, hv.2.2.1, hv.2.2.2.1, hv.2.2.2.2.2.1, hv.2.2.2.2.2.2⟩; have tvs := tv.s; have tvl := tv.ll; have tvn := tv.nl; have hF0 := found_ok tv; have hFn := hF0.len; have hv5 := hv.2.2.2.2.1; have htl := trF_len2 (foundL a0 xa3 xa2)
  refine CW.skipS ?_
  refine CW.seq ?_
  refine CW.reg ?_
  refine WL.op rfl (OpK.buildS VV (os := []) [] rfl T.sl25 rfl rfl T.zv28 rfl (by intro z hz; cases hz) rfl (fun v2 g2 w3 hXw3 ho2 hge2 => ?_))
  have hl2 := Lo.new hB hge2
  have hd1_2 := Dj.new hb1.ltO hge2
  have hB := hB.trans hXw3
  have hb1 := hb1.up hXw3
  refine WL.asg rfl rfl ?_
  refine WL.nilS ?_
  refine CW.seq ?_
  refine CW.seq ?_
  refine CW.reg ?_
  refine WL.pure rfl rfl rfl (PV.loadA T.ag72 rfl hb1.cells (Ext.refl _) rfl) ?_
  refine WL.op rfl (OpK.call rfl T.cf139 rfl (c_impl_TreeMachine_find (by first | assumption | exact Rd.up (by assumption) hB | exact Osl.rd (by assumption) | exact Osn.rdR (by assumption) | exact NL.rd (by assumption) | exact rdII (by assumption) (by assumption) | exact Inn.rd (by assumption) (by omega)) (by first | assumption | exact Rd.up (by assumption) hB | exact Osl.rd (by assumption) | exact Osn.rdR (by assumption) | exact NL.rd (by assumption) | exact rdII (by assumption) (by assumption) | exact Inn.rd (by assumption) (by omega)) (by first | assumption | exact Rd.up (by assumption) hB | exact Osl.rd (by assumption) | exact Osn.rdR (by assumption) | exact NL.rd (by assumption) | exact rdII (by assumption) (by assumption) | exact Inn.rd (by assumption) (by omega)) (by first | assumption | omega | (simp only [marks_len, marksB_len, marksR_len]; omega))) (fun rv1 w4 hR => ?_))
  obtain ⟨hXw4, v3, og3, rfl, ho3, hq3⟩ := hR
  have hl3 := Lo.up hq3 hB
  have hd1_3 := Dj.lo hb1.ltO hq3
  have hd2_3 := Dj.lo ho2.ltO hq3
  have hB := hB.trans hXw4
  have hb1 := hb1.up hXw4
  have ho2 := ho2.up hXw4
  refine WL.pure rfl rfl rfl ((PV.lenOsn rfl ho3 T.sl163)) ?_
  refine WL.mv rfl rfl ?_
  refine WL.nilS ?_
  refine CW.block ?_
  have hn4 := Inn.zero w4
  have hl4 := LoI.nl w
  have hd1_4 : DI [] (some b1.block) := DI.zero _
  have hd2_4 : DI [] (some g2) := DI.zero _
  have hd3_4 : DI [] og3 := DI.zero _
  have hlt1 := hb1.ltO
  have hlt2 := ho2.ltO
  have hlt3 := ho3.ltO
  have hlt4 := hn4.ltO
  refine CW.loop (σk := [(1, _), (13, _), (14, _)]) (fun ρ wz m => ∃ (v5 : Value) (og5 : Option Nat) (vs5 : List Value) (os5 : List (Option Nat)) (k : Nat), ρ = [(4, v5), (15, .int .i64 (k : Nat))] ∧ m = (foundL a0 xa3 xa2).length - k ∧ UpdL [(some g2)] w4 wz ∧ Osl VV wz og5 v5 (vs5) ∧ OgR w4 (some g2) og5 ∧ Inn wz os5 vs5 (trF ((foundL a0 xa3 xa2).take k)) ∧ BlR w4 [] os5 ∧ DI os5 og5 ∧ (k ≤ (foundL a0 xa3 xa2).length) ∧ (NoE xa4 (foundL a0 xa3 xa2) k)) (ρ₀ := [(4, _), (15, _)]) (m₀ := _) ⟨rfl, rfl, rfl, rfl, rfl, trivial⟩ ⟨v2, (some g2), _, [], 0, rfl, rfl, (UpdL.refl _ _), ho2, OgR.refl _ _, innE hn4 (by rfl), BlR.refl _ _, hd2_4, (by first | omega | rfl | (simp; done) | assumption | (simp_all; done)), (by exact NoE.zero)⟩ ?_
  rintro _ wl1 _ ⟨v5, og5, vs5, os5, k, rfl, rfl, hU0, ho5, ha5, hn6, hy6, hd5_6, hk, hno⟩
  have hb1 := hb1.loop hU0 ⟨hd1_2, trivial⟩
  have ho3 := ho3.loop hU0 ⟨(Dj.symm hd2_3), trivial⟩
  have hl5 := Lo.ogr hl2 hB ha5
  have hg0_5 := ha5
  have hk0_5 : OkB [(some g2)] w4 og5 := OkB.ogr (OkB.mem (by simp)) (Nat.le_refl _) ha5
  have hd1_5 := Dj.ogr hd1_2 hlt1 ha5
  have hd3_5 := Dj.ogr (Dj.symm hd2_3) hlt3 ha5
  have hBpre0 := hB
  have hB := hB.loop hU0 ⟨hl2, trivial⟩
  have hlv6 := hn6.lv
  have hd1_6 := DI.blr hd1_4 hlt1 hy6
  have hd3_6 := DI.blr hd3_4 hlt3 hy6
  have hz0_6 := hy6
  have hl6 := LoI.blr hl4 hBpre0 hy6
  refine CW.seq ?_
  refine CW.reg ?_
  refine WL.pure rfl rfl rfl (PV.lss rfl rfl) ?_
  refine WL.nilS ?_
  refine CW.seq ?_
  refine CW.cond rfl (fun hc2 => ?_) (fun hc2 => ?_)
  · skip
    try simp only [nq] at hc2
    refine CW.skipS ?_
    refine CW.seq ?_
    refine CW.block ?_
    refine CW.seq ?_
    refine CW.reg ?_
    have hst := hF0.st (i := k) (by omega); simp only [rS] at hst; have htk := trF_len (foundL a0 xa3 xa2) k (by omega)
    have hrdp1 := ho3.rdR
    first
      | refine WL.at (x := .tmp 13) (y := .tmp 15) (E := ER) ((0, 0, 0, 0)) rfl rfl hrdp1 (by first | omega | (simp only [List.length_set]; omega) | (simp only [List.length_append, List.length_take, List.length_replicate, List.length_drop]; omega)) (fun p1 csp1 hpp1 hcp1 hq => ?_)
      | refine WL.atZ (x := .tmp 13) (y := .tmp 15) (E := ER) ((0, 0, 0, 0)) rfl rfl hrdp1 (by first | omega | (simp only [List.length_set]; omega) | (simp only [List.length_append, List.length_take, List.length_replicate, List.length_drop]; omega)) (fun p1 csp1 hpp1 hzp1 hcp1 hq => ?_)
    cases hq
    refine WL.pure rfl rfl rfl ((by first | exact PV.indexAddr hpp1 rfl rfl T.sl163 | exact PV.indexAddr hpp1 rfl (by rw [← hzp1]; rfl) T.sl163)) ?_
    refine WL.pure rfl rfl rfl ((by first | exact PV.loadA T.ag167 rfl (by first | exact Cells.up (by assumption) hB | exact Bx.cells (by assumption) | assumption) (Ext.refl _) rfl | exact PV.loadP (ds := [_, _, _, _]) T.ag167 rfl (by first | exact Cells.up (by assumption) hB | exact Bx.cells (by assumption) | assumption) (Ext.refl _) rfl rfl)) ?_
    refine WL.op rfl (OpK.alloc rfl T.zv167 rfl (fun b7 w5 hXw5 hb7 hge7 => ?_))
    have hl7 := Lo.new hB hge7
    have hd1_7 := Dj.new hb1.ltO hge7
    have hd3_7 := Dj.new ho3.ltO hge7
    have hd6_7 := DI.new hn6 hge7
    have hd5_7 := Dj.new ho5.ltO hge7
    have hk0_7 := OkN.new hU0 hge7
    have hg0_7 := OgR.new hU0.size hge7
    have hB := hB.trans hXw5
    have hb1 := hb1.up hXw5
    have ho3 := ho3.up hXw5
    have hn6 := hn6.up hXw5
    have ho5 := ho5.up hXw5
    have hU0 := hU0.ext hXw5
    refine WL.op rfl (OpK.storeA T.sz167 rfl rfl rfl rfl (by simp [Value.oneCell'] <;> first | done | (repeat' apply And.intro) <;> first | rfl | exact Inn.one1 (by assumption) (by omega) | exact Osl.oneCell (by assumption) | exact Osn.oneCell (by assumption) | exact Rd.oneCell (by assumption) | exact Rd.oneCell (NL.rd (by assumption)) | assumption) hb7 (fun w6 hXw6 hb7 => ?_))
    have hB := hB.updL hXw6 hl7
    have hb1 := hb1.updD hXw6 hd1_7
    have ho3 := ho3.updD hXw6 hd3_7
    have hn6 := hn6.updD hXw6 hd6_7
    have ho5 := ho5.updD hXw6 hd5_7
    have hU0 := hU0.step hXw6 hk0_7
    refine WL.nilS ?_
    refine CW.seq ?_
    refine CW.reg ?_
    refine WL.pure rfl rfl rfl (PV.fieldAddr T.fl167_1 rfl hb7.cells) ?_
    refine WL.pure rfl rfl rfl (PV.load1 T.na2 rfl hb7.cells (Ext.refl _) rfl) ?_
    refine WL.op rfl (OpK.buildS VI (os := [.tmp 20]) [_] rfl T.sl28 rfl rfl T.zv2 rfl (by intro z hz; first | rfl | (simp only [List.mem_cons, List.not_mem_nil, or_false] at hz; subst hz; exact (by first | exact Rd.cells1 (by assumption) | exact Osl.cells1 (by assumption) | exact Osn.cells1 (by assumption) | exact Rd.cells1 (NL.rd (by assumption)) | exact Inn.cell1 (by assumption) (by omega) | assumption | rfl))) rfl (fun v8 g8 w7 hXw7 ho8 hge8 => ?_))
    have hl8 := Lo.new hB hge8
    have hd1_8 := Dj.new hb1.ltO hge8
    have hd3_8 := Dj.new ho3.ltO hge8
    have hd6_8 := DI.new hn6 hge8
    have hd5_8 := Dj.new ho5.ltO hge8
    have hd7_8 := Dj.new hb7.ltO hge8
    have hk0_8 := OkN.new hU0 hge8
    have hg0_8 := OgR.new hU0.size hge8
    have hB := hB.trans hXw7
    have hb1 := hb1.up hXw7
    have ho3 := ho3.up hXw7
    have hn6 := hn6.up hXw7
    have ho5 := ho5.up hXw7
    have hb7 := hb7.up hXw7
    have hU0 := hU0.ext hXw7
    refine WL.asg rfl rfl ?_
    refine WL.nilS ?_
    refine CW.seq ?_
    refine CW.seq ?_
    refine CW.reg ?_
    refine WL.pure rfl rfl rfl (PV.fieldAddr T.fl167_1 rfl hb7.cells) ?_
    refine WL.pure rfl rfl rfl (PV.load1 T.na2 rfl hb7.cells (Ext.refl _) rfl) ?_
    refine WL.pure rfl rfl rfl (PV.lss rfl rfl) ?_
    refine WL.nilS ?_
    refine CW.cond rfl (fun hc3 => ?_) (fun hc3 => ?_)
    · skip
      try simp only [nq] at hc3
      obtain ⟨hw1, hw2, hw3⟩ := how_neg hF0 (k := k) (by omega) (by assumption); have htr := tr_neg (l := foundL a0 xa3 xa2) (k := k) (by omega) hw1; have hs1 := trF_smallk hF0 (by omega) (i := ((foundL a0 xa3 xa2).getD k (0, 0, 0, 0)).2.2.1.toNat) (k := k) (by omega) (by omega); have hs2 := trF_smallk hF0 (by omega) (i := ((foundL a0 xa3 xa2).getD k (0, 0, 0, 0)).2.2.2.toNat) (k := k) (by omega) (by omega)
      refine CW.draw T.mixed (by kernel_rfl) (fun _ _ _ _ _ h => h) (fun w8 w9 => Upd none w8 w9) 14 (.take 0 (.take 1 (.take 2 (.take 3 (.take 4 (.take 5 (.take 6 (.take 7 (.take 8 (.take 9 (.take 10 (.must 11 (.must 12 (.take 13 .done)))))))))))))) (by kernel_rfl) (fun w8 hXd => ?_)
      have hB := hB.trans hXd
      have hb1 := hb1.up hXd
      have ho3 := ho3.up hXd
      have hn6 := hn6.up hXd
      have ho5 := ho5.up hXd
      have hb7 := hb7.up hXd
      have ho8 := ho8.up hXd
      have hU0 := hU0.ext hXd
      have hBr := hB
      have hS : Upd none w8 w8 := Ext.toUpd (Ext.refl _)
      refine HP.take rfl rfl rfl rfl hS (fun wS hS1 => PV.move rfl) ?_
      refine HP.take rfl rfl rfl rfl hS (fun wS hS1 => PV.move rfl) ?_
      refine HP.take rfl rfl rfl rfl hS (fun wS hS1 => PV.fieldAddr T.fl167_2 rfl hb7.cells) ?_
      refine HP.take rfl rfl rfl rfl hS (fun wS hS1 => PV.load1 T.na3 rfl (Bx.cells (Bx.updD (by assumption) hS1 (Dj.nlR _))) (Ext.refl _) rfl) ?_
      first
        | refine HP.atO (wb := w8) (x := .tmp 26) (y := .tmp 28) (f := VV) (.slice none 0 0) rfl rfl (by assumption) (by first | omega | (simp only [List.length_set]; omega) | (simp only [List.length_append, List.length_take, List.length_replicate, List.length_drop]; omega)) (fun p2 hpp2 hcp2 => ?_)
        | refine HP.atOZ (wb := w8) (x := .tmp 26) (y := .tmp 28) (f := VV) (.slice none 0 0) rfl rfl (by assumption) (by first | omega | (simp only [List.length_set]; omega) | (simp only [List.length_append, List.length_take, List.length_replicate, List.length_drop]; omega)) (fun p2 hpp2 hzp2 hcp2 => ?_)
      refine HP.take rfl rfl rfl rfl hS (fun wS hS1 => (by first | exact PV.indexAddr hpp2 rfl rfl T.sl25 | exact PV.indexAddr hpp2 rfl (by rw [← hzp2]; rfl) T.sl25)) ?_
      refine HP.take rfl rfl rfl rfl hS (fun wS hS1 => (by first | exact PV.load0 T.na28 rfl (by first | exact Cells.up (by assumption) (hBr.trans hS1) | exact Bx.cells (Bx.updD (by assumption) hS1 (Dj.nlR _)) | exact Cells.upd (by assumption) hS1 (by simp)) (Ext.refl _) rfl | exact PV.load1 T.na28 rfl (by first | exact Cells.up (by assumption) (hBr.trans hS1) | exact Bx.cells (Bx.updD (by assumption) hS1 (Dj.nlR _)) | exact Cells.upd (by assumption) hS1 (by simp)) (Ext.refl _) rfl)) ?_
      refine HP.take rfl rfl rfl rfl hS (fun wS hS1 => PV.move rfl) ?_
      refine HP.take rfl rfl rfl rfl hS (fun wS hS1 => PV.fieldAddr T.fl167_3 rfl hb7.cells) ?_
      refine HP.take rfl rfl rfl rfl hS (fun wS hS1 => PV.load1 T.na3 rfl (Bx.cells (Bx.updD (by assumption) hS1 (Dj.nlR _))) (Ext.refl _) rfl) ?_
      first
        | refine HP.atO (wb := w8) (x := .tmp 31) (y := .tmp 33) (f := VV) (.slice none 0 0) rfl rfl (by assumption) (by first | omega | (simp only [List.length_set]; omega) | (simp only [List.length_append, List.length_take, List.length_replicate, List.length_drop]; omega)) (fun p3 hpp3 hcp3 => ?_)
        | refine HP.atOZ (wb := w8) (x := .tmp 31) (y := .tmp 33) (f := VV) (.slice none 0 0) rfl rfl (by assumption) (by first | omega | (simp only [List.length_set]; omega) | (simp only [List.length_append, List.length_take, List.length_replicate, List.length_drop]; omega)) (fun p3 hpp3 hzp3 hcp3 => ?_)
      refine HP.take rfl rfl rfl rfl hS (fun wS hS1 => (by first | exact PV.indexAddr hpp3 rfl rfl T.sl25 | exact PV.indexAddr hpp3 rfl (by rw [← hzp3]; rfl) T.sl25)) ?_
      refine HP.take rfl rfl rfl rfl hS (fun wS hS1 => (by first | exact PV.load0 T.na28 rfl (by first | exact Cells.up (by assumption) (hBr.trans hS1) | exact Bx.cells (Bx.updD (by assumption) hS1 (Dj.nlR _)) | exact Cells.upd (by assumption) hS1 (by simp)) (Ext.refl _) rfl | exact PV.load1 T.na28 rfl (by first | exact Cells.up (by assumption) (hBr.trans hS1) | exact Bx.cells (Bx.updD (by assumption) hS1 (Dj.nlR _)) | exact Cells.upd (by assumption) hS1 (by simp)) (Ext.refl _) rfl)) ?_
      refine HP.must rfl rfl (OpK.buildS VV (os := [.tmp 25, .tmp 30, .tmp 35]) [_, _, _] rfl T.sl25 rfl rfl T.zv28 rfl (by intro z hz; first | rfl | (simp only [List.mem_cons, List.not_mem_nil, or_false] at hz; rcases hz with hz | hz | hz <;> subst hz <;> exact (by first | exact Rd.cells1 (by assumption) | exact Osl.cells1 (by assumption) | exact Osn.cells1 (by assumption) | exact Rd.cells1 (NL.rd (by assumption)) | exact Inn.cell1 (by assumption) (by omega) | assumption | rfl))) rfl (fun v9 g9 w9 hXw9 ho9 hge9 => ?_))
      have hl9 := Lo.new hB hge9
      have hv9 := Lo.new hS hge9
      have hd1_9 := Dj.new hb1.ltO hge9
      have hd3_9 := Dj.new ho3.ltO hge9
      have hd6_9 := DI.new hn6 hge9
      have hd5_9 := Dj.new ho5.ltO hge9
      have hd7_9 := Dj.new hb7.ltO hge9
      have hd8_9 := Dj.new ho8.ltO hge9
      have hk0_9 := OkN.new hU0 hge9
      have hg0_9 := OgR.new hU0.size hge9
      refine ⟨Upd.trans hS hXw9, ?_⟩
      have hS := Upd.trans hS hXw9
      have hB := hB.trans hXw9
      have hb1 := hb1.up hXw9
      have ho3 := ho3.up hXw9
      have hn6 := hn6.up hXw9
      have ho5 := ho5.up hXw9
      have hb7 := hb7.up hXw9
      have ho8 := ho8.up hXw9
      have hU0 := hU0.ext hXw9
      refine HP.must rfl rfl (OpK.call rfl T.cf135 rfl (c_slices_Concat_int64_int64 (rdSl3 (by assumption) (Osl.rd (by assumption)) (Inn.rd (by assumption) (by omega)) (Inn.rd (by assumption) (by omega))) (by simp only [List.flatten_cons, List.flatten_nil, List.append_nil, List.length_append, List.length_singleton]; omega)) (fun rv2 w10 hR => ?_))
      obtain ⟨hXw10, v10, og10, rfl, ho10, hq10⟩ := hR
      have hl10 := Lo.up hq10 hB
      have hv10 := Lo.up hq10 hS
      have hd1_10 := Dj.lo hb1.ltO hq10
      have hd3_10 := Dj.lo ho3.ltO hq10
      have hd6_10 := DI.fresh hn6 hq10
      have hd5_10 := Dj.lo ho5.ltO hq10
      have hd7_10 := Dj.lo hb7.ltO hq10
      have hd8_10 := Dj.lo ho8.ltO hq10
      have hd9_10 := Dj.lo ho9.ltO hq10
      have hk0_10 := OkN.lo hU0 hq10
      have hg0_10 := OgR.lo hU0.size hq10
      refine ⟨Upd.trans hS hXw10, ?_⟩
      have hS := Upd.trans hS hXw10
      have hB := hB.trans hXw10
      have hb1 := hb1.up hXw10
      have ho3 := ho3.up hXw10
      have hn6 := hn6.up hXw10
      have ho5 := ho5.up hXw10
      have hb7 := hb7.up hXw10
      have ho8 := ho8.up hXw10
      have ho9 := ho9.up hXw10
      have hU0 := hU0.ext hXw10
      refine HP.take rfl rfl rfl rfl hS (fun wS hS1 => PV.assign rfl) ?_
      refine HP.doneS ?_
      refine CW.seq ?_
      refine CW.seq ?_
      refine CW.reg ?_
      refine WL.pure rfl rfl rfl (PV.fieldAddr T.fl72_4 rfl hb1.cells) ?_
      refine WL.pure rfl rfl rfl (PV.load1 T.na62 rfl hb1.cells (Ext.refl _) rfl) ?_
      refine WL.pure rfl rfl rfl (PV.fieldAddr T.fl167_0 rfl hb7.cells) ?_
      refine WL.pure rfl rfl rfl (PV.load1 T.na2 rfl hb7.cells (Ext.refl _) rfl) ?_
      first
        | refine WL.at (x := .tmp 39) (y := .tmp 41) (E := EB) (false) rfl rfl (by first | assumption | exact Inn.rd (by assumption) (by omega)) (by first | omega | (simp only [List.length_set]; omega) | (simp only [List.length_append, List.length_take, List.length_replicate, List.length_drop]; omega)) (fun p4 csp4 hpp4 hcp4 hq => ?_)
        | refine WL.atZ (x := .tmp 39) (y := .tmp 41) (E := EB) (false) rfl rfl (by first | assumption | exact Inn.rd (by assumption) (by omega)) (by first | omega | (simp only [List.length_set]; omega) | (simp only [List.length_append, List.length_take, List.length_replicate, List.length_drop]; omega)) (fun p4 csp4 hpp4 hzp4 hcp4 hq => ?_)
      cases hq
      refine WL.pure rfl rfl rfl ((by first | exact PV.indexAddr hpp4 rfl rfl T.sl62 | exact PV.indexAddr hpp4 rfl (by rw [← hzp4]; rfl) T.sl62)) ?_
      refine WL.pure rfl rfl rfl ((by first | exact PV.load0 T.na4 rfl (by first | exact Cells.up (by assumption) hB | exact Bx.cells (by assumption) | assumption) (Ext.refl _) rfl | exact PV.load1 T.na4 rfl (by first | exact Cells.up (by assumption) hB | exact Bx.cells (by assumption) | assumption) (Ext.refl _) rfl)) ?_
      refine WL.mv rfl rfl ?_
      refine WL.split (t := 44) rfl (fun hc4 => ?_) (fun hc4 => ?_)
      rotate_left
      · skip
        try simp only [nq] at hc4
        refine WL.skip rfl rfl rfl rfl rfl ?_
        refine WL.skip rfl rfl rfl rfl rfl ?_
        refine WL.skip rfl rfl rfl rfl rfl ?_
        refine WL.pure rfl rfl rfl (PV.pickF rfl rfl) ?_
        refine WL.nilS ?_
        refine CW.condF rfl ?_
        refine CW.skipS ?_
        refine CW.seq ?_
        refine CW.seq ?_
        refine CW.reg ?_
        refine WL.pure rfl rfl rfl (PV.fieldAddr T.fl72_4 rfl hb1.cells) ?_
        refine WL.pure rfl rfl rfl (PV.load1 T.na62 rfl hb1.cells (Ext.refl _) rfl) ?_
        refine WL.pure rfl rfl rfl (PV.fieldAddr T.fl167_0 rfl hb7.cells) ?_
        refine WL.pure rfl rfl rfl (PV.load1 T.na2 rfl hb7.cells (Ext.refl _) rfl) ?_
        first
          | refine WL.at (x := .tmp 50) (y := .tmp 52) (E := EB) (false) rfl rfl (by first | assumption | exact Inn.rd (by assumption) (by omega)) (by first | omega | (simp only [List.length_set]; omega) | (simp only [List.length_append, List.length_take, List.length_replicate, List.length_drop]; omega)) (fun p5 csp5 hpp5 hcp5 hq => ?_)
          | refine WL.atZ (x := .tmp 50) (y := .tmp 52) (E := EB) (false) rfl rfl (by first | assumption | exact Inn.rd (by assumption) (by omega)) (by first | omega | (simp only [List.length_set]; omega) | (simp only [List.length_append, List.length_take, List.length_replicate, List.length_drop]; omega)) (fun p5 csp5 hpp5 hzp5 hcp5 hq => ?_)
        cases hq
        refine WL.pure rfl rfl rfl ((by first | exact PV.indexAddr hpp5 rfl rfl T.sl62 | exact PV.indexAddr hpp5 rfl (by rw [← hzp5]; rfl) T.sl62)) ?_
        refine WL.pure rfl rfl rfl ((by first | exact PV.load0 T.na4 rfl (by first | exact Cells.up (by assumption) hB | exact Bx.cells (by assumption) | assumption) (Ext.refl _) rfl | exact PV.load1 T.na4 rfl (by first | exact Cells.up (by assumption) hB | exact Bx.cells (by assumption) | assumption) (Ext.refl _) rfl)) ?_
        refine WL.nilS ?_
        refine CW.cond rfl (fun hc5 => ?_) (fun hc5 => ?_)
        · skip
          try simp only [nq] at hc5
          refine CW.seq ?_
          refine CW.reg ?_
          refine WL.mv rfl rfl ?_
          refine WL.asg rfl rfl ?_
          refine WL.asg rfl rfl ?_
          refine WL.nilS ?_
          refine CW.ret ?_
          refine RQ.then ?_
          refine RQ.block ?_
          refine RQ.then ?_
          refine RQ.then ?_
          refine RQ.block ?_
          refine RQ.then ?_
          refine RQ.r2 rfl rfl ?_
          refine ⟨hB, rv2, og10, ?_, osE ho10 ?_, hl10⟩
          · skip
            exact tE2 rfl (bE (by first | (rw [(Bool.eq_false_iff.2 (treesB_no (by assumption)))]; rfl) | exact (ft_long hno (by omega) (by assumption) (by rw [htr]; omega)).1.symm | (rw [hvb]; first | exact (ft_yes hno (by omega) (by assumption) (by rw [htr]; omega)).1.symm | exact htr.symm.trans (ft_yes hno (by omega) (by assumption) (by rw [htr]; omega)).1.symm) | exact (ft_none hno (by omega)).1.symm | (exfalso; exact absurd (by assumption : xa4.getD ((foundL a0 xa3 xa2).getD k (0, 0, 0, 0)).1.toNat false = true) (by rw [(by assumption : xa4.getD ((foundL a0 xa3 xa2).getD k (0, 0, 0, 0)).1.toNat false = false)]; decide))))
          · skip
            first | (rw [(Bool.eq_false_iff.2 (treesB_no (by assumption)))]; rfl) | exact (ft_long hno (by omega) (by assumption) (by rw [htr]; omega)).2.symm | (rw [hvb]; first | exact (ft_yes hno (by omega) (by assumption) (by rw [htr]; omega)).2.symm | exact htr.symm.trans (ft_yes hno (by omega) (by assumption) (by rw [htr]; omega)).2.symm) | exact (ft_none hno (by omega)).2.symm | (exfalso; exact absurd (by assumption : xa4.getD ((foundL a0 xa3 xa2).getD k (0, 0, 0, 0)).1.toNat false = true) (by rw [(by assumption : xa4.getD ((foundL a0 xa3 xa2).getD k (0, 0, 0, 0)).1.toNat false = false)]; decide))
        try simp only [nq] at hc5
        refine CW.skipS ?_
        refine CW.reg ?_
        refine WL.mv rfl rfl ?_
        refine WL.mv rfl rfl ?_
        refine WL.op rfl (OpK.buildS VV (os := [.tmp 57]) [_] rfl T.sl25 rfl rfl T.zv28 rfl (by intro z hz; first | rfl | (simp only [List.mem_cons, List.not_mem_nil, or_false] at hz; subst hz; exact (by first | exact Rd.cells1 (by assumption) | exact Osl.cells1 (by assumption) | exact Osn.cells1 (by assumption) | exact Rd.cells1 (NL.rd (by assumption)) | exact Inn.cell1 (by assumption) (by omega) | assumption | rfl))) rfl (fun v11 g11 w11 hXw11 ho11 hge11 => ?_))
        have hl11 := Lo.new hB hge11
        have hd1_11 := Dj.new hb1.ltO hge11
        have hd3_11 := Dj.new ho3.ltO hge11
        have hd6_11 := DI.new hn6 hge11
        have hd5_11 := Dj.new ho5.ltO hge11
        have hd7_11 := Dj.new hb7.ltO hge11
        have hd8_11 := Dj.new ho8.ltO hge11
        have hd9_11 := Dj.new ho9.ltO hge11
        have hd10_11 := Dj.new ho10.ltO hge11
        have hk0_11 := OkN.new hU0 hge11
        have hg0_11 := OgR.new hU0.size hge11
        have hB := hB.trans hXw11
        have hb1 := hb1.up hXw11
        have ho3 := ho3.up hXw11
        have hn6 := hn6.up hXw11
        have ho5 := ho5.up hXw11
        have hb7 := hb7.up hXw11
        have ho8 := ho8.up hXw11
        have ho9 := ho9.up hXw11
        have ho10 := ho10.up hXw11
        have hU0 := hU0.ext hXw11
        refine WL.op rfl (OpK.appendS (f := VV) rfl T.sl25 T.zv28 rfl rfl ho5 rfl (Osl.srcM ho11 (one_mem (Osl.oneCell ho10))) (by first | (simp only [List.length_cons, List.length_nil]; omega) | (simp_all; omega)) (fun v12 og12 w12 hXw12 ho12 hap12 => ?_))
        have hn13 := Inn.put hn6 ho10 hd6_10
        have hl13 := LoI.put hl6 hl10
        have hz0_13 := BlR.put hz0_6 hg0_10
        have hd1_13 := DI.put hd1_6 (Dj.symm hd1_10)
        have hd3_13 := DI.put hd3_6 (Dj.symm hd3_10)
        have hd5_13 := DI.put hd5_6 (Dj.symm hd5_10)
        have hd7_13 := DI.put hd6_7 (Dj.symm hd7_10)
        have hd8_13 := DI.put hd6_8 (Dj.symm hd8_10)
        have hd9_13 := DI.put hd6_9 (Dj.symm hd9_10)
        have hd11_13 := DI.put hd6_11 hd10_11
        have hnp13 := hn13
        have hl12 := Lo.app hl5 hB hap12
        have hd1_12 := Dj.app hd1_5 hb1.ltO hap12
        have hd3_12 := Dj.app hd3_5 ho3.ltO hap12
        have hd7_12 := Dj.app (Dj.symm hd5_7) hb7.ltO hap12
        have hd8_12 := Dj.app (Dj.symm hd5_8) ho8.ltO hap12
        have hd9_12 := Dj.app (Dj.symm hd5_9) ho9.ltO hap12
        have hd11_12 := Dj.app (Dj.symm hd5_11) ho11.ltO hap12
        have hd12_13 := DI.app hd5_13 hn13 hap12
        have hk0_12 := OkN.app hU0 hk0_5 hap12
        have hg0_12 := OgR.app hg0_5 hU0.size hap12
        have hB := hB.updL hXw12 hl5
        have hb1 := hb1.updD hXw12 hd1_5
        have ho3 := ho3.updD hXw12 hd3_5
        have hb7 := hb7.updD hXw12 (Dj.symm hd5_7)
        have ho8 := ho8.updD hXw12 (Dj.symm hd5_8)
        have ho9 := ho9.updD hXw12 (Dj.symm hd5_9)
        have ho11 := ho11.updD hXw12 (Dj.symm hd5_11)
        have hn13 := hn13.updD hXw12 hd5_13
        have hU0 := hU0.step hXw12 hk0_5
        refine WL.asg rfl rfl ?_
        refine WL.nil ?_
        refine NQ.block ?_
        refine NQ.then ?_
        refine CW.reg ?_
        refine WL.pure rfl rfl rfl (PV.add rfl rfl (by constructor <;> omega)) ?_
        refine WL.mv rfl rfl ?_
        refine WL.nil ?_
        refine NQ.next (ρ := [(4, _), (15, _)]) ⟨rfl, rfl, rfl, rfl, rfl, trivial⟩ ?_
        exact ⟨_, ⟨v12, og12, _, (os5 ++ [og10]), k + 1, rfl, rfl, hU0, ho12, (by first | exact hg0_12 | exact OgR.weak hg0_12), innE hn13 (by rw [tr_put (by omega), htr]), (by first | exact hz0_13 | exact BlR.weak hz0_13), hd12_13, (by first | omega | assumption | (simp_all; done) | (simp_all; omega)), (by exact hno.succ (by assumption))⟩, by omega⟩
      try simp only [nq] at hc4
      refine WL.pureG rfl rfl rfl rfl rfl (PV.move rfl) ?_
      refine WL.pureG rfl rfl rfl rfl rfl ((PV.lenOs rfl ho10 T.sl28)) ?_
      refine WL.pureG rfl rfl rfl rfl rfl (PV.gtr rfl rfl) ?_
      refine WL.pure rfl rfl rfl (PV.pickT rfl rfl) ?_
      refine WL.nilS ?_
      refine CW.cond rfl (fun hc6 => ?_) (fun hc6 => ?_)
      · skip
        try simp only [nq] at hc6
        refine CW.seq ?_
        refine CW.reg ?_
        refine WL.asg rfl rfl ?_
        refine WL.asg rfl rfl ?_
        refine WL.nilS ?_
        refine CW.ret ?_
        refine RQ.then ?_
        refine RQ.block ?_
        refine RQ.then ?_
        refine RQ.then ?_
        refine RQ.block ?_
        refine RQ.then ?_
        refine RQ.r2 rfl rfl ?_
        refine ⟨hB, (.slice none 0 0), none, ?_, osE (Osl.nil _ _) ?_, Lo.nl _⟩
        · skip
          exact tE2 rfl (bE (by first | (rw [(Bool.eq_false_iff.2 (treesB_no (by assumption)))]; rfl) | exact (ft_long hno (by omega) (by assumption) (by rw [htr]; omega)).1.symm | (rw [hvb]; first | exact (ft_yes hno (by omega) (by assumption) (by rw [htr]; omega)).1.symm | exact htr.symm.trans (ft_yes hno (by omega) (by assumption) (by rw [htr]; omega)).1.symm) | exact (ft_none hno (by omega)).1.symm | (exfalso; exact absurd (by assumption : xa4.getD ((foundL a0 xa3 xa2).getD k (0, 0, 0, 0)).1.toNat false = true) (by rw [(by assumption : xa4.getD ((foundL a0 xa3 xa2).getD k (0, 0, 0, 0)).1.toNat false = false)]; decide))))
        · skip
          first | (rw [(Bool.eq_false_iff.2 (treesB_no (by assumption)))]; rfl) | exact (ft_long hno (by omega) (by assumption) (by rw [htr]; omega)).2.symm | (rw [hvb]; first | exact (ft_yes hno (by omega) (by assumption) (by rw [htr]; omega)).2.symm | exact htr.symm.trans (ft_yes hno (by omega) (by assumption) (by rw [htr]; omega)).2.symm) | exact (ft_none hno (by omega)).2.symm | (exfalso; exact absurd (by assumption : xa4.getD ((foundL a0 xa3 xa2).getD k (0, 0, 0, 0)).1.toNat false = true) (by rw [(by assumption : xa4.getD ((foundL a0 xa3 xa2).getD k (0, 0, 0, 0)).1.toNat false = false)]; decide))
      try simp only [nq] at hc6
      refine CW.skipS ?_
      refine CW.seq ?_
      refine CW.seq ?_
      refine CW.reg ?_
      refine WL.pure rfl rfl rfl (PV.fieldAddr T.fl72_4 rfl hb1.cells) ?_
      refine WL.pure rfl rfl rfl (PV.load1 T.na62 rfl hb1.cells (Ext.refl _) rfl) ?_
      refine WL.pure rfl rfl rfl (PV.fieldAddr T.fl167_0 rfl hb7.cells) ?_
      refine WL.pure rfl rfl rfl (PV.load1 T.na2 rfl hb7.cells (Ext.refl _) rfl) ?_
      first
        | refine WL.at (x := .tmp 50) (y := .tmp 52) (E := EB) (false) rfl rfl (by first | assumption | exact Inn.rd (by assumption) (by omega)) (by first | omega | (simp only [List.length_set]; omega) | (simp only [List.length_append, List.length_take, List.length_replicate, List.length_drop]; omega)) (fun p6 csp6 hpp6 hcp6 hq => ?_)
        | refine WL.atZ (x := .tmp 50) (y := .tmp 52) (E := EB) (false) rfl rfl (by first | assumption | exact Inn.rd (by assumption) (by omega)) (by first | omega | (simp only [List.length_set]; omega) | (simp only [List.length_append, List.length_take, List.length_replicate, List.length_drop]; omega)) (fun p6 csp6 hpp6 hzp6 hcp6 hq => ?_)
      cases hq
      refine WL.pure rfl rfl rfl ((by first | exact PV.indexAddr hpp6 rfl rfl T.sl62 | exact PV.indexAddr hpp6 rfl (by rw [← hzp6]; rfl) T.sl62)) ?_
      refine WL.pure rfl rfl rfl ((by first | exact PV.load0 T.na4 rfl (by first | exact Cells.up (by assumption) hB | exact Bx.cells (by assumption) | assumption) (Ext.refl _) rfl | exact PV.load1 T.na4 rfl (by first | exact Cells.up (by assumption) hB | exact Bx.cells (by assumption) | assumption) (Ext.refl _) rfl)) ?_
      refine WL.nilS ?_
      refine CW.cond rfl (fun hc7 => ?_) (fun hc7 => ?_)
      · skip
        try simp only [nq] at hc7
        refine CW.seq ?_
        refine CW.reg ?_
        refine WL.mv rfl rfl ?_
        refine WL.asg rfl rfl ?_
        refine WL.asg rfl rfl ?_
        refine WL.nilS ?_
        refine CW.ret ?_
        refine RQ.then ?_
        refine RQ.block ?_
        refine RQ.then ?_
        refine RQ.then ?_
        refine RQ.block ?_
        refine RQ.then ?_
        refine RQ.r2 rfl rfl ?_
        refine ⟨hB, rv2, og10, ?_, osE ho10 ?_, hl10⟩
        · skip
          exact tE2 rfl (bE (by first | (rw [(Bool.eq_false_iff.2 (treesB_no (by assumption)))]; rfl) | exact (ft_long hno (by omega) (by assumption) (by rw [htr]; omega)).1.symm | (rw [hvb]; first | exact (ft_yes hno (by omega) (by assumption) (by rw [htr]; omega)).1.symm | exact htr.symm.trans (ft_yes hno (by omega) (by assumption) (by rw [htr]; omega)).1.symm) | exact (ft_none hno (by omega)).1.symm | (exfalso; exact absurd (by assumption : xa4.getD ((foundL a0 xa3 xa2).getD k (0, 0, 0, 0)).1.toNat false = true) (by rw [(by assumption : xa4.getD ((foundL a0 xa3 xa2).getD k (0, 0, 0, 0)).1.toNat false = false)]; decide))))
        · skip
          first | (rw [(Bool.eq_false_iff.2 (treesB_no (by assumption)))]; rfl) | exact (ft_long hno (by omega) (by assumption) (by rw [htr]; omega)).2.symm | (rw [hvb]; first | exact (ft_yes hno (by omega) (by assumption) (by rw [htr]; omega)).2.symm | exact htr.symm.trans (ft_yes hno (by omega) (by assumption) (by rw [htr]; omega)).2.symm) | exact (ft_none hno (by omega)).2.symm | (exfalso; exact absurd (by assumption : xa4.getD ((foundL a0 xa3 xa2).getD k (0, 0, 0, 0)).1.toNat false = true) (by rw [(by assumption : xa4.getD ((foundL a0 xa3 xa2).getD k (0, 0, 0, 0)).1.toNat false = false)]; decide))
      try simp only [nq] at hc7
      refine CW.skipS ?_
      refine CW.reg ?_
      refine WL.mv rfl rfl ?_
      refine WL.mv rfl rfl ?_
      refine WL.op rfl (OpK.buildS VV (os := [.tmp 57]) [_] rfl T.sl25 rfl rfl T.zv28 rfl (by intro z hz; first | rfl | (simp only [List.mem_cons, List.not_mem_nil, or_false] at hz; subst hz; exact (by first | exact Rd.cells1 (by assumption) | exact Osl.cells1 (by assumption) | exact Osn.cells1 (by assumption) | exact Rd.cells1 (NL.rd (by assumption)) | exact Inn.cell1 (by assumption) (by omega) | assumption | rfl))) rfl (fun v14 g14 w13 hXw13 ho14 hge14 => ?_))
      have hl14 := Lo.new hB hge14
      have hd1_14 := Dj.new hb1.ltO hge14
      have hd3_14 := Dj.new ho3.ltO hge14
      have hd6_14 := DI.new hn6 hge14
      have hd5_14 := Dj.new ho5.ltO hge14
      have hd7_14 := Dj.new hb7.ltO hge14
      have hd8_14 := Dj.new ho8.ltO hge14
      have hd9_14 := Dj.new ho9.ltO hge14
      have hd10_14 := Dj.new ho10.ltO hge14
      have hk0_14 := OkN.new hU0 hge14
      have hg0_14 := OgR.new hU0.size hge14
      have hB := hB.trans hXw13
      have hb1 := hb1.up hXw13
      have ho3 := ho3.up hXw13
      have hn6 := hn6.up hXw13
      have ho5 := ho5.up hXw13
      have hb7 := hb7.up hXw13
      have ho8 := ho8.up hXw13
      have ho9 := ho9.up hXw13
      have ho10 := ho10.up hXw13
      have hU0 := hU0.ext hXw13
      refine WL.op rfl (OpK.appendS (f := VV) rfl T.sl25 T.zv28 rfl rfl ho5 rfl (Osl.srcM ho14 (one_mem (Osl.oneCell ho10))) (by first | (simp only [List.length_cons, List.length_nil]; omega) | (simp_all; omega)) (fun v15 og15 w14 hXw14 ho15 hap15 => ?_))
      have hn16 := Inn.put hn6 ho10 hd6_10
      have hl16 := LoI.put hl6 hl10
      have hz0_16 := BlR.put hz0_6 hg0_10
      have hd1_16 := DI.put hd1_6 (Dj.symm hd1_10)
      have hd3_16 := DI.put hd3_6 (Dj.symm hd3_10)
      have hd5_16 := DI.put hd5_6 (Dj.symm hd5_10)
      have hd7_16 := DI.put hd6_7 (Dj.symm hd7_10)
      have hd8_16 := DI.put hd6_8 (Dj.symm hd8_10)
      have hd9_16 := DI.put hd6_9 (Dj.symm hd9_10)
      have hd14_16 := DI.put hd6_14 hd10_14
      have hnp16 := hn16
      have hl15 := Lo.app hl5 hB hap15
      have hd1_15 := Dj.app hd1_5 hb1.ltO hap15
      have hd3_15 := Dj.app hd3_5 ho3.ltO hap15
      have hd7_15 := Dj.app (Dj.symm hd5_7) hb7.ltO hap15
      have hd8_15 := Dj.app (Dj.symm hd5_8) ho8.ltO hap15
      have hd9_15 := Dj.app (Dj.symm hd5_9) ho9.ltO hap15
      have hd14_15 := Dj.app (Dj.symm hd5_14) ho14.ltO hap15
      have hd15_16 := DI.app hd5_16 hn16 hap15
      have hk0_15 := OkN.app hU0 hk0_5 hap15
      have hg0_15 := OgR.app hg0_5 hU0.size hap15
      have hB := hB.updL hXw14 hl5
      have hb1 := hb1.updD hXw14 hd1_5
      have ho3 := ho3.updD hXw14 hd3_5
      have hb7 := hb7.updD hXw14 (Dj.symm hd5_7)
      have ho8 := ho8.updD hXw14 (Dj.symm hd5_8)
      have ho9 := ho9.updD hXw14 (Dj.symm hd5_9)
      have ho14 := ho14.updD hXw14 (Dj.symm hd5_14)
      have hn16 := hn16.updD hXw14 hd5_16
      have hU0 := hU0.step hXw14 hk0_5
      refine WL.asg rfl rfl ?_
      refine WL.nil ?_
      refine NQ.block ?_
      refine NQ.then ?_
      refine CW.reg ?_
      refine WL.pure rfl rfl rfl (PV.add rfl rfl (by constructor <;> omega)) ?_
      refine WL.mv rfl rfl ?_
      refine WL.nil ?_
      refine NQ.next (ρ := [(4, _), (15, _)]) ⟨rfl, rfl, rfl, rfl, rfl, trivial⟩ ?_
      exact ⟨_, ⟨v15, og15, _, (os5 ++ [og10]), k + 1, rfl, rfl, hU0, ho15, (by first | exact hg0_15 | exact OgR.weak hg0_15), innE hn16 (by rw [tr_put (by omega), htr]), (by first | exact hz0_16 | exact BlR.weak hz0_16), hd15_16, (by first | omega | assumption | (simp_all; done) | (simp_all; omega)), (by exact hno.succ (by assumption))⟩, by omega⟩
    try simp only [nq] at hc3
    have htr := tr_pos (l := foundL a0 xa3 xa2) (k := k) (by omega) (by omega)
    refine CW.skipS ?_
    refine CW.seq ?_
    refine CW.seq ?_
    refine CW.reg ?_
    refine WL.pure rfl rfl rfl (PV.fieldAddr T.fl72_4 rfl hb1.cells) ?_
    refine WL.pure rfl rfl rfl (PV.load1 T.na62 rfl hb1.cells (Ext.refl _) rfl) ?_
    refine WL.pure rfl rfl rfl (PV.fieldAddr T.fl167_0 rfl hb7.cells) ?_
    refine WL.pure rfl rfl rfl (PV.load1 T.na2 rfl hb7.cells (Ext.refl _) rfl) ?_
    first
      | refine WL.at (x := .tmp 39) (y := .tmp 41) (E := EB) (false) rfl rfl (by first | assumption | exact Inn.rd (by assumption) (by omega)) (by first | omega | (simp only [List.length_set]; omega) | (simp only [List.length_append, List.length_take, List.length_replicate, List.length_drop]; omega)) (fun p7 csp7 hpp7 hcp7 hq => ?_)
      | refine WL.atZ (x := .tmp 39) (y := .tmp 41) (E := EB) (false) rfl rfl (by first | assumption | exact Inn.rd (by assumption) (by omega)) (by first | omega | (simp only [List.length_set]; omega) | (simp only [List.length_append, List.length_take, List.length_replicate, List.length_drop]; omega)) (fun p7 csp7 hpp7 hzp7 hcp7 hq => ?_)
    cases hq
    refine WL.pure rfl rfl rfl ((by first | exact PV.indexAddr hpp7 rfl rfl T.sl62 | exact PV.indexAddr hpp7 rfl (by rw [← hzp7]; rfl) T.sl62)) ?_
    refine WL.pure rfl rfl rfl ((by first | exact PV.load0 T.na4 rfl (by first | exact Cells.up (by assumption) hB | exact Bx.cells (by assumption) | assumption) (Ext.refl _) rfl | exact PV.load1 T.na4 rfl (by first | exact Cells.up (by assumption) hB | exact Bx.cells (by assumption) | assumption) (Ext.refl _) rfl)) ?_
    refine WL.mv rfl rfl ?_
    refine WL.split (t := 44) rfl (fun hc8 => ?_) (fun hc8 => ?_)
    rotate_left
    · skip
      try simp only [nq] at hc8
      refine WL.skip rfl rfl rfl rfl rfl ?_
      refine WL.skip rfl rfl rfl rfl rfl ?_
      refine WL.skip rfl rfl rfl rfl rfl ?_
      refine WL.pure rfl rfl rfl (PV.pickF rfl rfl) ?_
      refine WL.nilS ?_
      refine CW.condF rfl ?_
      refine CW.skipS ?_
      refine CW.seq ?_
      refine CW.seq ?_
      refine CW.reg ?_
      refine WL.pure rfl rfl rfl (PV.fieldAddr T.fl72_4 rfl hb1.cells) ?_
      refine WL.pure rfl rfl rfl (PV.load1 T.na62 rfl hb1.cells (Ext.refl _) rfl) ?_
      refine WL.pure rfl rfl rfl (PV.fieldAddr T.fl167_0 rfl hb7.cells) ?_
      refine WL.pure rfl rfl rfl (PV.load1 T.na2 rfl hb7.cells (Ext.refl _) rfl) ?_
      first
        | refine WL.at (x := .tmp 50) (y := .tmp 52) (E := EB) (false) rfl rfl (by first | assumption | exact Inn.rd (by assumption) (by omega)) (by first | omega | (simp only [List.length_set]; omega) | (simp only [List.length_append, List.length_take, List.length_replicate, List.length_drop]; omega)) (fun p8 csp8 hpp8 hcp8 hq => ?_)
        | refine WL.atZ (x := .tmp 50) (y := .tmp 52) (E := EB) (false) rfl rfl (by first | assumption | exact Inn.rd (by assumption) (by omega)) (by first | omega | (simp only [List.length_set]; omega) | (simp only [List.length_append, List.length_take, List.length_replicate, List.length_drop]; omega)) (fun p8 csp8 hpp8 hzp8 hcp8 hq => ?_)
      cases hq
      refine WL.pure rfl rfl rfl ((by first | exact PV.indexAddr hpp8 rfl rfl T.sl62 | exact PV.indexAddr hpp8 rfl (by rw [← hzp8]; rfl) T.sl62)) ?_
      refine WL.pure rfl rfl rfl ((by first | exact PV.load0 T.na4 rfl (by first | exact Cells.up (by assumption) hB | exact Bx.cells (by assumption) | assumption) (Ext.refl _) rfl | exact PV.load1 T.na4 rfl (by first | exact Cells.up (by assumption) hB | exact Bx.cells (by assumption) | assumption) (Ext.refl _) rfl)) ?_
      refine WL.nilS ?_
      refine CW.cond rfl (fun hc9 => ?_) (fun hc9 => ?_)
      · skip
        try simp only [nq] at hc9
        refine CW.seq ?_
        refine CW.reg ?_
        refine WL.mv rfl rfl ?_
        refine WL.asg rfl rfl ?_
        refine WL.asg rfl rfl ?_
        refine WL.nilS ?_
        refine CW.ret ?_
        refine RQ.then ?_
        refine RQ.block ?_
        refine RQ.then ?_
        refine RQ.then ?_
        refine RQ.block ?_
        refine RQ.then ?_
        refine RQ.r2 rfl rfl ?_
        refine ⟨hB, v8, (some g8), ?_, osE ho8 ?_, hl8⟩
        · skip
          exact tE2 rfl (bE (by first | (rw [(Bool.eq_false_iff.2 (treesB_no (by assumption)))]; rfl) | exact (ft_long hno (by omega) (by assumption) (by rw [htr]; omega)).1.symm | (rw [hvb]; first | exact (ft_yes hno (by omega) (by assumption) (by rw [htr]; omega)).1.symm | exact htr.symm.trans (ft_yes hno (by omega) (by assumption) (by rw [htr]; omega)).1.symm) | exact (ft_none hno (by omega)).1.symm | (exfalso; exact absurd (by assumption : xa4.getD ((foundL a0 xa3 xa2).getD k (0, 0, 0, 0)).1.toNat false = true) (by rw [(by assumption : xa4.getD ((foundL a0 xa3 xa2).getD k (0, 0, 0, 0)).1.toNat false = false)]; decide))))
        · skip
          first | (rw [(Bool.eq_false_iff.2 (treesB_no (by assumption)))]; rfl) | exact (ft_long hno (by omega) (by assumption) (by rw [htr]; omega)).2.symm | (rw [hvb]; first | exact (ft_yes hno (by omega) (by assumption) (by rw [htr]; omega)).2.symm | exact htr.symm.trans (ft_yes hno (by omega) (by assumption) (by rw [htr]; omega)).2.symm) | exact (ft_none hno (by omega)).2.symm | (exfalso; exact absurd (by assumption : xa4.getD ((foundL a0 xa3 xa2).getD k (0, 0, 0, 0)).1.toNat false = true) (by rw [(by assumption : xa4.getD ((foundL a0 xa3 xa2).getD k (0, 0, 0, 0)).1.toNat false = false)]; decide))
      try simp only [nq] at hc9
      refine CW.skipS ?_
      refine CW.reg ?_
      refine WL.mv rfl rfl ?_
      refine WL.mv rfl rfl ?_
      refine WL.op rfl (OpK.buildS VV (os := [.tmp 57]) [_] rfl T.sl25 rfl rfl T.zv28 rfl (by intro z hz; first | rfl | (simp only [List.mem_cons, List.not_mem_nil, or_false] at hz; subst hz; exact (by first | exact Rd.cells1 (by assumption) | exact Osl.cells1 (by assumption) | exact Osn.cells1 (by assumption) | exact Rd.cells1 (NL.rd (by assumption)) | exact Inn.cell1 (by assumption) (by omega) | assumption | rfl))) rfl (fun v17 g17 w15 hXw15 ho17 hge17 => ?_))
      have hl17 := Lo.new hB hge17
      have hd1_17 := Dj.new hb1.ltO hge17
      have hd3_17 := Dj.new ho3.ltO hge17
      have hd6_17 := DI.new hn6 hge17
      have hd5_17 := Dj.new ho5.ltO hge17
      have hd7_17 := Dj.new hb7.ltO hge17
      have hd8_17 := Dj.new ho8.ltO hge17
      have hk0_17 := OkN.new hU0 hge17
      have hg0_17 := OgR.new hU0.size hge17
      have hB := hB.trans hXw15
      have hb1 := hb1.up hXw15
      have ho3 := ho3.up hXw15
      have hn6 := hn6.up hXw15
      have ho5 := ho5.up hXw15
      have hb7 := hb7.up hXw15
      have ho8 := ho8.up hXw15
      have hU0 := hU0.ext hXw15
      refine WL.op rfl (OpK.appendS (f := VV) rfl T.sl25 T.zv28 rfl rfl ho5 rfl (Osl.srcM ho17 (one_mem (Osl.oneCell ho8))) (by first | (simp only [List.length_cons, List.length_nil]; omega) | (simp_all; omega)) (fun v18 og18 w16 hXw16 ho18 hap18 => ?_))
      have hn19 := Inn.put hn6 ho8 hd6_8
      have hl19 := LoI.put hl6 hl8
      have hz0_19 := BlR.put hz0_6 hg0_8
      have hd1_19 := DI.put hd1_6 (Dj.symm hd1_8)
      have hd3_19 := DI.put hd3_6 (Dj.symm hd3_8)
      have hd5_19 := DI.put hd5_6 (Dj.symm hd5_8)
      have hd7_19 := DI.put hd6_7 (Dj.symm hd7_8)
      have hd17_19 := DI.put hd6_17 hd8_17
      have hnp19 := hn19
      have hl18 := Lo.app hl5 hB hap18
      have hd1_18 := Dj.app hd1_5 hb1.ltO hap18
      have hd3_18 := Dj.app hd3_5 ho3.ltO hap18
      have hd7_18 := Dj.app (Dj.symm hd5_7) hb7.ltO hap18
      have hd17_18 := Dj.app (Dj.symm hd5_17) ho17.ltO hap18
      have hd18_19 := DI.app hd5_19 hn19 hap18
      have hk0_18 := OkN.app hU0 hk0_5 hap18
      have hg0_18 := OgR.app hg0_5 hU0.size hap18
      have hB := hB.updL hXw16 hl5
      have hb1 := hb1.updD hXw16 hd1_5
      have ho3 := ho3.updD hXw16 hd3_5
      have hb7 := hb7.updD hXw16 (Dj.symm hd5_7)
      have ho17 := ho17.updD hXw16 (Dj.symm hd5_17)
      have hn19 := hn19.updD hXw16 hd5_19
      have hU0 := hU0.step hXw16 hk0_5
      refine WL.asg rfl rfl ?_
      refine WL.nil ?_
      refine NQ.block ?_
      refine NQ.then ?_
      refine CW.reg ?_
      refine WL.pure rfl rfl rfl (PV.add rfl rfl (by constructor <;> omega)) ?_
      refine WL.mv rfl rfl ?_
      refine WL.nil ?_
      refine NQ.next (ρ := [(4, _), (15, _)]) ⟨rfl, rfl, rfl, rfl, rfl, trivial⟩ ?_
      exact ⟨_, ⟨v18, og18, _, (os5 ++ [(some g8)]), k + 1, rfl, rfl, hU0, ho18, (by first | exact hg0_18 | exact OgR.weak hg0_18), innE hn19 (by rw [tr_put (by omega), htr]), (by first | exact hz0_19 | exact BlR.weak hz0_19), hd18_19, (by first | omega | assumption | (simp_all; done) | (simp_all; omega)), (by exact hno.succ (by assumption))⟩, by omega⟩
    try simp only [nq] at hc8
    refine WL.pureG rfl rfl rfl rfl rfl (PV.move rfl) ?_
    refine WL.pureG rfl rfl rfl rfl rfl ((PV.lenOs rfl ho8 T.sl28)) ?_
    refine WL.pureG rfl rfl rfl rfl rfl (PV.gtr rfl rfl) ?_
    refine WL.pure rfl rfl rfl (PV.pickT rfl rfl) ?_
    refine WL.nilS ?_
    refine CW.cond rfl (fun hc10 => ?_) (fun hc10 => ?_)
    · skip
      try simp only [nq] at hc10
      refine CW.seq ?_
      refine CW.reg ?_
      refine WL.asg rfl rfl ?_
      refine WL.asg rfl rfl ?_
      refine WL.nilS ?_
      refine CW.ret ?_
      refine RQ.then ?_
      refine RQ.block ?_
      refine RQ.then ?_
      refine RQ.then ?_
      refine RQ.block ?_
      refine RQ.then ?_
      refine RQ.r2 rfl rfl ?_
      refine ⟨hB, (.slice none 0 0), none, ?_, osE (Osl.nil _ _) ?_, Lo.nl _⟩
      · skip
        exact tE2 rfl (bE (by first | (rw [(Bool.eq_false_iff.2 (treesB_no (by assumption)))]; rfl) | exact (ft_long hno (by omega) (by assumption) (by rw [htr]; omega)).1.symm | (rw [hvb]; first | exact (ft_yes hno (by omega) (by assumption) (by rw [htr]; omega)).1.symm | exact htr.symm.trans (ft_yes hno (by omega) (by assumption) (by rw [htr]; omega)).1.symm) | exact (ft_none hno (by omega)).1.symm | (exfalso; exact absurd (by assumption : xa4.getD ((foundL a0 xa3 xa2).getD k (0, 0, 0, 0)).1.toNat false = true) (by rw [(by assumption : xa4.getD ((foundL a0 xa3 xa2).getD k (0, 0, 0, 0)).1.toNat false = false)]; decide))))
      · skip
        first | (rw [(Bool.eq_false_iff.2 (treesB_no (by assumption)))]; rfl) | exact (ft_long hno (by omega) (by assumption) (by rw [htr]; omega)).2.symm | (rw [hvb]; first | exact (ft_yes hno (by omega) (by assumption) (by rw [htr]; omega)).2.symm | exact htr.symm.trans (ft_yes hno (by omega) (by assumption) (by rw [htr]; omega)).2.symm) | exact (ft_none hno (by omega)).2.symm | (exfalso; exact absurd (by assumption : xa4.getD ((foundL a0 xa3 xa2).getD k (0, 0, 0, 0)).1.toNat false = true) (by rw [(by assumption : xa4.getD ((foundL a0 xa3 xa2).getD k (0, 0, 0, 0)).1.toNat false = false)]; decide))
    try simp only [nq] at hc10
    refine CW.skipS ?_
    refine CW.seq ?_
    refine CW.seq ?_
    refine CW.reg ?_
    refine WL.pure rfl rfl rfl (PV.fieldAddr T.fl72_4 rfl hb1.cells) ?_
    refine WL.pure rfl rfl rfl (PV.load1 T.na62 rfl hb1.cells (Ext.refl _) rfl) ?_
    refine WL.pure rfl rfl rfl (PV.fieldAddr T.fl167_0 rfl hb7.cells) ?_
    refine WL.pure rfl rfl rfl (PV.load1 T.na2 rfl hb7.cells (Ext.refl _) rfl) ?_
    first
      | refine WL.at (x := .tmp 50) (y := .tmp 52) (E := EB) (false) rfl rfl (by first | assumption | exact Inn.rd (by assumption) (by omega)) (by first | omega | (simp only [List.length_set]; omega) | (simp only [List.length_append, List.length_take, List.length_replicate, List.length_drop]; omega)) (fun p9 csp9 hpp9 hcp9 hq => ?_)
      | refine WL.atZ (x := .tmp 50) (y := .tmp 52) (E := EB) (false) rfl rfl (by first | assumption | exact Inn.rd (by assumption) (by omega)) (by first | omega | (simp only [List.length_set]; omega) | (simp only [List.length_append, List.length_take, List.length_replicate, List.length_drop]; omega)) (fun p9 csp9 hpp9 hzp9 hcp9 hq => ?_)
    cases hq
    refine WL.pure rfl rfl rfl ((by first | exact PV.indexAddr hpp9 rfl rfl T.sl62 | exact PV.indexAddr hpp9 rfl (by rw [← hzp9]; rfl) T.sl62)) ?_
    refine WL.pure rfl rfl rfl ((by first | exact PV.load0 T.na4 rfl (by first | exact Cells.up (by assumption) hB | exact Bx.cells (by assumption) | assumption) (Ext.refl _) rfl | exact PV.load1 T.na4 rfl (by first | exact Cells.up (by assumption) hB | exact Bx.cells (by assumption) | assumption) (Ext.refl _) rfl)) ?_
    refine WL.nilS ?_
    refine CW.cond rfl (fun hc11 => ?_) (fun hc11 => ?_)
    · skip
      try simp only [nq] at hc11
      refine CW.seq ?_
      refine CW.reg ?_
      refine WL.mv rfl rfl ?_
      refine WL.asg rfl rfl ?_
      refine WL.asg rfl rfl ?_
      refine WL.nilS ?_
      refine CW.ret ?_
      refine RQ.then ?_
      refine RQ.block ?_
      refine RQ.then ?_
      refine RQ.then ?_
      refine RQ.block ?_
      refine RQ.then ?_
      refine RQ.r2 rfl rfl ?_
      refine ⟨hB, v8, (some g8), ?_, osE ho8 ?_, hl8⟩
      · skip
        exact tE2 rfl (bE (by first | (rw [(Bool.eq_false_iff.2 (treesB_no (by assumption)))]; rfl) | exact (ft_long hno (by omega) (by assumption) (by rw [htr]; omega)).1.symm | (rw [hvb]; first | exact (ft_yes hno (by omega) (by assumption) (by rw [htr]; omega)).1.symm | exact htr.symm.trans (ft_yes hno (by omega) (by assumption) (by rw [htr]; omega)).1.symm) | exact (ft_none hno (by omega)).1.symm | (exfalso; exact absurd (by assumption : xa4.getD ((foundL a0 xa3 xa2).getD k (0, 0, 0, 0)).1.toNat false = true) (by rw [(by assumption : xa4.getD ((foundL a0 xa3 xa2).getD k (0, 0, 0, 0)).1.toNat false = false)]; decide))))
      · skip
        first | (rw [(Bool.eq_false_iff.2 (treesB_no (by assumption)))]; rfl) | exact (ft_long hno (by omega) (by assumption) (by rw [htr]; omega)).2.symm | (rw [hvb]; first | exact (ft_yes hno (by omega) (by assumption) (by rw [htr]; omega)).2.symm | exact htr.symm.trans (ft_yes hno (by omega) (by assumption) (by rw [htr]; omega)).2.symm) | exact (ft_none hno (by omega)).2.symm | (exfalso; exact absurd (by assumption : xa4.getD ((foundL a0 xa3 xa2).getD k (0, 0, 0, 0)).1.toNat false = true) (by rw [(by assumption : xa4.getD ((foundL a0 xa3 xa2).getD k (0, 0, 0, 0)).1.toNat false = false)]; decide))
    try simp only [nq] at hc11
    refine CW.skipS ?_
    refine CW.reg ?_
    refine WL.mv rfl rfl ?_
    refine WL.mv rfl rfl ?_
    refine WL.op rfl (OpK.buildS VV (os := [.tmp 57]) [_] rfl T.sl25 rfl rfl T.zv28 rfl (by intro z hz; first | rfl | (simp only [List.mem_cons, List.not_mem_nil, or_false] at hz; subst hz; exact (by first | exact Rd.cells1 (by assumption) | exact Osl.cells1 (by assumption) | exact Osn.cells1 (by assumption) | exact Rd.cells1 (NL.rd (by assumption)) | exact Inn.cell1 (by assumption) (by omega) | assumption | rfl))) rfl (fun v20 g20 w17 hXw17 ho20 hge20 => ?_))
    have hl20 := Lo.new hB hge20
    have hd1_20 := Dj.new hb1.ltO hge20
    have hd3_20 := Dj.new ho3.ltO hge20
    have hd6_20 := DI.new hn6 hge20
    have hd5_20 := Dj.new ho5.ltO hge20
    have hd7_20 := Dj.new hb7.ltO hge20
    have hd8_20 := Dj.new ho8.ltO hge20
    have hk0_20 := OkN.new hU0 hge20
    have hg0_20 := OgR.new hU0.size hge20
    have hB := hB.trans hXw17
    have hb1 := hb1.up hXw17
    have ho3 := ho3.up hXw17
    have hn6 := hn6.up hXw17
    have ho5 := ho5.up hXw17
    have hb7 := hb7.up hXw17
    have ho8 := ho8.up hXw17
    have hU0 := hU0.ext hXw17
    refine WL.op rfl (OpK.appendS (f := VV) rfl T.sl25 T.zv28 rfl rfl ho5 rfl (Osl.srcM ho20 (one_mem (Osl.oneCell ho8))) (by first | (simp only [List.length_cons, List.length_nil]; omega) | (simp_all; omega)) (fun v21 og21 w18 hXw18 ho21 hap21 => ?_))
    have hn22 := Inn.put hn6 ho8 hd6_8
    have hl22 := LoI.put hl6 hl8
    have hz0_22 := BlR.put hz0_6 hg0_8
    have hd1_22 := DI.put hd1_6 (Dj.symm hd1_8)
    have hd3_22 := DI.put hd3_6 (Dj.symm hd3_8)
    have hd5_22 := DI.put hd5_6 (Dj.symm hd5_8)
    have hd7_22 := DI.put hd6_7 (Dj.symm hd7_8)
    have hd20_22 := DI.put hd6_20 hd8_20
    have hnp22 := hn22
    have hl21 := Lo.app hl5 hB hap21
    have hd1_21 := Dj.app hd1_5 hb1.ltO hap21
    have hd3_21 := Dj.app hd3_5 ho3.ltO hap21
    have hd7_21 := Dj.app (Dj.symm hd5_7) hb7.ltO hap21
    have hd20_21 := Dj.app (Dj.symm hd5_20) ho20.ltO hap21
    have hd21_22 := DI.app hd5_22 hn22 hap21
    have hk0_21 := OkN.app hU0 hk0_5 hap21
    have hg0_21 := OgR.app hg0_5 hU0.size hap21
    have hB := hB.updL hXw18 hl5
    have hb1 := hb1.updD hXw18 hd1_5
    have ho3 := ho3.updD hXw18 hd3_5
    have hb7 := hb7.updD hXw18 (Dj.symm hd5_7)
    have ho20 := ho20.updD hXw18 (Dj.symm hd5_20)
    have hn22 := hn22.updD hXw18 hd5_22
    have hU0 := hU0.step hXw18 hk0_5
    refine WL.asg rfl rfl ?_
    refine WL.nil ?_
    refine NQ.block ?_
    refine NQ.then ?_
    refine CW.reg ?_
    refine WL.pure rfl rfl rfl (PV.add rfl rfl (by constructor <;> omega)) ?_
    refine WL.mv rfl rfl ?_
    refine WL.nil ?_
    refine NQ.next (ρ := [(4, _), (15, _)]) ⟨rfl, rfl, rfl, rfl, rfl, trivial⟩ ?_
    exact ⟨_, ⟨v21, og21, _, (os5 ++ [(some g8)]), k + 1, rfl, rfl, hU0, ho21, (by first | exact hg0_21 | exact OgR.weak hg0_21), innE hn22 (by rw [tr_put (by omega), htr]), (by first | exact hz0_22 | exact BlR.weak hz0_22), hd21_22, (by first | omega | assumption | (simp_all; done) | (simp_all; omega)), (by exact hno.succ (by assumption))⟩, by omega⟩
  try simp only [nq] at hc2
  refine CW.exit ?_
  refine XQ.then ?_
  refine XQ.then ?_
  refine XQ.here ?_
  refine NQ.then ?_
  refine CW.seq ?_
  refine CW.reg ?_
  refine WL.asg rfl rfl ?_
  refine WL.asg rfl rfl ?_
  refine WL.nilS ?_
  refine CW.ret ?_
  refine RQ.r2 rfl rfl ?_
  refine ⟨hB, (.slice none 0 0), none, ?_, osE (Osl.nil _ _) ?_, Lo.nl _⟩
  · skip
    exact tE2 rfl (bE (by first | (rw [(Bool.eq_false_iff.2 (treesB_no (by assumption)))]; rfl) | exact (ft_long hno (by omega) (by assumption) (by rw [htr]; omega)).1.symm | (rw [hvb]; first | exact (ft_yes hno (by omega) (by assumption) (by rw [htr]; omega)).1.symm | exact htr.symm.trans (ft_yes hno (by omega) (by assumption) (by rw [htr]; omega)).1.symm) | exact (ft_none hno (by omega)).1.symm | (exfalso; exact absurd (by assumption : xa4.getD ((foundL a0 xa3 xa2).getD k (0, 0, 0, 0)).1.toNat false = true) (by rw [(by assumption : xa4.getD ((foundL a0 xa3 xa2).getD k (0, 0, 0, 0)).1.toNat false = false)]; decide))))
  · skip
    first | (rw [(Bool.eq_false_iff.2 (treesB_no (by assumption)))]; rfl) | exact (ft_long hno (by omega) (by assumption) (by rw [htr]; omega)).2.symm | (rw [hvb]; first | exact (ft_yes hno (by omega) (by assumption) (by rw [htr]; omega)).2.symm | exact htr.symm.trans (ft_yes hno (by omega) (by assumption) (by rw [htr]; omega)).2.symm) | exact (ft_none hno (by omega)).2.symm | (exfalso; exact absurd (by assumption : xa4.getD ((foundL a0 xa3 xa2).getD k (0, 0, 0, 0)).1.toNat false = true) (by rw [(by assumption : xa4.getD ((foundL a0 xa3 xa2).getD k (0, 0, 0, 0)).1.toNat false = false)]; decide))

end Go.Proofs.Ythemmoceomdccaa
