/- Walks of the functions that the law FnParses reaches: each says what its function computes. No condition. -/
import Derived.Test.YthemmoceomdccaaProg
import Derived.Test.YthemmoceomdccaaLibM
import Derived.Test.YthemmoceomdccaaPlA
import Derived.Test.YthemmoceomdccaaLibN
import Derived.Test.YthemmoceomdccaaLibO
import Derived.Test.YthemmoceomdccaaLibG2
import Derived.Test.YthemmoceomdccaaPlG
import Derived.Test.YthemmoceomdccaaPlX
import Derived.Test.YthemmoceomdccaaLibR
import Derived.Test.YthemmoceomdccaaPlD
import Derived.Test.YthemmoceomdccaaPlB
import Derived.Test.YthemmoceomdccaaPlH
import Derived.Test.YthemmoceomdccaaPlI
import Derived.Test.YthemmoceomdccaaPlJ
import Derived.Test.YthemmoceomdccaaPlE
import Derived.Test.YthemmoceomdccaaPlC
import Derived.Test.YthemmoceomdccaaPlW
import Derived.Test.YthemmoceomdccaaPlU
import Derived.Test.YthemmoceomdccaaPlY
import Derived.Test.YthemmoceomdccaaPlR
import Derived.Test.YthemmoceomdccaaPlDq
import Derived.Test.YthemmoceomdccaaPlRa
import Derived.Test.YthemmoceomdccaaPlPa
import Derived.Test.YthemmoceomdccaaPlPb
import Derived.Test.YthemmoceomdccaaPlPc
import Derived.Test.YthemmoceomdccaaPlPd
import Derived.Test.YthemmoceomdccaaPlPe
import Derived.Test.YthemmoceomdccaaPlPf
import Derived.Test.YthemmoceomdccaaPlPg
import Derived.Test.YthemmoceomdccaaWFnParsesa
namespace Go.Proofs.Ythemmoceomdccaa
open Go Go.WX Go.Proofs
set_option linter.unusedSimpArgs false
set_option linter.unusedVariables false

set_option maxHeartbeats 4000000 in
theorem c_impl_Grammar_choices_1 {w : World} {b : World} {pg pq pw pc : Addr} {a0 : Int} {a1 : Int} {va2 : Value} {xa2 : List R4} {vw : Value} {xs ys : List Int} {i L : Nat} (hB0 : Ext b w) (htb_pc : Bx w pc (List.map VI (ys))) (htl_pc : Lo b (some pc.block)) (htb_pg : Bx w pg [.int .i64 a0, .int .i64 a1, va2]) (htb_pq : Bx w pq [.pointer (some pc)]) (htb_pw : Bx w pw [vw]) (htd_pg_pc : Dj (some pg.block) (some pc.block)) (htd_pq_pc : Dj (some pq.block) (some pc.block)) (htd_pw_pc : Dj (some pw.block) (some pc.block)) (ha2 : Rd ER b va2 xa2) (hw : Rd EI b vw xs) (hg : gramV a0 a1 xa2) (h12 : 1 ≤ xs.length ∧ xs.length ≤ 12) (hTb : TCT 1099511627776 xa2 xs a0 ys L i) (hL : 1 ≤ L ∧ i + L ≤ xs.length) : Calls Try.prog 196 #[.int .i64 (i : Nat), .int .i64 ((i + L : Nat) : Int), .pointer (some pq), .pointer (some pg), .pointer (some pw)] w (Ret1 (fun v w' => UpdL [some pc.block] w w' ∧ ∃ (zs : List Int), v = .tuple #[] ∧ (TCT 1099511627776 xa2 xs a0 zs L (i + 1)) ∧ Bx w' pc (List.map VI (zs)))) := by
  have hB := hB0
  have hla2 := ha2.leI; have hlw := hw.leI; have hg1 := hg.1; have hnn := hTb.1
  refine callsOf (vs := [_, _, _, _, _]) Try.func196 rfl Try.ntmps196 rfl rfl ?_
  have hUB : UpdL [(some pc.block)] w w := UpdL.refl _ _
  have hb1 := htb_pc
  have hl1 := htl_pc
  have hkB_1 : OkB [(some pc.block)] w (some pc.block) := OkB.mem (by simp)
  have hgB_1 := OgR.refl w (some pc.block)
  have hb2 := htb_pg
  have hd1_2 := Dj.symm htd_pg_pc
  have hb3 := htb_pq
  have hd1_3 := Dj.symm htd_pq_pc
  have hb4 := htb_pw
  have hd1_4 := Dj.symm htd_pw_pc
  refine CW.seq ?_
  refine CW.reg ?_
  refine WL.op rfl (OpK.box rfl rfl (by first | exact Rd.cells1 (by assumption) | exact Osl.cells1 (by assumption) | exact Osn.cells1 (by assumption) | exact Rd.cells1 (NL.rd (by assumption)) | exact Inn.cell1 (by assumption) (by omega) | assumption | rfl) (fun b5 w1 hXw1 hb5 hge5 => ?_))
  have hl5 := Lo.new hB hge5
  have hd1_5 := Dj.new hb1.ltO hge5
  have hd2_5 := Dj.new hb2.ltO hge5
  have hd3_5 := Dj.new hb3.ltO hge5
  have hd4_5 := Dj.new hb4.ltO hge5
  have hkB_5 := OkN.new hUB hge5
  have hgB_5 := OgR.new hUB.size hge5
  have hB := hB.trans hXw1
  have hb1 := hb1.up hXw1
  have hb2 := hb2.up hXw1
  have hb3 := hb3.up hXw1
  have hb4 := hb4.up hXw1
  have hUB := hUB.ext hXw1
  refine WL.op rfl (OpK.box rfl rfl (by first | exact Rd.cells1 (by assumption) | exact Osl.cells1 (by assumption) | exact Osn.cells1 (by assumption) | exact Rd.cells1 (NL.rd (by assumption)) | exact Inn.cell1 (by assumption) (by omega) | assumption | rfl) (fun b6 w2 hXw2 hb6 hge6 => ?_))
  have hl6 := Lo.new hB hge6
  have hd1_6 := Dj.new hb1.ltO hge6
  have hd2_6 := Dj.new hb2.ltO hge6
  have hd3_6 := Dj.new hb3.ltO hge6
  have hd4_6 := Dj.new hb4.ltO hge6
  have hd5_6 := Dj.new hb5.ltO hge6
  have hkB_6 := OkN.new hUB hge6
  have hgB_6 := OgR.new hUB.size hge6
  have hB := hB.trans hXw2
  have hb1 := hb1.up hXw2
  have hb2 := hb2.up hXw2
  have hb3 := hb3.up hXw2
  have hb4 := hb4.up hXw2
  have hb5 := hb5.up hXw2
  have hUB := hUB.ext hXw2
  refine WL.nilS ?_
  refine CW.seq ?_
  refine CW.seq ?_
  refine CW.reg ?_
  refine WL.mv rfl rfl ?_
  refine WL.nilS ?_
  refine CW.block ?_
  refine CW.loop (σk := [(2, _), (3, _), (4, _), (5, _), (6, _)]) (fun ρ wz m => ∃ (t : Nat) (ys1 : List Int), ρ = [(12, .int .i64 (t : Nat))] ∧ m = 8 - t ∧ UpdL [(some pc.block)] w2 wz ∧ Bx wz pc (List.map VI (ys1)) ∧ (t ≤ 8) ∧ (TN 1099511627776 xa2 xs a0 ys1 L i t)) (ρ₀ := [(12, _)]) (m₀ := _) ⟨rfl, rfl, rfl, rfl, rfl, rfl, trivial⟩ ⟨0, ys, rfl, rfl, (UpdL.refl _ _), bxM hb1 (by rfl), (by first | omega | rfl | (simp; done) | assumption | (simp_all; done)), (by exact TN.zero hTb)⟩ ?_
  rintro _ wl1 _ ⟨t, ys1, rfl, rfl, hU0, hb1, ht, hz⟩
  have hUB := hUB.trans hU0 ⟨hkB_1, trivial⟩
  have hb2 := hb2.loop hU0 ⟨(Dj.symm hd1_2), trivial⟩
  have hb3 := hb3.loop hU0 ⟨(Dj.symm hd1_3), trivial⟩
  have hb4 := hb4.loop hU0 ⟨(Dj.symm hd1_4), trivial⟩
  have hb5 := hb5.loop hU0 ⟨(Dj.symm hd1_5), trivial⟩
  have hb6 := hb6.loop hU0 ⟨(Dj.symm hd1_6), trivial⟩
  have hk0_1 : OkB [(some pc.block)] w2 (some pc.block) := OkB.mem (by simp)
  have hB := hB.loop hU0 ⟨hl1, trivial⟩
  have hzl := hz.l
  refine CW.seq ?_
  refine CW.reg ?_
  refine WL.pure rfl rfl rfl (PV.lss rfl rfl) ?_
  refine WL.nilS ?_
  refine CW.seq ?_
  refine CW.cond rfl (fun hc1 => ?_) (fun hc1 => ?_)
  · skip
    try simp only [nq] at hc1
    refine CW.skipS ?_
    refine CW.seq ?_
    refine CW.block ?_
    refine CW.seq ?_
    refine CW.reg ?_
    refine WL.mv rfl rfl ?_
    refine WL.asg rfl rfl ?_
    refine WL.nilS ?_
    refine CW.draw T.mixed (by kernel_rfl) (fun _ _ _ _ _ h => h) (fun w8 w9 => Upd none w8 w9) 9 (.take 0 (.take 1 (.take 2 (.take 3 (.take 4 (.take 5 (.take 6 (.take 7 (.take 8 (.must 9 .done)))))))))) (by kernel_rfl) (fun w3 hXd => ?_)
    have hB := hB.trans hXd
    have hb1 := hb1.up hXd
    have hb2 := hb2.up hXd
    have hb3 := hb3.up hXd
    have hb4 := hb4.up hXd
    have hb5 := hb5.up hXd
    have hb6 := hb6.up hXd
    have hUB := hUB.ext hXd
    have hU0 := hU0.ext hXd
    have hBr := hB
    have hS : Upd none w3 w3 := Ext.toUpd (Ext.refl _)
    refine HP.take rfl rfl rfl rfl hS (fun wS hS1 => PV.load0 T.na131 rfl (Bx.cells (Bx.updD (by assumption) hS1 (Dj.nlR _))) (Ext.refl _) rfl) ?_
    refine HP.take rfl rfl rfl rfl hS (fun wS hS1 => PV.load0 T.na3 rfl (Bx.cells (Bx.updD (by assumption) hS1 (Dj.nlR _))) (Ext.refl _) rfl) ?_
    refine HP.take rfl rfl rfl rfl hS (fun wS hS1 => PV.load0 T.na3 rfl (Bx.cells (Bx.updD (by assumption) hS1 (Dj.nlR _))) (Ext.refl _) rfl) ?_
    refine HP.take rfl rfl rfl rfl hS (fun wS hS1 => PV.move rfl) ?_
    refine HP.take rfl rfl rfl rfl hS (fun wS hS1 => PV.nilCheck rfl) ?_
    refine HP.take rfl rfl rfl rfl hS (fun wS hS1 => (by first | exact PV.ixN T.ar220 rfl hb1.spot rfl (by omega) | exact PV.ixZ T.ar220 rfl hb1.spot rfl (by omega))) ?_
    refine HP.take rfl rfl rfl rfl hS (fun wS hS1 => (by first | exact PV.ixPN T.ar130 rfl rfl (by omega) | exact PV.ixPZ T.ar130 rfl rfl (by omega))) ?_
    refine HP.take rfl rfl rfl rfl hS (fun wS hS1 => (by first | exact PV.ixPN T.ar129 rfl rfl (by omega) | exact PV.ixPZ T.ar129 rfl rfl (by omega))) ?_
    refine HP.take rfl rfl rfl rfl hS (fun wS hS1 => PV.fieldAddrP0 T.fl128_0 rfl) ?_
    refine HP.last rfl rfl (OpK.storeArr T.sz2 rfl rfl rfl hb1 (by first | omega | (simp only [List.length_set]; omega)) (fun w4 hXw4 hb1 => ?_))
    have hB := hB.updL hXw4 hl1
    have hb2 := hb2.updD hXw4 (Dj.symm hd1_2)
    have hb3 := hb3.updD hXw4 (Dj.symm hd1_3)
    have hb4 := hb4.updD hXw4 (Dj.symm hd1_4)
    have hb5 := hb5.updD hXw4 (Dj.symm hd1_5)
    have hb6 := hb6.updD hXw4 (Dj.symm hd1_6)
    have hUB := hUB.step hXw4 hkB_1
    have hU0 := hU0.step hXw4 hk0_1
    refine HP.done ?_
    refine NQ.block ?_
    refine NQ.then ?_
    refine CW.reg ?_
    refine WL.pure rfl rfl rfl (PV.add rfl rfl (by constructor <;> omega)) ?_
    refine WL.mv rfl rfl ?_
    refine WL.nil ?_
    refine NQ.next (ρ := [(12, _)]) ⟨rfl, rfl, rfl, rfl, rfl, rfl, trivial⟩ ?_
    exact ⟨_, ⟨t + 1, _, rfl, rfl, hU0, bxM hb1 (by rfl), (by first | omega | assumption | (simp_all; done) | (simp_all; omega)), (by rw [show i * 312 + (i + L) * 24 + t * 3 = 3 * ((i * 13 + (i + L)) * 8 + t) from (by omega)]; exact hz.step (by omega) (by omega) (by omega) (by omega) (by omega))⟩, by omega⟩
  try simp only [nq] at hc1
  refine CW.exit ?_
  refine XQ.then ?_
  refine XQ.then ?_
  refine XQ.here ?_
  refine NQ.then ?_
  refine CW.seq ?_
  refine CW.reg ?_
  refine WL.pure rfl rfl rfl (PV.makeFunc (fs := []) (cs := [.tmp 2, .tmp 5, .tmp 6]) rfl rfl) ?_
  refine WL.asg rfl rfl ?_
  refine WL.nilS ?_
  refine CW.seq ?_
  refine CW.reg ?_
  refine WL.pure rfl rfl rfl (PV.load0 T.na3 rfl hb5.cells (Ext.refl _) rfl) ?_
  refine WL.asg rfl rfl ?_
  refine WL.nilS ?_
  refine CW.block ?_
  refine CW.loop (σk := [(2, _), (3, _), (4, _), (5, _), (6, _), (8, _)]) (fun ρ wz m => ∃ (M : Nat) (ys1 : List Int), ρ = [(9, .int .i64 (M : Nat))] ∧ m = i + L - M ∧ UpdL [(some pc.block)] wl1 wz ∧ Bx wz pc (List.map VI (ys1)) ∧ (i ≤ M ∧ M ≤ i + L) ∧ (TPT 1099511627776 xa2 xs a0 ys1 L i (fun k m => Ahead k m 0 M))) (ρ₀ := [(9, _)]) (m₀ := _) ⟨rfl, rfl, rfl, rfl, rfl, rfl, rfl, trivial⟩ ⟨i, _, rfl, rfl, (UpdL.refl _ _), bxM hb1 (by rfl), (by first | omega | rfl | (simp; done) | assumption | (simp_all; done)), (by exact (hz.done (by omega)).mono (fun k m c hk hc h => by have := hc.pl; unfold Ahead at h; omega))⟩ ?_
  rintro _ wl2 _ ⟨M, ys1, rfl, rfl, hU1, hb1, hm, hp⟩
  have hUB := hUB.trans hU1 ⟨hkB_1, trivial⟩
  have hb2 := hb2.loop hU1 ⟨(Dj.symm hd1_2), trivial⟩
  have hb3 := hb3.loop hU1 ⟨(Dj.symm hd1_3), trivial⟩
  have hb4 := hb4.loop hU1 ⟨(Dj.symm hd1_4), trivial⟩
  have hb5 := hb5.loop hU1 ⟨(Dj.symm hd1_5), trivial⟩
  have hb6 := hb6.loop hU1 ⟨(Dj.symm hd1_6), trivial⟩
  have hk1_1 : OkB [(some pc.block)] wl1 (some pc.block) := OkB.mem (by simp)
  have hB := hB.loop hU1 ⟨hl1, trivial⟩
  refine CW.seq ?_
  refine CW.seq ?_
  refine CW.reg ?_
  refine WL.mv rfl rfl ?_
  refine WL.pure rfl rfl rfl (PV.load0 T.na3 rfl hb6.cells (Ext.refl _) rfl) ?_
  refine WL.pure rfl rfl rfl (PV.lss rfl rfl) ?_
  refine WL.nilS ?_
  refine CW.cond rfl (fun hc2 => ?_) (fun hc2 => ?_)
  · skip
    try simp only [nq] at hc2
    refine CW.skipS ?_
    refine CW.seq ?_
    refine CW.block ?_
    refine CW.seq ?_
    refine CW.reg ?_
    refine WL.pure rfl rfl rfl (PV.fieldAddr T.fl33_2 rfl hb2.cells) ?_
    refine WL.pure rfl rfl rfl (PV.load1 T.na31 rfl hb2.cells (Ext.refl _) rfl) ?_
    refine WL.pure rfl rfl rfl ((by first | exact PV.len rfl (by assumption) T.sl31 | exact PV.lenOs rfl (by assumption) T.sl31 | exact PV.len rfl (NL.rd (by assumption)) T.sl31 | exact PV.len rfl (Inn.rd (by assumption) (by omega)) T.sl31)) ?_
    refine WL.mv rfl rfl ?_
    refine WL.nilS ?_
    refine CW.block ?_
    refine CW.loop (σk := [(2, _), (3, _), (4, _), (5, _), (6, _), (8, _), (9, _), (33, _), (34, _)]) (fun ρ wz m => ∃ (K : Nat) (ys1 : List Int), ρ = [(35, .int .i64 (K : Nat))] ∧ m = xa2.length - K ∧ UpdL [(some pc.block)] wl2 wz ∧ Bx wz pc (List.map VI (ys1)) ∧ (K ≤ xa2.length) ∧ (TPT 1099511627776 xa2 xs a0 ys1 L i (fun k m => Ahead k m K M))) (ρ₀ := [(35, _)]) (m₀ := _) ⟨rfl, rfl, rfl, rfl, rfl, rfl, rfl, rfl, rfl, rfl, trivial⟩ ⟨0, _, rfl, rfl, (UpdL.refl _ _), bxM hb1 (by rfl), (by first | omega | rfl | (simp; done) | assumption | (simp_all; done)), (by first | omega | rfl | (simp; done) | assumption | (simp_all; done))⟩ ?_
    rintro _ wl3 _ ⟨K, ys1, rfl, rfl, hU2, hb1, hK, hp⟩
    have hUB := hUB.trans hU2 ⟨hkB_1, trivial⟩
    have hU1 := hU1.trans hU2 ⟨hk1_1, trivial⟩
    have hb2 := hb2.loop hU2 ⟨(Dj.symm hd1_2), trivial⟩
    have hb3 := hb3.loop hU2 ⟨(Dj.symm hd1_3), trivial⟩
    have hb4 := hb4.loop hU2 ⟨(Dj.symm hd1_4), trivial⟩
    have hb5 := hb5.loop hU2 ⟨(Dj.symm hd1_5), trivial⟩
    have hb6 := hb6.loop hU2 ⟨(Dj.symm hd1_6), trivial⟩
    have hk2_1 : OkB [(some pc.block)] wl2 (some pc.block) := OkB.mem (by simp)
    have hB := hB.loop hU2 ⟨hl1, trivial⟩
    refine CW.seq ?_
    refine CW.reg ?_
    refine WL.pure rfl rfl rfl (PV.lss rfl rfl) ?_
    refine WL.nilS ?_
    refine CW.seq ?_
    refine CW.cond rfl (fun hc3 => ?_) (fun hc3 => ?_)
    · skip
      try simp only [nq] at hc3
      refine CW.skipS ?_
      refine CW.seq ?_
      refine CW.block ?_
      refine CW.seq ?_
      refine CW.reg ?_
      refine WL.mv rfl rfl ?_
      first
        | refine WL.at (x := .tmp 33) (y := .tmp 35) (E := ER) ((0, 0, 0, 0)) rfl rfl (by first | assumption | exact Inn.rd (by assumption) (by omega)) (by first | omega | (simp only [List.length_set]; omega) | (simp only [List.length_append, List.length_take, List.length_replicate, List.length_drop]; omega)) (fun p1 csp1 hpp1 hcp1 hq => ?_)
        | refine WL.atZ (x := .tmp 33) (y := .tmp 35) (E := ER) ((0, 0, 0, 0)) rfl rfl (by first | assumption | exact Inn.rd (by assumption) (by omega)) (by first | omega | (simp only [List.length_set]; omega) | (simp only [List.length_append, List.length_take, List.length_replicate, List.length_drop]; omega)) (fun p1 csp1 hpp1 hzp1 hcp1 hq => ?_)
      cases hq
      refine WL.pure rfl rfl rfl ((by first | exact PV.indexAddr hpp1 rfl rfl T.sl31 | exact PV.indexAddr hpp1 rfl (by rw [← hzp1]; rfl) T.sl31)) ?_
      refine WL.pure rfl rfl rfl ((by first | exact PV.loadA T.ag56 rfl (by first | exact Cells.up (by assumption) hB | exact Bx.cells (by assumption) | assumption) (Ext.refl _) rfl | exact PV.loadP (ds := [_, _, _, _]) T.ag56 rfl (by first | exact Cells.up (by assumption) hB | exact Bx.cells (by assumption) | assumption) (Ext.refl _) rfl rfl)) ?_
      refine WL.op rfl (OpK.alloc rfl T.zv56 rfl (fun b10 w5 hXw5 hb10 hge10 => ?_))
      have hl10 := Lo.new hB hge10
      have hd1_10 := Dj.new hb1.ltO hge10
      have hd2_10 := Dj.new hb2.ltO hge10
      have hd3_10 := Dj.new hb3.ltO hge10
      have hd4_10 := Dj.new hb4.ltO hge10
      have hd5_10 := Dj.new hb5.ltO hge10
      have hd6_10 := Dj.new hb6.ltO hge10
      have hkB_10 := OkN.new hUB hge10
      have hgB_10 := OgR.new hUB.size hge10
      have hk1_10 := OkN.new hU1 hge10
      have hg1_10 := OgR.new hU1.size hge10
      have hk2_10 := OkN.new hU2 hge10
      have hg2_10 := OgR.new hU2.size hge10
      have hB := hB.trans hXw5
      have hb1 := hb1.up hXw5
      have hb2 := hb2.up hXw5
      have hb3 := hb3.up hXw5
      have hb4 := hb4.up hXw5
      have hb5 := hb5.up hXw5
      have hb6 := hb6.up hXw5
      have hUB := hUB.ext hXw5
      have hU1 := hU1.ext hXw5
      have hU2 := hU2.ext hXw5
      refine WL.asg rfl rfl ?_
      refine WL.op rfl (OpK.storeA T.sz56 rfl rfl rfl rfl (by simp [Value.oneCell'] <;> first | done | (repeat' apply And.intro) <;> first | rfl | exact Osl.oneCell (by assumption) | exact Osn.oneCell (by assumption) | exact Rd.oneCell (by assumption) | exact Rd.oneCell (NL.rd (by assumption)) | assumption) hb10 (fun w6 hXw6 hb10 => ?_))
      have hB := hB.updL hXw6 hl10
      have hb1 := hb1.updD hXw6 hd1_10
      have hb2 := hb2.updD hXw6 hd2_10
      have hb3 := hb3.updD hXw6 hd3_10
      have hb4 := hb4.updD hXw6 hd4_10
      have hb5 := hb5.updD hXw6 hd5_10
      have hb6 := hb6.updD hXw6 hd6_10
      have hUB := hUB.step hXw6 hkB_10
      have hU1 := hU1.step hXw6 hk1_10
      have hU2 := hU2.step hXw6 hk2_10
      refine WL.nilS ?_
      refine CW.seq ?_
      refine CW.seq ?_
      refine CW.draw T.mixed (by kernel_rfl) (fun _ _ _ _ _ h => h) (fun w8 w9 => Upd none w8 w9) 23 (.take 0 (.take 1 (.take 2 (.take 3 (.split (.take 4 (.take 5 (.take 6 (.take 7 (.take 8 (.split (.take 9 (.take 10 (.take 11 (.take 12 (.take 13 (.take 14 (.split (.take 15 (.take 16 (.take 17 (.take 18 (.take 19 (.take 20 (.take 21 (.take 22 .done)))))))) (.take 15 (.take 16 (.take 17 (.take 18 (.take 19 (.take 20 (.take 21 (.take 22 .done))))))))))))))) (.take 9 (.take 10 (.take 11 (.take 12 (.take 13 (.take 14 (.take 15 (.take 16 (.take 17 (.take 18 (.take 19 (.take 20 (.take 21 (.take 22 .done)))))))))))))))))))) (.take 4 (.take 5 (.take 6 (.take 7 (.take 8 (.take 9 (.take 10 (.take 11 (.take 12 (.take 13 (.take 14 (.take 15 (.take 16 (.take 17 (.take 18 (.take 19 (.take 20 (.take 21 (.take 22 .done)))))))))))))))))))))))) (by kernel_rfl) (fun w7 hXd => ?_)
      have hB := hB.trans hXd
      have hb1 := hb1.up hXd
      have hb2 := hb2.up hXd
      have hb3 := hb3.up hXd
      have hb4 := hb4.up hXd
      have hb5 := hb5.up hXd
      have hb6 := hb6.up hXd
      have hb10 := hb10.up hXd
      have hUB := hUB.ext hXd
      have hU1 := hU1.ext hXd
      have hU2 := hU2.ext hXd
      have hBr := hB
      have hS : Upd none w7 w7 := Ext.toUpd (Ext.refl _)
      have hgl := gram_left hg K (by omega); have hgl1 : 0 ≤ (xa2.getD K (0, 0, 0, 0)).1 := hgl.1; have hgl2 : (xa2.getD K (0, 0, 0, 0)).1 < a0 := hgl.2; have hyn := hp.1; have hk3 : 0 ≤ (xa2.getD K (0, 0, 0, 0)).2.2.2 ∧ (xa2.getD K (0, 0, 0, 0)).2.2.2 ≤ 1000 := (hg.2.2.2 K (by omega)).2.2.1; have hcr := hp.cellR hg (by omega) (by omega) (by omega) (by omega) (by omega) hgl
      refine HP.take rfl rfl rfl rfl hS (fun wS hS1 => PV.fieldAddr T.fl56_2 rfl hb10.cells) ?_
      refine HP.take rfl rfl rfl rfl hS (fun wS hS1 => PV.load1 T.na2 rfl (Bx.cells (Bx.updD (by assumption) hS1 (Dj.nlR _))) (Ext.refl _) rfl) ?_
      refine HP.take rfl rfl rfl rfl hS (fun wS hS1 => PV.lss rfl rfl) ?_
      refine HP.take rfl rfl rfl rfl hS (fun wS hS1 => PV.move rfl) ?_
      refine HP.split (t := 43) rfl (fun hc4 => ?_) (fun hc4 => ?_)
      rotate_left
      · skip
        try simp only [nq] at hc4
        refine HP.skip rfl rfl rfl rfl rfl rfl hS ?_
        refine HP.skip rfl rfl rfl rfl rfl rfl hS ?_
        refine HP.skip rfl rfl rfl rfl rfl rfl hS ?_
        refine HP.take rfl rfl rfl rfl hS (fun wS hS1 => PV.pickF rfl rfl) ?_
        refine HP.take rfl rfl rfl rfl hS (fun wS hS1 => PV.move rfl) ?_
        refine HP.skip rfl rfl rfl rfl rfl rfl hS ?_
        refine HP.skip rfl rfl rfl rfl rfl rfl hS ?_
        refine HP.skip rfl rfl rfl rfl rfl rfl hS ?_
        refine HP.skip rfl rfl rfl rfl rfl rfl hS ?_
        refine HP.take rfl rfl rfl rfl hS (fun wS hS1 => PV.pickF rfl rfl) ?_
        refine HP.take rfl rfl rfl rfl hS (fun wS hS1 => PV.move rfl) ?_
        refine HP.skip rfl rfl rfl rfl rfl rfl hS ?_
        refine HP.skip rfl rfl rfl rfl rfl rfl hS ?_
        refine HP.skip rfl rfl rfl rfl rfl rfl hS ?_
        refine HP.skip rfl rfl rfl rfl rfl rfl hS ?_
        refine HP.skip rfl rfl rfl rfl rfl rfl hS ?_
        refine HP.skip rfl rfl rfl rfl rfl rfl hS ?_
        refine HP.skip rfl rfl rfl rfl rfl rfl hS ?_
        refine HP.take rfl rfl rfl rfl hS (fun wS hS1 => PV.pickF rfl rfl) ?_
        refine HP.doneS ?_
        refine CW.condF rfl ?_
        refine CW.skipS ?_
        refine CW.seq ?_
        refine CW.reg ?_
        refine WL.pure rfl rfl rfl (PV.fieldAddr T.fl56_2 rfl hb10.cells) ?_
        refine WL.pure rfl rfl rfl (PV.load1 T.na2 rfl hb10.cells (Ext.refl _) rfl) ?_
        refine WL.pure rfl rfl rfl (PV.geq rfl rfl) ?_
        refine WL.mv rfl rfl ?_
        refine WL.split (t := 73) rfl (fun hc5 => ?_) (fun hc5 => ?_)
        rotate_left
        · skip
          try simp only [nq] at hc5
          refine WL.skip rfl rfl rfl rfl rfl ?_
          refine WL.skip rfl rfl rfl rfl rfl ?_
          refine WL.skip rfl rfl rfl rfl rfl ?_
          refine WL.pure rfl rfl rfl (PV.pickF rfl rfl) ?_
          refine WL.nilS ?_
          refine CW.condF rfl ?_
          refine CW.skip ?_
          refine NQ.block ?_
          refine NQ.then ?_
          refine CW.reg ?_
          refine WL.pure rfl rfl rfl (PV.add rfl rfl (by constructor <;> omega)) ?_
          refine WL.mv rfl rfl ?_
          refine WL.nil ?_
          refine NQ.next (ρ := [(35, _)]) ⟨rfl, rfl, rfl, rfl, rfl, rfl, rfl, rfl, rfl, rfl, trivial⟩ ?_
          exact ⟨_, ⟨K + 1, _, rfl, rfl, hU2, bxM hb1 (by rfl), (by first | omega | assumption | (simp_all; done) | (simp_all; omega)), (by first | (exfalso; omega) | exact hp.leafZ (by assumption) hg (by omega) (by omega) (by omega) (by omega) (by omega) (by omega) (by assumption) (by omega) (by omega) (by assumption) | exact hp.nodeZ (by assumption) (by simp only [kC, rl]; omega) (by simp only [kC, rl]; omega) hg (by omega) (by omega) (by omega) (by omega) (by omega) (by omega) (by assumption) (by omega) (by omega) | exact hp.skip (noCand_node (by assumption) (by omega)) | exact hp.skip (noCand_leaf (by assumption) (fun h9 => by have h91 := h9.1; have h92 := h9.2.1; first | omega | exact absurd h9.2.2 (by assumption))))⟩, by omega⟩
        try simp only [nq] at hc5
        refine WL.pureG rfl rfl rfl rfl rfl (PV.move rfl) ?_
        refine WL.pureG rfl rfl rfl rfl rfl (PV.load0 T.na3 rfl hb5.cells (Ext.refl _) rfl) ?_
        refine WL.pureG rfl rfl rfl rfl rfl (PV.gtr rfl rfl) ?_
        refine WL.pure rfl rfl rfl (PV.pickT rfl rfl) ?_
        refine WL.nilS ?_
        refine CW.cond rfl (fun hc6 => ?_) (fun hc6 => ?_)
        · skip
          try simp only [nq] at hc6
          refine CW.draw T.mixed (by kernel_rfl) (fun _ _ _ _ _ h => h) (fun w8 w9 => Upd none w8 w9) 30 (.take 0 (.take 1 (.take 2 (.take 3 (.take 4 (.take 5 (.take 6 (.take 7 (.take 8 (.take 9 (.take 10 (.take 11 (.take 12 (.take 13 (.take 14 (.take 15 (.take 16 (.take 17 (.take 18 (.take 19 (.take 20 (.take 21 (.take 22 (.take 23 (.take 24 (.take 25 (.take 26 (.take 27 (.take 28 (.take 29 (.must 30 .done))))))))))))))))))))))))))))))) (by kernel_rfl) (fun w8 hXd => ?_)
          have hB := hB.trans hXd
          have hb1 := hb1.up hXd
          have hb2 := hb2.up hXd
          have hb3 := hb3.up hXd
          have hb4 := hb4.up hXd
          have hb5 := hb5.up hXd
          have hb6 := hb6.up hXd
          have hb10 := hb10.up hXd
          have hUB := hUB.ext hXd
          have hU1 := hU1.ext hXd
          have hU2 := hU2.ext hXd
          have hBr := hB
          have hS : Upd none w8 w8 := Ext.toUpd (Ext.refl _)
          have hgl := gram_left hg K (by omega); have hgl1 : 0 ≤ (xa2.getD K (0, 0, 0, 0)).1 := hgl.1; have hgl2 : (xa2.getD K (0, 0, 0, 0)).1 < a0 := hgl.2; have hyn := hp.1; have hk3 : 0 ≤ (xa2.getD K (0, 0, 0, 0)).2.2.2 ∧ (xa2.getD K (0, 0, 0, 0)).2.2.2 ≤ 1000 := (hg.2.2.2 K (by omega)).2.2.1; have hgn := gram_node hg (k := K) (by omega) (by assumption); have gn1 : 0 ≤ (xa2.getD K (0, 0, 0, 0)).2.1 ∧ (xa2.getD K (0, 0, 0, 0)).2.1 < a0 := hgn.1; have gn2 : 0 ≤ (xa2.getD K (0, 0, 0, 0)).2.2.1 ∧ (xa2.getD K (0, 0, 0, 0)).2.2.1 < a0 := hgn.2; have o1 := (hp.leftC (m := M) (by omega) (by omega) (by omega) (by omega) (by omega) gn1).rng hg (by omega) (by omega); have o2 := (hp.rightC (m := M) (by omega) (by omega) (by omega) (by omega) (by omega) gn2).rng hg (by omega) (by omega); have ez1 : ys1.getD (i * 312 + M * 24 + (xa2.getD K (0, 0, 0, 0)).2.1.toNat * 3) 0 = co ys1 i M (xa2.getD K (0, 0, 0, 0)).2.1 := congrArg (fun q => ys1.getD q 0) (show _ = 3 * ((i * 13 + M) * 8 + (xa2.getD K (0, 0, 0, 0)).2.1.toNat) from (by omega)); have ez2 : ys1.getD (M * 312 + (i + L) * 24 + (xa2.getD K (0, 0, 0, 0)).2.2.1.toNat * 3) 0 = co ys1 M (i + L) (xa2.getD K (0, 0, 0, 0)).2.2.1 := congrArg (fun q => ys1.getD q 0) (show _ = 3 * ((M * 13 + (i + L)) * 8 + (xa2.getD K (0, 0, 0, 0)).2.2.1.toNat) from (by omega))
          refine HP.take rfl rfl rfl rfl hS (fun wS hS1 => PV.move rfl) ?_
          refine HP.take rfl rfl rfl rfl hS (fun wS hS1 => PV.loadA T.ag56 rfl (Bx.cells (Bx.updD (by assumption) hS1 (Dj.nlR _))) (Ext.refl _) rfl) ?_
          refine HP.take rfl rfl rfl rfl hS (fun wS hS1 => PV.move rfl) ?_
          refine HP.take rfl rfl rfl rfl hS (fun wS hS1 => PV.move rfl) ?_
          refine HP.take rfl rfl rfl rfl hS (fun wS hS1 => PV.fieldAddr T.fl56_3 rfl hb10.cells) ?_
          refine HP.take rfl rfl rfl rfl hS (fun wS hS1 => PV.load1 T.na2 rfl (Bx.cells (Bx.updD (by assumption) hS1 (Dj.nlR _))) (Ext.refl _) rfl) ?_
          refine HP.take rfl rfl rfl rfl hS (fun wS hS1 => PV.load0 T.na131 rfl (Bx.cells (Bx.updD (by assumption) hS1 (Dj.nlR _))) (Ext.refl _) rfl) ?_
          refine HP.take rfl rfl rfl rfl hS (fun wS hS1 => PV.load0 T.na3 rfl (Bx.cells (Bx.updD (by assumption) hS1 (Dj.nlR _))) (Ext.refl _) rfl) ?_
          refine HP.take rfl rfl rfl rfl hS (fun wS hS1 => PV.move rfl) ?_
          refine HP.take rfl rfl rfl rfl hS (fun wS hS1 => PV.fieldAddr T.fl56_1 rfl hb10.cells) ?_
          refine HP.take rfl rfl rfl rfl hS (fun wS hS1 => PV.load1 T.na2 rfl (Bx.cells (Bx.updD (by assumption) hS1 (Dj.nlR _))) (Ext.refl _) rfl) ?_
          refine HP.take rfl rfl rfl rfl hS (fun wS hS1 => PV.nilCheck rfl) ?_
          refine HP.take rfl rfl rfl rfl hS (fun wS hS1 => (by first | exact PV.ixN T.ar220 rfl hb1.spot rfl (by omega) | exact PV.ixZ T.ar220 rfl hb1.spot rfl (by omega))) ?_
          refine HP.take rfl rfl rfl rfl hS (fun wS hS1 => (by first | exact PV.ixPN T.ar130 rfl rfl (by omega) | exact PV.ixPZ T.ar130 rfl rfl (by omega))) ?_
          refine HP.take rfl rfl rfl rfl hS (fun wS hS1 => (by first | exact PV.ixPN T.ar129 rfl rfl (by omega) | exact PV.ixPZ T.ar129 rfl rfl (by omega))) ?_
          refine HP.take rfl rfl rfl rfl hS (fun wS hS1 => PV.fieldAddrP0 T.fl128_0 rfl) ?_
          refine HP.take rfl rfl rfl rfl hS (fun wS hS1 => PV.loadArr 0 T.na2 rfl (Bx.cells (Bx.updD hb1 hS1 (Dj.nlR _))) (Ext.refl _) (by first | omega | (simp only [List.length_set]; omega))) ?_
          refine HP.take rfl rfl rfl rfl hS (fun wS hS1 => PV.add rfl rfl (by constructor <;> omega)) ?_
          refine HP.take rfl rfl rfl rfl hS (fun wS hS1 => PV.load0 T.na131 rfl (Bx.cells (Bx.updD (by assumption) hS1 (Dj.nlR _))) (Ext.refl _) rfl) ?_
          refine HP.take rfl rfl rfl rfl hS (fun wS hS1 => PV.move rfl) ?_
          refine HP.take rfl rfl rfl rfl hS (fun wS hS1 => PV.load0 T.na3 rfl (Bx.cells (Bx.updD (by assumption) hS1 (Dj.nlR _))) (Ext.refl _) rfl) ?_
          refine HP.take rfl rfl rfl rfl hS (fun wS hS1 => PV.fieldAddr T.fl56_2 rfl hb10.cells) ?_
          refine HP.take rfl rfl rfl rfl hS (fun wS hS1 => PV.load1 T.na2 rfl (Bx.cells (Bx.updD (by assumption) hS1 (Dj.nlR _))) (Ext.refl _) rfl) ?_
          refine HP.take rfl rfl rfl rfl hS (fun wS hS1 => PV.nilCheck rfl) ?_
          refine HP.take rfl rfl rfl rfl hS (fun wS hS1 => (by first | exact PV.ixN T.ar220 rfl hb1.spot rfl (by omega) | exact PV.ixZ T.ar220 rfl hb1.spot rfl (by omega))) ?_
          refine HP.take rfl rfl rfl rfl hS (fun wS hS1 => (by first | exact PV.ixPN T.ar130 rfl rfl (by omega) | exact PV.ixPZ T.ar130 rfl rfl (by omega))) ?_
          refine HP.take rfl rfl rfl rfl hS (fun wS hS1 => (by first | exact PV.ixPN T.ar129 rfl rfl (by omega) | exact PV.ixPZ T.ar129 rfl rfl (by omega))) ?_
          refine HP.take rfl rfl rfl rfl hS (fun wS hS1 => PV.fieldAddrP0 T.fl128_0 rfl) ?_
          refine HP.take rfl rfl rfl rfl hS (fun wS hS1 => PV.loadArr 0 T.na2 rfl (Bx.cells (Bx.updD hb1 hS1 (Dj.nlR _))) (Ext.refl _) (by first | omega | (simp only [List.length_set]; omega))) ?_
          refine HP.take rfl rfl rfl rfl hS (fun wS hS1 => PV.add rfl rfl (by constructor <;> omega)) ?_
          refine HP.last rfl rfl (OpK.callC rfl T.cf197 rfl rfl (c_impl_Grammar_choices_1_1 hB (by first | assumption | exact Lo.nl _) (by first | assumption | exact Lo.nl _) (by first | assumption | exact Lo.nl _) (by first | assumption | exact Lo.nl _) (by first | assumption | exact Lo.nl _) (by first | assumption | exact Dj.symm (by assumption)) (by first | assumption | exact Dj.symm (by assumption)) (by first | assumption | exact Dj.symm (by assumption)) (by first | assumption | omega | (simp only [marks_len]; omega)) (by first | assumption | omega | (simp only [marks_len]; omega)) (by first | assumption | omega | (simp only [marks_len]; omega))) (fun rv1 w9 hR => ?_))
          obtain ⟨hUC11, zs12, rfl, hm13, hbn1⟩ := hR
          have hUB := hUB.trans hUC11 ⟨hkB_1, trivial⟩
          have hU1 := hU1.trans hUC11 ⟨hk1_1, trivial⟩
          have hU2 := hU2.trans hUC11 ⟨hk2_1, trivial⟩
          have hb2 := hb2.loop hUC11 ⟨(Dj.symm hd1_2), trivial⟩
          have hb3 := hb3.loop hUC11 ⟨(Dj.symm hd1_3), trivial⟩
          have hb4 := hb4.loop hUC11 ⟨(Dj.symm hd1_4), trivial⟩
          have hb5 := hb5.loop hUC11 ⟨(Dj.symm hd1_5), trivial⟩
          have hb6 := hb6.loop hUC11 ⟨(Dj.symm hd1_6), trivial⟩
          have hb10 := hb10.loop hUC11 ⟨(Dj.symm hd1_10), trivial⟩
          have hB := hB.loop hUC11 ⟨hl1, trivial⟩
          have hb1 := hbn1
          refine HP.done ?_
          refine NQ.block ?_
          refine NQ.then ?_
          refine CW.reg ?_
          refine WL.pure rfl rfl rfl (PV.add rfl rfl (by constructor <;> omega)) ?_
          refine WL.mv rfl rfl ?_
          refine WL.nil ?_
          refine NQ.next (ρ := [(35, _)]) ⟨rfl, rfl, rfl, rfl, rfl, rfl, rfl, rfl, rfl, rfl, trivial⟩ ?_
          exact ⟨_, ⟨K + 1, _, rfl, rfl, hU2, bxM hb1 (by rfl), (by first | omega | assumption | (simp_all; done) | (simp_all; omega)), (by first | (exfalso; omega) | exact hp.leafZ (by assumption) hg (by omega) (by omega) (by omega) (by omega) (by omega) (by omega) (by assumption) (by omega) (by omega) (by assumption) | exact hp.nodeZ (by assumption) (by simp only [kC, rl]; omega) (by simp only [kC, rl]; omega) hg (by omega) (by omega) (by omega) (by omega) (by omega) (by omega) (by assumption) (by omega) (by omega) | exact hp.skip (noCand_node (by assumption) (by omega)) | exact hp.skip (noCand_leaf (by assumption) (fun h9 => by have h91 := h9.1; have h92 := h9.2.1; first | omega | exact absurd h9.2.2 (by assumption))))⟩, by omega⟩
        try simp only [nq] at hc6
        refine CW.skip ?_
        refine NQ.block ?_
        refine NQ.then ?_
        refine CW.reg ?_
        refine WL.pure rfl rfl rfl (PV.add rfl rfl (by constructor <;> omega)) ?_
        refine WL.mv rfl rfl ?_
        refine WL.nil ?_
        refine NQ.next (ρ := [(35, _)]) ⟨rfl, rfl, rfl, rfl, rfl, rfl, rfl, rfl, rfl, rfl, trivial⟩ ?_
        exact ⟨_, ⟨K + 1, _, rfl, rfl, hU2, bxM hb1 (by rfl), (by first | omega | assumption | (simp_all; done) | (simp_all; omega)), (by first | (exfalso; omega) | exact hp.leafZ (by assumption) hg (by omega) (by omega) (by omega) (by omega) (by omega) (by omega) (by assumption) (by omega) (by omega) (by assumption) | exact hp.nodeZ (by assumption) (by simp only [kC, rl]; omega) (by simp only [kC, rl]; omega) hg (by omega) (by omega) (by omega) (by omega) (by omega) (by omega) (by assumption) (by omega) (by omega) | exact hp.skip (noCand_node (by assumption) (by omega)) | exact hp.skip (noCand_leaf (by assumption) (fun h9 => by have h91 := h9.1; have h92 := h9.2.1; first | omega | exact absurd h9.2.2 (by assumption))))⟩, by omega⟩
      try simp only [nq] at hc4
      refine HP.takeG rfl rfl rfl rfl rfl rfl hS (fun wS hS1 => PV.move rfl) ?_
      refine HP.takeG rfl rfl rfl rfl rfl rfl hS (fun wS hS1 => PV.load0 T.na3 rfl (Bx.cells (Bx.updD (by assumption) hS1 (Dj.nlR _))) (Ext.refl _) rfl) ?_
      refine HP.takeG rfl rfl rfl rfl rfl rfl hS (fun wS hS1 => PV.eql rfl rfl) ?_
      refine HP.take rfl rfl rfl rfl hS (fun wS hS1 => PV.pickT rfl rfl) ?_
      refine HP.take rfl rfl rfl rfl hS (fun wS hS1 => PV.move rfl) ?_
      refine HP.split (t := 48) rfl (fun hc7 => ?_) (fun hc7 => ?_)
      rotate_left
      · skip
        try simp only [nq] at hc7
        refine HP.skip rfl rfl rfl rfl rfl rfl hS ?_
        refine HP.skip rfl rfl rfl rfl rfl rfl hS ?_
        refine HP.skip rfl rfl rfl rfl rfl rfl hS ?_
        refine HP.skip rfl rfl rfl rfl rfl rfl hS ?_
        refine HP.take rfl rfl rfl rfl hS (fun wS hS1 => PV.pickF rfl rfl) ?_
        refine HP.take rfl rfl rfl rfl hS (fun wS hS1 => PV.move rfl) ?_
        refine HP.skip rfl rfl rfl rfl rfl rfl hS ?_
        refine HP.skip rfl rfl rfl rfl rfl rfl hS ?_
        refine HP.skip rfl rfl rfl rfl rfl rfl hS ?_
        refine HP.skip rfl rfl rfl rfl rfl rfl hS ?_
        refine HP.skip rfl rfl rfl rfl rfl rfl hS ?_
        refine HP.skip rfl rfl rfl rfl rfl rfl hS ?_
        refine HP.skip rfl rfl rfl rfl rfl rfl hS ?_
        refine HP.take rfl rfl rfl rfl hS (fun wS hS1 => PV.pickF rfl rfl) ?_
        refine HP.doneS ?_
        refine CW.condF rfl ?_
        refine CW.skipS ?_
        refine CW.seq ?_
        refine CW.reg ?_
        refine WL.pure rfl rfl rfl (PV.fieldAddr T.fl56_2 rfl hb10.cells) ?_
        refine WL.pure rfl rfl rfl (PV.load1 T.na2 rfl hb10.cells (Ext.refl _) rfl) ?_
        refine WL.pure rfl rfl rfl (PV.geq rfl rfl) ?_
        refine WL.mv rfl rfl ?_
        refine WL.split (t := 73) rfl (fun hc8 => ?_) (fun hc8 => ?_)
        rotate_left
        · skip
          try simp only [nq] at hc8
          refine WL.skip rfl rfl rfl rfl rfl ?_
          refine WL.skip rfl rfl rfl rfl rfl ?_
          refine WL.skip rfl rfl rfl rfl rfl ?_
          refine WL.pure rfl rfl rfl (PV.pickF rfl rfl) ?_
          refine WL.nilS ?_
          refine CW.condF rfl ?_
          refine CW.skip ?_
          refine NQ.block ?_
          refine NQ.then ?_
          refine CW.reg ?_
          refine WL.pure rfl rfl rfl (PV.add rfl rfl (by constructor <;> omega)) ?_
          refine WL.mv rfl rfl ?_
          refine WL.nil ?_
          refine NQ.next (ρ := [(35, _)]) ⟨rfl, rfl, rfl, rfl, rfl, rfl, rfl, rfl, rfl, rfl, trivial⟩ ?_
          exact ⟨_, ⟨K + 1, _, rfl, rfl, hU2, bxM hb1 (by rfl), (by first | omega | assumption | (simp_all; done) | (simp_all; omega)), (by first | (exfalso; omega) | exact hp.leafZ (by assumption) hg (by omega) (by omega) (by omega) (by omega) (by omega) (by omega) (by assumption) (by omega) (by omega) (by assumption) | exact hp.nodeZ (by assumption) (by simp only [kC, rl]; omega) (by simp only [kC, rl]; omega) hg (by omega) (by omega) (by omega) (by omega) (by omega) (by omega) (by assumption) (by omega) (by omega) | exact hp.skip (noCand_node (by assumption) (by omega)) | exact hp.skip (noCand_leaf (by assumption) (fun h9 => by have h91 := h9.1; have h92 := h9.2.1; first | omega | exact absurd h9.2.2 (by assumption))))⟩, by omega⟩
        try simp only [nq] at hc8
        refine WL.pureG rfl rfl rfl rfl rfl (PV.move rfl) ?_
        refine WL.pureG rfl rfl rfl rfl rfl (PV.load0 T.na3 rfl hb5.cells (Ext.refl _) rfl) ?_
        refine WL.pureG rfl rfl rfl rfl rfl (PV.gtr rfl rfl) ?_
        refine WL.pure rfl rfl rfl (PV.pickT rfl rfl) ?_
        refine WL.nilS ?_
        refine CW.cond rfl (fun hc9 => ?_) (fun hc9 => ?_)
        · skip
          try simp only [nq] at hc9
          refine CW.draw T.mixed (by kernel_rfl) (fun _ _ _ _ _ h => h) (fun w8 w9 => Upd none w8 w9) 30 (.take 0 (.take 1 (.take 2 (.take 3 (.take 4 (.take 5 (.take 6 (.take 7 (.take 8 (.take 9 (.take 10 (.take 11 (.take 12 (.take 13 (.take 14 (.take 15 (.take 16 (.take 17 (.take 18 (.take 19 (.take 20 (.take 21 (.take 22 (.take 23 (.take 24 (.take 25 (.take 26 (.take 27 (.take 28 (.take 29 (.must 30 .done))))))))))))))))))))))))))))))) (by kernel_rfl) (fun w10 hXd => ?_)
          have hB := hB.trans hXd
          have hb1 := hb1.up hXd
          have hb2 := hb2.up hXd
          have hb3 := hb3.up hXd
          have hb4 := hb4.up hXd
          have hb5 := hb5.up hXd
          have hb6 := hb6.up hXd
          have hb10 := hb10.up hXd
          have hUB := hUB.ext hXd
          have hU1 := hU1.ext hXd
          have hU2 := hU2.ext hXd
          have hBr := hB
          have hS : Upd none w10 w10 := Ext.toUpd (Ext.refl _)
          have hgl := gram_left hg K (by omega); have hgl1 : 0 ≤ (xa2.getD K (0, 0, 0, 0)).1 := hgl.1; have hgl2 : (xa2.getD K (0, 0, 0, 0)).1 < a0 := hgl.2; have hyn := hp.1; have hk3 : 0 ≤ (xa2.getD K (0, 0, 0, 0)).2.2.2 ∧ (xa2.getD K (0, 0, 0, 0)).2.2.2 ≤ 1000 := (hg.2.2.2 K (by omega)).2.2.1; have hgn := gram_node hg (k := K) (by omega) (by assumption); have gn1 : 0 ≤ (xa2.getD K (0, 0, 0, 0)).2.1 ∧ (xa2.getD K (0, 0, 0, 0)).2.1 < a0 := hgn.1; have gn2 : 0 ≤ (xa2.getD K (0, 0, 0, 0)).2.2.1 ∧ (xa2.getD K (0, 0, 0, 0)).2.2.1 < a0 := hgn.2; have o1 := (hp.leftC (m := M) (by omega) (by omega) (by omega) (by omega) (by omega) gn1).rng hg (by omega) (by omega); have o2 := (hp.rightC (m := M) (by omega) (by omega) (by omega) (by omega) (by omega) gn2).rng hg (by omega) (by omega); have ez1 : ys1.getD (i * 312 + M * 24 + (xa2.getD K (0, 0, 0, 0)).2.1.toNat * 3) 0 = co ys1 i M (xa2.getD K (0, 0, 0, 0)).2.1 := congrArg (fun q => ys1.getD q 0) (show _ = 3 * ((i * 13 + M) * 8 + (xa2.getD K (0, 0, 0, 0)).2.1.toNat) from (by omega)); have ez2 : ys1.getD (M * 312 + (i + L) * 24 + (xa2.getD K (0, 0, 0, 0)).2.2.1.toNat * 3) 0 = co ys1 M (i + L) (xa2.getD K (0, 0, 0, 0)).2.2.1 := congrArg (fun q => ys1.getD q 0) (show _ = 3 * ((M * 13 + (i + L)) * 8 + (xa2.getD K (0, 0, 0, 0)).2.2.1.toNat) from (by omega))
          refine HP.take rfl rfl rfl rfl hS (fun wS hS1 => PV.move rfl) ?_
          refine HP.take rfl rfl rfl rfl hS (fun wS hS1 => PV.loadA T.ag56 rfl (Bx.cells (Bx.updD (by assumption) hS1 (Dj.nlR _))) (Ext.refl _) rfl) ?_
          refine HP.take rfl rfl rfl rfl hS (fun wS hS1 => PV.move rfl) ?_
          refine HP.take rfl rfl rfl rfl hS (fun wS hS1 => PV.move rfl) ?_
          refine HP.take rfl rfl rfl rfl hS (fun wS hS1 => PV.fieldAddr T.fl56_3 rfl hb10.cells) ?_
          refine HP.take rfl rfl rfl rfl hS (fun wS hS1 => PV.load1 T.na2 rfl (Bx.cells (Bx.updD (by assumption) hS1 (Dj.nlR _))) (Ext.refl _) rfl) ?_
          refine HP.take rfl rfl rfl rfl hS (fun wS hS1 => PV.load0 T.na131 rfl (Bx.cells (Bx.updD (by assumption) hS1 (Dj.nlR _))) (Ext.refl _) rfl) ?_
          refine HP.take rfl rfl rfl rfl hS (fun wS hS1 => PV.load0 T.na3 rfl (Bx.cells (Bx.updD (by assumption) hS1 (Dj.nlR _))) (Ext.refl _) rfl) ?_
          refine HP.take rfl rfl rfl rfl hS (fun wS hS1 => PV.move rfl) ?_
          refine HP.take rfl rfl rfl rfl hS (fun wS hS1 => PV.fieldAddr T.fl56_1 rfl hb10.cells) ?_
          refine HP.take rfl rfl rfl rfl hS (fun wS hS1 => PV.load1 T.na2 rfl (Bx.cells (Bx.updD (by assumption) hS1 (Dj.nlR _))) (Ext.refl _) rfl) ?_
          refine HP.take rfl rfl rfl rfl hS (fun wS hS1 => PV.nilCheck rfl) ?_
          refine HP.take rfl rfl rfl rfl hS (fun wS hS1 => (by first | exact PV.ixN T.ar220 rfl hb1.spot rfl (by omega) | exact PV.ixZ T.ar220 rfl hb1.spot rfl (by omega))) ?_
          refine HP.take rfl rfl rfl rfl hS (fun wS hS1 => (by first | exact PV.ixPN T.ar130 rfl rfl (by omega) | exact PV.ixPZ T.ar130 rfl rfl (by omega))) ?_
          refine HP.take rfl rfl rfl rfl hS (fun wS hS1 => (by first | exact PV.ixPN T.ar129 rfl rfl (by omega) | exact PV.ixPZ T.ar129 rfl rfl (by omega))) ?_
          refine HP.take rfl rfl rfl rfl hS (fun wS hS1 => PV.fieldAddrP0 T.fl128_0 rfl) ?_
          refine HP.take rfl rfl rfl rfl hS (fun wS hS1 => PV.loadArr 0 T.na2 rfl (Bx.cells (Bx.updD hb1 hS1 (Dj.nlR _))) (Ext.refl _) (by first | omega | (simp only [List.length_set]; omega))) ?_
          refine HP.take rfl rfl rfl rfl hS (fun wS hS1 => PV.add rfl rfl (by constructor <;> omega)) ?_
          refine HP.take rfl rfl rfl rfl hS (fun wS hS1 => PV.load0 T.na131 rfl (Bx.cells (Bx.updD (by assumption) hS1 (Dj.nlR _))) (Ext.refl _) rfl) ?_
          refine HP.take rfl rfl rfl rfl hS (fun wS hS1 => PV.move rfl) ?_
          refine HP.take rfl rfl rfl rfl hS (fun wS hS1 => PV.load0 T.na3 rfl (Bx.cells (Bx.updD (by assumption) hS1 (Dj.nlR _))) (Ext.refl _) rfl) ?_
          refine HP.take rfl rfl rfl rfl hS (fun wS hS1 => PV.fieldAddr T.fl56_2 rfl hb10.cells) ?_
          refine HP.take rfl rfl rfl rfl hS (fun wS hS1 => PV.load1 T.na2 rfl (Bx.cells (Bx.updD (by assumption) hS1 (Dj.nlR _))) (Ext.refl _) rfl) ?_
          refine HP.take rfl rfl rfl rfl hS (fun wS hS1 => PV.nilCheck rfl) ?_
          refine HP.take rfl rfl rfl rfl hS (fun wS hS1 => (by first | exact PV.ixN T.ar220 rfl hb1.spot rfl (by omega) | exact PV.ixZ T.ar220 rfl hb1.spot rfl (by omega))) ?_
          refine HP.take rfl rfl rfl rfl hS (fun wS hS1 => (by first | exact PV.ixPN T.ar130 rfl rfl (by omega) | exact PV.ixPZ T.ar130 rfl rfl (by omega))) ?_
          refine HP.take rfl rfl rfl rfl hS (fun wS hS1 => (by first | exact PV.ixPN T.ar129 rfl rfl (by omega) | exact PV.ixPZ T.ar129 rfl rfl (by omega))) ?_
          refine HP.take rfl rfl rfl rfl hS (fun wS hS1 => PV.fieldAddrP0 T.fl128_0 rfl) ?_
          refine HP.take rfl rfl rfl rfl hS (fun wS hS1 => PV.loadArr 0 T.na2 rfl (Bx.cells (Bx.updD hb1 hS1 (Dj.nlR _))) (Ext.refl _) (by first | omega | (simp only [List.length_set]; omega))) ?_
          refine HP.take rfl rfl rfl rfl hS (fun wS hS1 => PV.add rfl rfl (by constructor <;> omega)) ?_
          refine HP.last rfl rfl (OpK.callC rfl T.cf197 rfl rfl (c_impl_Grammar_choices_1_1 hB (by first | assumption | exact Lo.nl _) (by first | assumption | exact Lo.nl _) (by first | assumption | exact Lo.nl _) (by first | assumption | exact Lo.nl _) (by first | assumption | exact Lo.nl _) (by first | assumption | exact Dj.symm (by assumption)) (by first | assumption | exact Dj.symm (by assumption)) (by first | assumption | exact Dj.symm (by assumption)) (by first | assumption | omega | (simp only [marks_len]; omega)) (by first | assumption | omega | (simp only [marks_len]; omega)) (by first | assumption | omega | (simp only [marks_len]; omega))) (fun rv2 w11 hR => ?_))
          obtain ⟨hUC14, zs15, rfl, hm16, hbn1⟩ := hR
          have hUB := hUB.trans hUC14 ⟨hkB_1, trivial⟩
          have hU1 := hU1.trans hUC14 ⟨hk1_1, trivial⟩
          have hU2 := hU2.trans hUC14 ⟨hk2_1, trivial⟩
          have hb2 := hb2.loop hUC14 ⟨(Dj.symm hd1_2), trivial⟩
          have hb3 := hb3.loop hUC14 ⟨(Dj.symm hd1_3), trivial⟩
          have hb4 := hb4.loop hUC14 ⟨(Dj.symm hd1_4), trivial⟩
          have hb5 := hb5.loop hUC14 ⟨(Dj.symm hd1_5), trivial⟩
          have hb6 := hb6.loop hUC14 ⟨(Dj.symm hd1_6), trivial⟩
          have hb10 := hb10.loop hUC14 ⟨(Dj.symm hd1_10), trivial⟩
          have hB := hB.loop hUC14 ⟨hl1, trivial⟩
          have hb1 := hbn1
          refine HP.done ?_
          refine NQ.block ?_
          refine NQ.then ?_
          refine CW.reg ?_
          refine WL.pure rfl rfl rfl (PV.add rfl rfl (by constructor <;> omega)) ?_
          refine WL.mv rfl rfl ?_
          refine WL.nil ?_
          refine NQ.next (ρ := [(35, _)]) ⟨rfl, rfl, rfl, rfl, rfl, rfl, rfl, rfl, rfl, rfl, trivial⟩ ?_
          exact ⟨_, ⟨K + 1, _, rfl, rfl, hU2, bxM hb1 (by rfl), (by first | omega | assumption | (simp_all; done) | (simp_all; omega)), (by first | (exfalso; omega) | exact hp.leafZ (by assumption) hg (by omega) (by omega) (by omega) (by omega) (by omega) (by omega) (by assumption) (by omega) (by omega) (by assumption) | exact hp.nodeZ (by assumption) (by simp only [kC, rl]; omega) (by simp only [kC, rl]; omega) hg (by omega) (by omega) (by omega) (by omega) (by omega) (by omega) (by assumption) (by omega) (by omega) | exact hp.skip (noCand_node (by assumption) (by omega)) | exact hp.skip (noCand_leaf (by assumption) (fun h9 => by have h91 := h9.1; have h92 := h9.2.1; first | omega | exact absurd h9.2.2 (by assumption))))⟩, by omega⟩
        try simp only [nq] at hc9
        refine CW.skip ?_
        refine NQ.block ?_
        refine NQ.then ?_
        refine CW.reg ?_
        refine WL.pure rfl rfl rfl (PV.add rfl rfl (by constructor <;> omega)) ?_
        refine WL.mv rfl rfl ?_
        refine WL.nil ?_
        refine NQ.next (ρ := [(35, _)]) ⟨rfl, rfl, rfl, rfl, rfl, rfl, rfl, rfl, rfl, rfl, trivial⟩ ?_
        exact ⟨_, ⟨K + 1, _, rfl, rfl, hU2, bxM hb1 (by rfl), (by first | omega | assumption | (simp_all; done) | (simp_all; omega)), (by first | (exfalso; omega) | exact hp.leafZ (by assumption) hg (by omega) (by omega) (by omega) (by omega) (by omega) (by omega) (by assumption) (by omega) (by omega) (by assumption) | exact hp.nodeZ (by assumption) (by simp only [kC, rl]; omega) (by simp only [kC, rl]; omega) hg (by omega) (by omega) (by omega) (by omega) (by omega) (by omega) (by assumption) (by omega) (by omega) | exact hp.skip (noCand_node (by assumption) (by omega)) | exact hp.skip (noCand_leaf (by assumption) (fun h9 => by have h91 := h9.1; have h92 := h9.2.1; first | omega | exact absurd h9.2.2 (by assumption))))⟩, by omega⟩
      try simp only [nq] at hc7
      refine HP.takeG rfl rfl rfl rfl rfl rfl hS (fun wS hS1 => PV.load0 T.na3 rfl (Bx.cells (Bx.updD (by assumption) hS1 (Dj.nlR _))) (Ext.refl _) rfl) ?_
      refine HP.takeG rfl rfl rfl rfl rfl rfl hS (fun wS hS1 => PV.load0 T.na3 rfl (Bx.cells (Bx.updD (by assumption) hS1 (Dj.nlR _))) (Ext.refl _) rfl) ?_
      refine HP.takeG rfl rfl rfl rfl rfl rfl hS (fun wS hS1 => PV.add rfl rfl (by constructor <;> omega)) ?_
      refine HP.takeG rfl rfl rfl rfl rfl rfl hS (fun wS hS1 => PV.eql rfl rfl) ?_
      refine HP.take rfl rfl rfl rfl hS (fun wS hS1 => PV.pickT rfl rfl) ?_
      refine HP.take rfl rfl rfl rfl hS (fun wS hS1 => PV.move rfl) ?_
      refine HP.split (t := 54) rfl (fun hc10 => ?_) (fun hc10 => ?_)
      rotate_left
      · skip
        try simp only [nq] at hc10
        refine HP.skip rfl rfl rfl rfl rfl rfl hS ?_
        refine HP.skip rfl rfl rfl rfl rfl rfl hS ?_
        refine HP.skip rfl rfl rfl rfl rfl rfl hS ?_
        refine HP.skip rfl rfl rfl rfl rfl rfl hS ?_
        refine HP.skip rfl rfl rfl rfl rfl rfl hS ?_
        refine HP.skip rfl rfl rfl rfl rfl rfl hS ?_
        refine HP.skip rfl rfl rfl rfl rfl rfl hS ?_
        refine HP.take rfl rfl rfl rfl hS (fun wS hS1 => PV.pickF rfl rfl) ?_
        refine HP.doneS ?_
        refine CW.condF rfl ?_
        refine CW.skipS ?_
        refine CW.seq ?_
        refine CW.reg ?_
        refine WL.pure rfl rfl rfl (PV.fieldAddr T.fl56_2 rfl hb10.cells) ?_
        refine WL.pure rfl rfl rfl (PV.load1 T.na2 rfl hb10.cells (Ext.refl _) rfl) ?_
        refine WL.pure rfl rfl rfl (PV.geq rfl rfl) ?_
        refine WL.mv rfl rfl ?_
        refine WL.split (t := 73) rfl (fun hc11 => ?_) (fun hc11 => ?_)
        rotate_left
        · skip
          try simp only [nq] at hc11
          refine WL.skip rfl rfl rfl rfl rfl ?_
          refine WL.skip rfl rfl rfl rfl rfl ?_
          refine WL.skip rfl rfl rfl rfl rfl ?_
          refine WL.pure rfl rfl rfl (PV.pickF rfl rfl) ?_
          refine WL.nilS ?_
          refine CW.condF rfl ?_
          refine CW.skip ?_
          refine NQ.block ?_
          refine NQ.then ?_
          refine CW.reg ?_
          refine WL.pure rfl rfl rfl (PV.add rfl rfl (by constructor <;> omega)) ?_
          refine WL.mv rfl rfl ?_
          refine WL.nil ?_
          refine NQ.next (ρ := [(35, _)]) ⟨rfl, rfl, rfl, rfl, rfl, rfl, rfl, rfl, rfl, rfl, trivial⟩ ?_
          exact ⟨_, ⟨K + 1, _, rfl, rfl, hU2, bxM hb1 (by rfl), (by first | omega | assumption | (simp_all; done) | (simp_all; omega)), (by first | (exfalso; omega) | exact hp.leafZ (by assumption) hg (by omega) (by omega) (by omega) (by omega) (by omega) (by omega) (by assumption) (by omega) (by omega) (by assumption) | exact hp.nodeZ (by assumption) (by simp only [kC, rl]; omega) (by simp only [kC, rl]; omega) hg (by omega) (by omega) (by omega) (by omega) (by omega) (by omega) (by assumption) (by omega) (by omega) | exact hp.skip (noCand_node (by assumption) (by omega)) | exact hp.skip (noCand_leaf (by assumption) (fun h9 => by have h91 := h9.1; have h92 := h9.2.1; first | omega | exact absurd h9.2.2 (by assumption))))⟩, by omega⟩
        try simp only [nq] at hc11
        refine WL.pureG rfl rfl rfl rfl rfl (PV.move rfl) ?_
        refine WL.pureG rfl rfl rfl rfl rfl (PV.load0 T.na3 rfl hb5.cells (Ext.refl _) rfl) ?_
        refine WL.pureG rfl rfl rfl rfl rfl (PV.gtr rfl rfl) ?_
        refine WL.pure rfl rfl rfl (PV.pickT rfl rfl) ?_
        refine WL.nilS ?_
        refine CW.cond rfl (fun hc12 => ?_) (fun hc12 => ?_)
        · skip
          try simp only [nq] at hc12
          refine CW.draw T.mixed (by kernel_rfl) (fun _ _ _ _ _ h => h) (fun w8 w9 => Upd none w8 w9) 30 (.take 0 (.take 1 (.take 2 (.take 3 (.take 4 (.take 5 (.take 6 (.take 7 (.take 8 (.take 9 (.take 10 (.take 11 (.take 12 (.take 13 (.take 14 (.take 15 (.take 16 (.take 17 (.take 18 (.take 19 (.take 20 (.take 21 (.take 22 (.take 23 (.take 24 (.take 25 (.take 26 (.take 27 (.take 28 (.take 29 (.must 30 .done))))))))))))))))))))))))))))))) (by kernel_rfl) (fun w12 hXd => ?_)
          have hB := hB.trans hXd
          have hb1 := hb1.up hXd
          have hb2 := hb2.up hXd
          have hb3 := hb3.up hXd
          have hb4 := hb4.up hXd
          have hb5 := hb5.up hXd
          have hb6 := hb6.up hXd
          have hb10 := hb10.up hXd
          have hUB := hUB.ext hXd
          have hU1 := hU1.ext hXd
          have hU2 := hU2.ext hXd
          have hBr := hB
          have hS : Upd none w12 w12 := Ext.toUpd (Ext.refl _)
          have hgl := gram_left hg K (by omega); have hgl1 : 0 ≤ (xa2.getD K (0, 0, 0, 0)).1 := hgl.1; have hgl2 : (xa2.getD K (0, 0, 0, 0)).1 < a0 := hgl.2; have hyn := hp.1; have hk3 : 0 ≤ (xa2.getD K (0, 0, 0, 0)).2.2.2 ∧ (xa2.getD K (0, 0, 0, 0)).2.2.2 ≤ 1000 := (hg.2.2.2 K (by omega)).2.2.1; have hgn := gram_node hg (k := K) (by omega) (by assumption); have gn1 : 0 ≤ (xa2.getD K (0, 0, 0, 0)).2.1 ∧ (xa2.getD K (0, 0, 0, 0)).2.1 < a0 := hgn.1; have gn2 : 0 ≤ (xa2.getD K (0, 0, 0, 0)).2.2.1 ∧ (xa2.getD K (0, 0, 0, 0)).2.2.1 < a0 := hgn.2; have o1 := (hp.leftC (m := M) (by omega) (by omega) (by omega) (by omega) (by omega) gn1).rng hg (by omega) (by omega); have o2 := (hp.rightC (m := M) (by omega) (by omega) (by omega) (by omega) (by omega) gn2).rng hg (by omega) (by omega); have ez1 : ys1.getD (i * 312 + M * 24 + (xa2.getD K (0, 0, 0, 0)).2.1.toNat * 3) 0 = co ys1 i M (xa2.getD K (0, 0, 0, 0)).2.1 := congrArg (fun q => ys1.getD q 0) (show _ = 3 * ((i * 13 + M) * 8 + (xa2.getD K (0, 0, 0, 0)).2.1.toNat) from (by omega)); have ez2 : ys1.getD (M * 312 + (i + L) * 24 + (xa2.getD K (0, 0, 0, 0)).2.2.1.toNat * 3) 0 = co ys1 M (i + L) (xa2.getD K (0, 0, 0, 0)).2.2.1 := congrArg (fun q => ys1.getD q 0) (show _ = 3 * ((M * 13 + (i + L)) * 8 + (xa2.getD K (0, 0, 0, 0)).2.2.1.toNat) from (by omega))
          refine HP.take rfl rfl rfl rfl hS (fun wS hS1 => PV.move rfl) ?_
          refine HP.take rfl rfl rfl rfl hS (fun wS hS1 => PV.loadA T.ag56 rfl (Bx.cells (Bx.updD (by assumption) hS1 (Dj.nlR _))) (Ext.refl _) rfl) ?_
          refine HP.take rfl rfl rfl rfl hS (fun wS hS1 => PV.move rfl) ?_
          refine HP.take rfl rfl rfl rfl hS (fun wS hS1 => PV.move rfl) ?_
          refine HP.take rfl rfl rfl rfl hS (fun wS hS1 => PV.fieldAddr T.fl56_3 rfl hb10.cells) ?_
          refine HP.take rfl rfl rfl rfl hS (fun wS hS1 => PV.load1 T.na2 rfl (Bx.cells (Bx.updD (by assumption) hS1 (Dj.nlR _))) (Ext.refl _) rfl) ?_
          refine HP.take rfl rfl rfl rfl hS (fun wS hS1 => PV.load0 T.na131 rfl (Bx.cells (Bx.updD (by assumption) hS1 (Dj.nlR _))) (Ext.refl _) rfl) ?_
          refine HP.take rfl rfl rfl rfl hS (fun wS hS1 => PV.load0 T.na3 rfl (Bx.cells (Bx.updD (by assumption) hS1 (Dj.nlR _))) (Ext.refl _) rfl) ?_
          refine HP.take rfl rfl rfl rfl hS (fun wS hS1 => PV.move rfl) ?_
          refine HP.take rfl rfl rfl rfl hS (fun wS hS1 => PV.fieldAddr T.fl56_1 rfl hb10.cells) ?_
          refine HP.take rfl rfl rfl rfl hS (fun wS hS1 => PV.load1 T.na2 rfl (Bx.cells (Bx.updD (by assumption) hS1 (Dj.nlR _))) (Ext.refl _) rfl) ?_
          refine HP.take rfl rfl rfl rfl hS (fun wS hS1 => PV.nilCheck rfl) ?_
          refine HP.take rfl rfl rfl rfl hS (fun wS hS1 => (by first | exact PV.ixN T.ar220 rfl hb1.spot rfl (by omega) | exact PV.ixZ T.ar220 rfl hb1.spot rfl (by omega))) ?_
          refine HP.take rfl rfl rfl rfl hS (fun wS hS1 => (by first | exact PV.ixPN T.ar130 rfl rfl (by omega) | exact PV.ixPZ T.ar130 rfl rfl (by omega))) ?_
          refine HP.take rfl rfl rfl rfl hS (fun wS hS1 => (by first | exact PV.ixPN T.ar129 rfl rfl (by omega) | exact PV.ixPZ T.ar129 rfl rfl (by omega))) ?_
          refine HP.take rfl rfl rfl rfl hS (fun wS hS1 => PV.fieldAddrP0 T.fl128_0 rfl) ?_
          refine HP.take rfl rfl rfl rfl hS (fun wS hS1 => PV.loadArr 0 T.na2 rfl (Bx.cells (Bx.updD hb1 hS1 (Dj.nlR _))) (Ext.refl _) (by first | omega | (simp only [List.length_set]; omega))) ?_
          refine HP.take rfl rfl rfl rfl hS (fun wS hS1 => PV.add rfl rfl (by constructor <;> omega)) ?_
          refine HP.take rfl rfl rfl rfl hS (fun wS hS1 => PV.load0 T.na131 rfl (Bx.cells (Bx.updD (by assumption) hS1 (Dj.nlR _))) (Ext.refl _) rfl) ?_
          refine HP.take rfl rfl rfl rfl hS (fun wS hS1 => PV.move rfl) ?_
          refine HP.take rfl rfl rfl rfl hS (fun wS hS1 => PV.load0 T.na3 rfl (Bx.cells (Bx.updD (by assumption) hS1 (Dj.nlR _))) (Ext.refl _) rfl) ?_
          refine HP.take rfl rfl rfl rfl hS (fun wS hS1 => PV.fieldAddr T.fl56_2 rfl hb10.cells) ?_
          refine HP.take rfl rfl rfl rfl hS (fun wS hS1 => PV.load1 T.na2 rfl (Bx.cells (Bx.updD (by assumption) hS1 (Dj.nlR _))) (Ext.refl _) rfl) ?_
          refine HP.take rfl rfl rfl rfl hS (fun wS hS1 => PV.nilCheck rfl) ?_
          refine HP.take rfl rfl rfl rfl hS (fun wS hS1 => (by first | exact PV.ixN T.ar220 rfl hb1.spot rfl (by omega) | exact PV.ixZ T.ar220 rfl hb1.spot rfl (by omega))) ?_
          refine HP.take rfl rfl rfl rfl hS (fun wS hS1 => (by first | exact PV.ixPN T.ar130 rfl rfl (by omega) | exact PV.ixPZ T.ar130 rfl rfl (by omega))) ?_
          refine HP.take rfl rfl rfl rfl hS (fun wS hS1 => (by first | exact PV.ixPN T.ar129 rfl rfl (by omega) | exact PV.ixPZ T.ar129 rfl rfl (by omega))) ?_
          refine HP.take rfl rfl rfl rfl hS (fun wS hS1 => PV.fieldAddrP0 T.fl128_0 rfl) ?_
          refine HP.take rfl rfl rfl rfl hS (fun wS hS1 => PV.loadArr 0 T.na2 rfl (Bx.cells (Bx.updD hb1 hS1 (Dj.nlR _))) (Ext.refl _) (by first | omega | (simp only [List.length_set]; omega))) ?_
          refine HP.take rfl rfl rfl rfl hS (fun wS hS1 => PV.add rfl rfl (by constructor <;> omega)) ?_
          refine HP.last rfl rfl (OpK.callC rfl T.cf197 rfl rfl (c_impl_Grammar_choices_1_1 hB (by first | assumption | exact Lo.nl _) (by first | assumption | exact Lo.nl _) (by first | assumption | exact Lo.nl _) (by first | assumption | exact Lo.nl _) (by first | assumption | exact Lo.nl _) (by first | assumption | exact Dj.symm (by assumption)) (by first | assumption | exact Dj.symm (by assumption)) (by first | assumption | exact Dj.symm (by assumption)) (by first | assumption | omega | (simp only [marks_len]; omega)) (by first | assumption | omega | (simp only [marks_len]; omega)) (by first | assumption | omega | (simp only [marks_len]; omega))) (fun rv3 w13 hR => ?_))
          obtain ⟨hUC17, zs18, rfl, hm19, hbn1⟩ := hR
          have hUB := hUB.trans hUC17 ⟨hkB_1, trivial⟩
          have hU1 := hU1.trans hUC17 ⟨hk1_1, trivial⟩
          have hU2 := hU2.trans hUC17 ⟨hk2_1, trivial⟩
          have hb2 := hb2.loop hUC17 ⟨(Dj.symm hd1_2), trivial⟩
          have hb3 := hb3.loop hUC17 ⟨(Dj.symm hd1_3), trivial⟩
          have hb4 := hb4.loop hUC17 ⟨(Dj.symm hd1_4), trivial⟩
          have hb5 := hb5.loop hUC17 ⟨(Dj.symm hd1_5), trivial⟩
          have hb6 := hb6.loop hUC17 ⟨(Dj.symm hd1_6), trivial⟩
          have hb10 := hb10.loop hUC17 ⟨(Dj.symm hd1_10), trivial⟩
          have hB := hB.loop hUC17 ⟨hl1, trivial⟩
          have hb1 := hbn1
          refine HP.done ?_
          refine NQ.block ?_
          refine NQ.then ?_
          refine CW.reg ?_
          refine WL.pure rfl rfl rfl (PV.add rfl rfl (by constructor <;> omega)) ?_
          refine WL.mv rfl rfl ?_
          refine WL.nil ?_
          refine NQ.next (ρ := [(35, _)]) ⟨rfl, rfl, rfl, rfl, rfl, rfl, rfl, rfl, rfl, rfl, trivial⟩ ?_
          exact ⟨_, ⟨K + 1, _, rfl, rfl, hU2, bxM hb1 (by rfl), (by first | omega | assumption | (simp_all; done) | (simp_all; omega)), (by first | (exfalso; omega) | exact hp.leafZ (by assumption) hg (by omega) (by omega) (by omega) (by omega) (by omega) (by omega) (by assumption) (by omega) (by omega) (by assumption) | exact hp.nodeZ (by assumption) (by simp only [kC, rl]; omega) (by simp only [kC, rl]; omega) hg (by omega) (by omega) (by omega) (by omega) (by omega) (by omega) (by assumption) (by omega) (by omega) | exact hp.skip (noCand_node (by assumption) (by omega)) | exact hp.skip (noCand_leaf (by assumption) (fun h9 => by have h91 := h9.1; have h92 := h9.2.1; first | omega | exact absurd h9.2.2 (by assumption))))⟩, by omega⟩
        try simp only [nq] at hc12
        refine CW.skip ?_
        refine NQ.block ?_
        refine NQ.then ?_
        refine CW.reg ?_
        refine WL.pure rfl rfl rfl (PV.add rfl rfl (by constructor <;> omega)) ?_
        refine WL.mv rfl rfl ?_
        refine WL.nil ?_
        refine NQ.next (ρ := [(35, _)]) ⟨rfl, rfl, rfl, rfl, rfl, rfl, rfl, rfl, rfl, rfl, trivial⟩ ?_
        exact ⟨_, ⟨K + 1, _, rfl, rfl, hU2, bxM hb1 (by rfl), (by first | omega | assumption | (simp_all; done) | (simp_all; omega)), (by first | (exfalso; omega) | exact hp.leafZ (by assumption) hg (by omega) (by omega) (by omega) (by omega) (by omega) (by omega) (by assumption) (by omega) (by omega) (by assumption) | exact hp.nodeZ (by assumption) (by simp only [kC, rl]; omega) (by simp only [kC, rl]; omega) hg (by omega) (by omega) (by omega) (by omega) (by omega) (by omega) (by assumption) (by omega) (by omega) | exact hp.skip (noCand_node (by assumption) (by omega)) | exact hp.skip (noCand_leaf (by assumption) (fun h9 => by have h91 := h9.1; have h92 := h9.2.1; first | omega | exact absurd h9.2.2 (by assumption))))⟩, by omega⟩
      try simp only [nq] at hc10
      refine HP.takeG rfl rfl rfl rfl rfl rfl hS (fun wS hS1 => PV.load0 T.na28 rfl (Bx.cells (Bx.updD (by assumption) hS1 (Dj.nlR _))) (Ext.refl _) rfl) ?_
      refine HP.takeG rfl rfl rfl rfl rfl rfl hS (fun wS hS1 => PV.load0 T.na3 rfl (Bx.cells (Bx.updD (by assumption) hS1 (Dj.nlR _))) (Ext.refl _) rfl) ?_
      first
        | refine HP.at (x := .tmp 55) (y := .tmp 56) (E := EI) (0) rfl rfl (by first | assumption | exact Inn.rd (by assumption) (by omega)) (by first | omega | (simp only [List.length_set]; omega) | (simp only [List.length_append, List.length_take, List.length_replicate, List.length_drop]; omega)) (fun p2 csp2 hpp2 hcp2 hq => ?_)
        | refine HP.atZ (x := .tmp 55) (y := .tmp 56) (E := EI) (0) rfl rfl (by first | assumption | exact Inn.rd (by assumption) (by omega)) (by first | omega | (simp only [List.length_set]; omega) | (simp only [List.length_append, List.length_take, List.length_replicate, List.length_drop]; omega)) (fun p2 csp2 hpp2 hzp2 hcp2 hq => ?_)
      cases hq
      refine HP.takeG rfl rfl rfl rfl rfl rfl hS (fun wS hS1 => (by first | exact PV.indexAddr hpp2 rfl rfl T.sl28 | exact PV.indexAddr hpp2 rfl (by rw [← hzp2]; rfl) T.sl28)) ?_
      refine HP.takeG rfl rfl rfl rfl rfl rfl hS (fun wS hS1 => (by first | exact PV.load0 T.na2 rfl (by first | exact Cells.up (by assumption) (hBr.trans hS1) | exact Bx.cells (Bx.updD (by assumption) hS1 (Dj.nlR _)) | exact Cells.upd (by assumption) hS1 (by simp)) (Ext.refl _) rfl | exact PV.load1 T.na2 rfl (by first | exact Cells.up (by assumption) (hBr.trans hS1) | exact Bx.cells (Bx.updD (by assumption) hS1 (Dj.nlR _)) | exact Cells.upd (by assumption) hS1 (by simp)) (Ext.refl _) rfl)) ?_
      refine HP.takeG rfl rfl rfl rfl rfl rfl hS (fun wS hS1 => PV.fieldAddr T.fl56_1 rfl hb10.cells) ?_
      refine HP.takeG rfl rfl rfl rfl rfl rfl hS (fun wS hS1 => PV.load1 T.na2 rfl (Bx.cells (Bx.updD (by assumption) hS1 (Dj.nlR _))) (Ext.refl _) rfl) ?_
      refine HP.takeG rfl rfl rfl rfl rfl rfl hS (fun wS hS1 => PV.eql rfl rfl) ?_
      refine HP.take rfl rfl rfl rfl hS (fun wS hS1 => PV.pickT rfl rfl) ?_
      refine HP.doneS ?_
      refine CW.cond rfl (fun hc13 => ?_) (fun hc13 => ?_)
      · skip
        try simp only [nq] at hc13
        refine CW.reg ?_
        refine WL.mv rfl rfl ?_
        refine WL.pure rfl rfl rfl (PV.loadA T.ag56 rfl hb10.cells (Ext.refl _) rfl) ?_
        refine WL.mv rfl rfl ?_
        refine WL.mv rfl rfl ?_
        refine WL.pure rfl rfl rfl (PV.fieldAddr T.fl56_3 rfl hb10.cells) ?_
        refine WL.pure rfl rfl rfl (PV.load1 T.na2 rfl hb10.cells (Ext.refl _) rfl) ?_
        refine WL.op rfl (OpK.callC rfl T.cf197 rfl rfl (c_impl_Grammar_choices_1_1 hB (by first | assumption | exact Lo.nl _) (by first | assumption | exact Lo.nl _) (by first | assumption | exact Lo.nl _) (by first | assumption | exact Lo.nl _) (by first | assumption | exact Lo.nl _) (by first | assumption | exact Dj.symm (by assumption)) (by first | assumption | exact Dj.symm (by assumption)) (by first | assumption | exact Dj.symm (by assumption)) (by first | assumption | omega | (simp only [marks_len]; omega)) (by first | assumption | omega | (simp only [marks_len]; omega)) (by first | assumption | omega | (simp only [marks_len]; omega))) (fun rv4 w14 hR => ?_))
        obtain ⟨hUC20, zs21, rfl, hm22, hbn1⟩ := hR
        have hUB := hUB.trans hUC20 ⟨hkB_1, trivial⟩
        have hU1 := hU1.trans hUC20 ⟨hk1_1, trivial⟩
        have hU2 := hU2.trans hUC20 ⟨hk2_1, trivial⟩
        have hb2 := hb2.loop hUC20 ⟨(Dj.symm hd1_2), trivial⟩
        have hb3 := hb3.loop hUC20 ⟨(Dj.symm hd1_3), trivial⟩
        have hb4 := hb4.loop hUC20 ⟨(Dj.symm hd1_4), trivial⟩
        have hb5 := hb5.loop hUC20 ⟨(Dj.symm hd1_5), trivial⟩
        have hb6 := hb6.loop hUC20 ⟨(Dj.symm hd1_6), trivial⟩
        have hb10 := hb10.loop hUC20 ⟨(Dj.symm hd1_10), trivial⟩
        have hB := hB.loop hUC20 ⟨hl1, trivial⟩
        have hb1 := hbn1
        refine WL.nilS ?_
        refine CW.seq ?_
        refine CW.reg ?_
        refine WL.pure rfl rfl rfl (PV.fieldAddr T.fl56_2 rfl hb10.cells) ?_
        refine WL.pure rfl rfl rfl (PV.load1 T.na2 rfl hb10.cells (Ext.refl _) rfl) ?_
        refine WL.pure rfl rfl rfl (PV.geq rfl rfl) ?_
        refine WL.mv rfl rfl ?_
        refine WL.split (t := 73) rfl (fun hc14 => ?_) (fun hc14 => ?_)
        rotate_left
        · skip
          try simp only [nq] at hc14
          refine WL.skip rfl rfl rfl rfl rfl ?_
          refine WL.skip rfl rfl rfl rfl rfl ?_
          refine WL.skip rfl rfl rfl rfl rfl ?_
          refine WL.pure rfl rfl rfl (PV.pickF rfl rfl) ?_
          refine WL.nilS ?_
          refine CW.condF rfl ?_
          refine CW.skip ?_
          refine NQ.block ?_
          refine NQ.then ?_
          refine CW.reg ?_
          refine WL.pure rfl rfl rfl (PV.add rfl rfl (by constructor <;> omega)) ?_
          refine WL.mv rfl rfl ?_
          refine WL.nil ?_
          refine NQ.next (ρ := [(35, _)]) ⟨rfl, rfl, rfl, rfl, rfl, rfl, rfl, rfl, rfl, rfl, trivial⟩ ?_
          exact ⟨_, ⟨K + 1, _, rfl, rfl, hU2, bxM hb1 (by rfl), (by first | omega | assumption | (simp_all; done) | (simp_all; omega)), (by first | (exfalso; omega) | exact hp.leafZ (by assumption) hg (by omega) (by omega) (by omega) (by omega) (by omega) (by omega) (by assumption) (by omega) (by omega) (by assumption) | exact hp.nodeZ (by assumption) (by simp only [kC, rl]; omega) (by simp only [kC, rl]; omega) hg (by omega) (by omega) (by omega) (by omega) (by omega) (by omega) (by assumption) (by omega) (by omega) | exact hp.skip (noCand_node (by assumption) (by omega)) | exact hp.skip (noCand_leaf (by assumption) (fun h9 => by have h91 := h9.1; have h92 := h9.2.1; first | omega | exact absurd h9.2.2 (by assumption))))⟩, by omega⟩
        try simp only [nq] at hc14
        refine WL.pureG rfl rfl rfl rfl rfl (PV.move rfl) ?_
        refine WL.pureG rfl rfl rfl rfl rfl (PV.load0 T.na3 rfl hb5.cells (Ext.refl _) rfl) ?_
        refine WL.pureG rfl rfl rfl rfl rfl (PV.gtr rfl rfl) ?_
        refine WL.pure rfl rfl rfl (PV.pickT rfl rfl) ?_
        refine WL.nilS ?_
        refine CW.cond rfl (fun hc15 => ?_) (fun hc15 => ?_)
        · skip
          try simp only [nq] at hc15
          refine CW.draw T.mixed (by kernel_rfl) (fun _ _ _ _ _ h => h) (fun w8 w9 => Upd none w8 w9) 30 (.take 0 (.take 1 (.take 2 (.take 3 (.take 4 (.take 5 (.take 6 (.take 7 (.take 8 (.take 9 (.take 10 (.take 11 (.take 12 (.take 13 (.take 14 (.take 15 (.take 16 (.take 17 (.take 18 (.take 19 (.take 20 (.take 21 (.take 22 (.take 23 (.take 24 (.take 25 (.take 26 (.take 27 (.take 28 (.take 29 (.must 30 .done))))))))))))))))))))))))))))))) (by kernel_rfl) (fun w15 hXd => ?_)
          have hB := hB.trans hXd
          have hb1 := hb1.up hXd
          have hb2 := hb2.up hXd
          have hb3 := hb3.up hXd
          have hb4 := hb4.up hXd
          have hb5 := hb5.up hXd
          have hb6 := hb6.up hXd
          have hb10 := hb10.up hXd
          have hUB := hUB.ext hXd
          have hU1 := hU1.ext hXd
          have hU2 := hU2.ext hXd
          have hBr := hB
          have hS : Upd none w15 w15 := Ext.toUpd (Ext.refl _)
          have hgl := gram_left hg K (by omega); have hgl1 : 0 ≤ (xa2.getD K (0, 0, 0, 0)).1 := hgl.1; have hgl2 : (xa2.getD K (0, 0, 0, 0)).1 < a0 := hgl.2; have hyn := hp.1; have hk3 : 0 ≤ (xa2.getD K (0, 0, 0, 0)).2.2.2 ∧ (xa2.getD K (0, 0, 0, 0)).2.2.2 ≤ 1000 := (hg.2.2.2 K (by omega)).2.2.1; have hgn := gram_node hg (k := K) (by omega) (by assumption); have gn1 : 0 ≤ (xa2.getD K (0, 0, 0, 0)).2.1 ∧ (xa2.getD K (0, 0, 0, 0)).2.1 < a0 := hgn.1; have gn2 : 0 ≤ (xa2.getD K (0, 0, 0, 0)).2.2.1 ∧ (xa2.getD K (0, 0, 0, 0)).2.2.1 < a0 := hgn.2; have o1 := (hp.leftC (m := M) (by omega) (by omega) (by omega) (by omega) (by omega) gn1).rng hg (by omega) (by omega); have o2 := (hp.rightC (m := M) (by omega) (by omega) (by omega) (by omega) (by omega) gn2).rng hg (by omega) (by omega); have ez1 : ys1.getD (i * 312 + M * 24 + (xa2.getD K (0, 0, 0, 0)).2.1.toNat * 3) 0 = co ys1 i M (xa2.getD K (0, 0, 0, 0)).2.1 := congrArg (fun q => ys1.getD q 0) (show _ = 3 * ((i * 13 + M) * 8 + (xa2.getD K (0, 0, 0, 0)).2.1.toNat) from (by omega)); have ez2 : ys1.getD (M * 312 + (i + L) * 24 + (xa2.getD K (0, 0, 0, 0)).2.2.1.toNat * 3) 0 = co ys1 M (i + L) (xa2.getD K (0, 0, 0, 0)).2.2.1 := congrArg (fun q => ys1.getD q 0) (show _ = 3 * ((M * 13 + (i + L)) * 8 + (xa2.getD K (0, 0, 0, 0)).2.2.1.toNat) from (by omega))
          refine HP.take rfl rfl rfl rfl hS (fun wS hS1 => PV.move rfl) ?_
          refine HP.take rfl rfl rfl rfl hS (fun wS hS1 => PV.loadA T.ag56 rfl (Bx.cells (Bx.updD (by assumption) hS1 (Dj.nlR _))) (Ext.refl _) rfl) ?_
          refine HP.take rfl rfl rfl rfl hS (fun wS hS1 => PV.move rfl) ?_
          refine HP.take rfl rfl rfl rfl hS (fun wS hS1 => PV.move rfl) ?_
          refine HP.take rfl rfl rfl rfl hS (fun wS hS1 => PV.fieldAddr T.fl56_3 rfl hb10.cells) ?_
          refine HP.take rfl rfl rfl rfl hS (fun wS hS1 => PV.load1 T.na2 rfl (Bx.cells (Bx.updD (by assumption) hS1 (Dj.nlR _))) (Ext.refl _) rfl) ?_
          refine HP.take rfl rfl rfl rfl hS (fun wS hS1 => PV.load0 T.na131 rfl (Bx.cells (Bx.updD (by assumption) hS1 (Dj.nlR _))) (Ext.refl _) rfl) ?_
          refine HP.take rfl rfl rfl rfl hS (fun wS hS1 => PV.load0 T.na3 rfl (Bx.cells (Bx.updD (by assumption) hS1 (Dj.nlR _))) (Ext.refl _) rfl) ?_
          refine HP.take rfl rfl rfl rfl hS (fun wS hS1 => PV.move rfl) ?_
          refine HP.take rfl rfl rfl rfl hS (fun wS hS1 => PV.fieldAddr T.fl56_1 rfl hb10.cells) ?_
          refine HP.take rfl rfl rfl rfl hS (fun wS hS1 => PV.load1 T.na2 rfl (Bx.cells (Bx.updD (by assumption) hS1 (Dj.nlR _))) (Ext.refl _) rfl) ?_
          refine HP.take rfl rfl rfl rfl hS (fun wS hS1 => PV.nilCheck rfl) ?_
          refine HP.take rfl rfl rfl rfl hS (fun wS hS1 => (by first | exact PV.ixN T.ar220 rfl hb1.spot rfl (by omega) | exact PV.ixZ T.ar220 rfl hb1.spot rfl (by omega))) ?_
          refine HP.take rfl rfl rfl rfl hS (fun wS hS1 => (by first | exact PV.ixPN T.ar130 rfl rfl (by omega) | exact PV.ixPZ T.ar130 rfl rfl (by omega))) ?_
          refine HP.take rfl rfl rfl rfl hS (fun wS hS1 => (by first | exact PV.ixPN T.ar129 rfl rfl (by omega) | exact PV.ixPZ T.ar129 rfl rfl (by omega))) ?_
          refine HP.take rfl rfl rfl rfl hS (fun wS hS1 => PV.fieldAddrP0 T.fl128_0 rfl) ?_
          refine HP.take rfl rfl rfl rfl hS (fun wS hS1 => PV.loadArr 0 T.na2 rfl (Bx.cells (Bx.updD hb1 hS1 (Dj.nlR _))) (Ext.refl _) (by first | omega | (simp only [List.length_set]; omega))) ?_
          refine HP.take rfl rfl rfl rfl hS (fun wS hS1 => PV.add rfl rfl (by constructor <;> omega)) ?_
          refine HP.take rfl rfl rfl rfl hS (fun wS hS1 => PV.load0 T.na131 rfl (Bx.cells (Bx.updD (by assumption) hS1 (Dj.nlR _))) (Ext.refl _) rfl) ?_
          refine HP.take rfl rfl rfl rfl hS (fun wS hS1 => PV.move rfl) ?_
          refine HP.take rfl rfl rfl rfl hS (fun wS hS1 => PV.load0 T.na3 rfl (Bx.cells (Bx.updD (by assumption) hS1 (Dj.nlR _))) (Ext.refl _) rfl) ?_
          refine HP.take rfl rfl rfl rfl hS (fun wS hS1 => PV.fieldAddr T.fl56_2 rfl hb10.cells) ?_
          refine HP.take rfl rfl rfl rfl hS (fun wS hS1 => PV.load1 T.na2 rfl (Bx.cells (Bx.updD (by assumption) hS1 (Dj.nlR _))) (Ext.refl _) rfl) ?_
          refine HP.take rfl rfl rfl rfl hS (fun wS hS1 => PV.nilCheck rfl) ?_
          refine HP.take rfl rfl rfl rfl hS (fun wS hS1 => (by first | exact PV.ixN T.ar220 rfl hb1.spot rfl (by omega) | exact PV.ixZ T.ar220 rfl hb1.spot rfl (by omega))) ?_
          refine HP.take rfl rfl rfl rfl hS (fun wS hS1 => (by first | exact PV.ixPN T.ar130 rfl rfl (by omega) | exact PV.ixPZ T.ar130 rfl rfl (by omega))) ?_
          refine HP.take rfl rfl rfl rfl hS (fun wS hS1 => (by first | exact PV.ixPN T.ar129 rfl rfl (by omega) | exact PV.ixPZ T.ar129 rfl rfl (by omega))) ?_
          refine HP.take rfl rfl rfl rfl hS (fun wS hS1 => PV.fieldAddrP0 T.fl128_0 rfl) ?_
          refine HP.take rfl rfl rfl rfl hS (fun wS hS1 => PV.loadArr 0 T.na2 rfl (Bx.cells (Bx.updD hb1 hS1 (Dj.nlR _))) (Ext.refl _) (by first | omega | (simp only [List.length_set]; omega))) ?_
          refine HP.take rfl rfl rfl rfl hS (fun wS hS1 => PV.add rfl rfl (by constructor <;> omega)) ?_
          refine HP.last rfl rfl (OpK.callC rfl T.cf197 rfl rfl (c_impl_Grammar_choices_1_1 hB (by first | assumption | exact Lo.nl _) (by first | assumption | exact Lo.nl _) (by first | assumption | exact Lo.nl _) (by first | assumption | exact Lo.nl _) (by first | assumption | exact Lo.nl _) (by first | assumption | exact Dj.symm (by assumption)) (by first | assumption | exact Dj.symm (by assumption)) (by first | assumption | exact Dj.symm (by assumption)) (by first | assumption | omega | (simp only [marks_len]; omega)) (by first | assumption | omega | (simp only [marks_len]; omega)) (by first | assumption | omega | (simp only [marks_len]; omega))) (fun rv5 w16 hR => ?_))
          obtain ⟨hUC23, zs24, rfl, hm25, hbn1⟩ := hR
          have hUB := hUB.trans hUC23 ⟨hkB_1, trivial⟩
          have hU1 := hU1.trans hUC23 ⟨hk1_1, trivial⟩
          have hU2 := hU2.trans hUC23 ⟨hk2_1, trivial⟩
          have hb2 := hb2.loop hUC23 ⟨(Dj.symm hd1_2), trivial⟩
          have hb3 := hb3.loop hUC23 ⟨(Dj.symm hd1_3), trivial⟩
          have hb4 := hb4.loop hUC23 ⟨(Dj.symm hd1_4), trivial⟩
          have hb5 := hb5.loop hUC23 ⟨(Dj.symm hd1_5), trivial⟩
          have hb6 := hb6.loop hUC23 ⟨(Dj.symm hd1_6), trivial⟩
          have hb10 := hb10.loop hUC23 ⟨(Dj.symm hd1_10), trivial⟩
          have hB := hB.loop hUC23 ⟨hl1, trivial⟩
          have hb1 := hbn1
          refine HP.done ?_
          refine NQ.block ?_
          refine NQ.then ?_
          refine CW.reg ?_
          refine WL.pure rfl rfl rfl (PV.add rfl rfl (by constructor <;> omega)) ?_
          refine WL.mv rfl rfl ?_
          refine WL.nil ?_
          refine NQ.next (ρ := [(35, _)]) ⟨rfl, rfl, rfl, rfl, rfl, rfl, rfl, rfl, rfl, rfl, trivial⟩ ?_
          exact ⟨_, ⟨K + 1, _, rfl, rfl, hU2, bxM hb1 (by rfl), (by first | omega | assumption | (simp_all; done) | (simp_all; omega)), (by first | (exfalso; omega) | exact hp.leafZ (by assumption) hg (by omega) (by omega) (by omega) (by omega) (by omega) (by omega) (by assumption) (by omega) (by omega) (by assumption) | exact hp.nodeZ (by assumption) (by simp only [kC, rl]; omega) (by simp only [kC, rl]; omega) hg (by omega) (by omega) (by omega) (by omega) (by omega) (by omega) (by assumption) (by omega) (by omega) | exact hp.skip (noCand_node (by assumption) (by omega)) | exact hp.skip (noCand_leaf (by assumption) (fun h9 => by have h91 := h9.1; have h92 := h9.2.1; first | omega | exact absurd h9.2.2 (by assumption))))⟩, by omega⟩
        try simp only [nq] at hc15
        refine CW.skip ?_
        refine NQ.block ?_
        refine NQ.then ?_
        refine CW.reg ?_
        refine WL.pure rfl rfl rfl (PV.add rfl rfl (by constructor <;> omega)) ?_
        refine WL.mv rfl rfl ?_
        refine WL.nil ?_
        refine NQ.next (ρ := [(35, _)]) ⟨rfl, rfl, rfl, rfl, rfl, rfl, rfl, rfl, rfl, rfl, trivial⟩ ?_
        exact ⟨_, ⟨K + 1, _, rfl, rfl, hU2, bxM hb1 (by rfl), (by first | omega | assumption | (simp_all; done) | (simp_all; omega)), (by first | (exfalso; omega) | exact hp.leafZ (by assumption) hg (by omega) (by omega) (by omega) (by omega) (by omega) (by omega) (by assumption) (by omega) (by omega) (by assumption) | exact hp.nodeZ (by assumption) (by simp only [kC, rl]; omega) (by simp only [kC, rl]; omega) hg (by omega) (by omega) (by omega) (by omega) (by omega) (by omega) (by assumption) (by omega) (by omega) | exact hp.skip (noCand_node (by assumption) (by omega)) | exact hp.skip (noCand_leaf (by assumption) (fun h9 => by have h91 := h9.1; have h92 := h9.2.1; first | omega | exact absurd h9.2.2 (by assumption))))⟩, by omega⟩
      try simp only [nq] at hc13
      refine CW.skipS ?_
      refine CW.seq ?_
      refine CW.reg ?_
      refine WL.pure rfl rfl rfl (PV.fieldAddr T.fl56_2 rfl hb10.cells) ?_
      refine WL.pure rfl rfl rfl (PV.load1 T.na2 rfl hb10.cells (Ext.refl _) rfl) ?_
      refine WL.pure rfl rfl rfl (PV.geq rfl rfl) ?_
      refine WL.mv rfl rfl ?_
      refine WL.split (t := 73) rfl (fun hc16 => ?_) (fun hc16 => ?_)
      rotate_left
      · skip
        try simp only [nq] at hc16
        refine WL.skip rfl rfl rfl rfl rfl ?_
        refine WL.skip rfl rfl rfl rfl rfl ?_
        refine WL.skip rfl rfl rfl rfl rfl ?_
        refine WL.pure rfl rfl rfl (PV.pickF rfl rfl) ?_
        refine WL.nilS ?_
        refine CW.condF rfl ?_
        refine CW.skip ?_
        refine NQ.block ?_
        refine NQ.then ?_
        refine CW.reg ?_
        refine WL.pure rfl rfl rfl (PV.add rfl rfl (by constructor <;> omega)) ?_
        refine WL.mv rfl rfl ?_
        refine WL.nil ?_
        refine NQ.next (ρ := [(35, _)]) ⟨rfl, rfl, rfl, rfl, rfl, rfl, rfl, rfl, rfl, rfl, trivial⟩ ?_
        exact ⟨_, ⟨K + 1, _, rfl, rfl, hU2, bxM hb1 (by rfl), (by first | omega | assumption | (simp_all; done) | (simp_all; omega)), (by first | (exfalso; omega) | exact hp.leafZ (by assumption) hg (by omega) (by omega) (by omega) (by omega) (by omega) (by omega) (by assumption) (by omega) (by omega) (by assumption) | exact hp.nodeZ (by assumption) (by simp only [kC, rl]; omega) (by simp only [kC, rl]; omega) hg (by omega) (by omega) (by omega) (by omega) (by omega) (by omega) (by assumption) (by omega) (by omega) | exact hp.skip (noCand_node (by assumption) (by omega)) | exact hp.skip (noCand_leaf (by assumption) (fun h9 => by have h91 := h9.1; have h92 := h9.2.1; first | omega | exact absurd h9.2.2 (by assumption))))⟩, by omega⟩
      try simp only [nq] at hc16
      refine WL.pureG rfl rfl rfl rfl rfl (PV.move rfl) ?_
      refine WL.pureG rfl rfl rfl rfl rfl (PV.load0 T.na3 rfl hb5.cells (Ext.refl _) rfl) ?_
      refine WL.pureG rfl rfl rfl rfl rfl (PV.gtr rfl rfl) ?_
      refine WL.pure rfl rfl rfl (PV.pickT rfl rfl) ?_
      refine WL.nilS ?_
      refine CW.cond rfl (fun hc17 => ?_) (fun hc17 => ?_)
      · skip
        try simp only [nq] at hc17
        refine CW.draw T.mixed (by kernel_rfl) (fun _ _ _ _ _ h => h) (fun w8 w9 => Upd none w8 w9) 30 (.take 0 (.take 1 (.take 2 (.take 3 (.take 4 (.take 5 (.take 6 (.take 7 (.take 8 (.take 9 (.take 10 (.take 11 (.take 12 (.take 13 (.take 14 (.take 15 (.take 16 (.take 17 (.take 18 (.take 19 (.take 20 (.take 21 (.take 22 (.take 23 (.take 24 (.take 25 (.take 26 (.take 27 (.take 28 (.take 29 (.must 30 .done))))))))))))))))))))))))))))))) (by kernel_rfl) (fun w17 hXd => ?_)
        have hB := hB.trans hXd
        have hb1 := hb1.up hXd
        have hb2 := hb2.up hXd
        have hb3 := hb3.up hXd
        have hb4 := hb4.up hXd
        have hb5 := hb5.up hXd
        have hb6 := hb6.up hXd
        have hb10 := hb10.up hXd
        have hUB := hUB.ext hXd
        have hU1 := hU1.ext hXd
        have hU2 := hU2.ext hXd
        have hBr := hB
        have hS : Upd none w17 w17 := Ext.toUpd (Ext.refl _)
        have hgl := gram_left hg K (by omega); have hgl1 : 0 ≤ (xa2.getD K (0, 0, 0, 0)).1 := hgl.1; have hgl2 : (xa2.getD K (0, 0, 0, 0)).1 < a0 := hgl.2; have hyn := hp.1; have hk3 : 0 ≤ (xa2.getD K (0, 0, 0, 0)).2.2.2 ∧ (xa2.getD K (0, 0, 0, 0)).2.2.2 ≤ 1000 := (hg.2.2.2 K (by omega)).2.2.1; have hgn := gram_node hg (k := K) (by omega) (by assumption); have gn1 : 0 ≤ (xa2.getD K (0, 0, 0, 0)).2.1 ∧ (xa2.getD K (0, 0, 0, 0)).2.1 < a0 := hgn.1; have gn2 : 0 ≤ (xa2.getD K (0, 0, 0, 0)).2.2.1 ∧ (xa2.getD K (0, 0, 0, 0)).2.2.1 < a0 := hgn.2; have o1 := (hp.leftC (m := M) (by omega) (by omega) (by omega) (by omega) (by omega) gn1).rng hg (by omega) (by omega); have o2 := (hp.rightC (m := M) (by omega) (by omega) (by omega) (by omega) (by omega) gn2).rng hg (by omega) (by omega); have ez1 : ys1.getD (i * 312 + M * 24 + (xa2.getD K (0, 0, 0, 0)).2.1.toNat * 3) 0 = co ys1 i M (xa2.getD K (0, 0, 0, 0)).2.1 := congrArg (fun q => ys1.getD q 0) (show _ = 3 * ((i * 13 + M) * 8 + (xa2.getD K (0, 0, 0, 0)).2.1.toNat) from (by omega)); have ez2 : ys1.getD (M * 312 + (i + L) * 24 + (xa2.getD K (0, 0, 0, 0)).2.2.1.toNat * 3) 0 = co ys1 M (i + L) (xa2.getD K (0, 0, 0, 0)).2.2.1 := congrArg (fun q => ys1.getD q 0) (show _ = 3 * ((M * 13 + (i + L)) * 8 + (xa2.getD K (0, 0, 0, 0)).2.2.1.toNat) from (by omega))
        refine HP.take rfl rfl rfl rfl hS (fun wS hS1 => PV.move rfl) ?_
        refine HP.take rfl rfl rfl rfl hS (fun wS hS1 => PV.loadA T.ag56 rfl (Bx.cells (Bx.updD (by assumption) hS1 (Dj.nlR _))) (Ext.refl _) rfl) ?_
        refine HP.take rfl rfl rfl rfl hS (fun wS hS1 => PV.move rfl) ?_
        refine HP.take rfl rfl rfl rfl hS (fun wS hS1 => PV.move rfl) ?_
        refine HP.take rfl rfl rfl rfl hS (fun wS hS1 => PV.fieldAddr T.fl56_3 rfl hb10.cells) ?_
        refine HP.take rfl rfl rfl rfl hS (fun wS hS1 => PV.load1 T.na2 rfl (Bx.cells (Bx.updD (by assumption) hS1 (Dj.nlR _))) (Ext.refl _) rfl) ?_
        refine HP.take rfl rfl rfl rfl hS (fun wS hS1 => PV.load0 T.na131 rfl (Bx.cells (Bx.updD (by assumption) hS1 (Dj.nlR _))) (Ext.refl _) rfl) ?_
        refine HP.take rfl rfl rfl rfl hS (fun wS hS1 => PV.load0 T.na3 rfl (Bx.cells (Bx.updD (by assumption) hS1 (Dj.nlR _))) (Ext.refl _) rfl) ?_
        refine HP.take rfl rfl rfl rfl hS (fun wS hS1 => PV.move rfl) ?_
        refine HP.take rfl rfl rfl rfl hS (fun wS hS1 => PV.fieldAddr T.fl56_1 rfl hb10.cells) ?_
        refine HP.take rfl rfl rfl rfl hS (fun wS hS1 => PV.load1 T.na2 rfl (Bx.cells (Bx.updD (by assumption) hS1 (Dj.nlR _))) (Ext.refl _) rfl) ?_
        refine HP.take rfl rfl rfl rfl hS (fun wS hS1 => PV.nilCheck rfl) ?_
        refine HP.take rfl rfl rfl rfl hS (fun wS hS1 => (by first | exact PV.ixN T.ar220 rfl hb1.spot rfl (by omega) | exact PV.ixZ T.ar220 rfl hb1.spot rfl (by omega))) ?_
        refine HP.take rfl rfl rfl rfl hS (fun wS hS1 => (by first | exact PV.ixPN T.ar130 rfl rfl (by omega) | exact PV.ixPZ T.ar130 rfl rfl (by omega))) ?_
        refine HP.take rfl rfl rfl rfl hS (fun wS hS1 => (by first | exact PV.ixPN T.ar129 rfl rfl (by omega) | exact PV.ixPZ T.ar129 rfl rfl (by omega))) ?_
        refine HP.take rfl rfl rfl rfl hS (fun wS hS1 => PV.fieldAddrP0 T.fl128_0 rfl) ?_
        refine HP.take rfl rfl rfl rfl hS (fun wS hS1 => PV.loadArr 0 T.na2 rfl (Bx.cells (Bx.updD hb1 hS1 (Dj.nlR _))) (Ext.refl _) (by first | omega | (simp only [List.length_set]; omega))) ?_
        refine HP.take rfl rfl rfl rfl hS (fun wS hS1 => PV.add rfl rfl (by constructor <;> omega)) ?_
        refine HP.take rfl rfl rfl rfl hS (fun wS hS1 => PV.load0 T.na131 rfl (Bx.cells (Bx.updD (by assumption) hS1 (Dj.nlR _))) (Ext.refl _) rfl) ?_
        refine HP.take rfl rfl rfl rfl hS (fun wS hS1 => PV.move rfl) ?_
        refine HP.take rfl rfl rfl rfl hS (fun wS hS1 => PV.load0 T.na3 rfl (Bx.cells (Bx.updD (by assumption) hS1 (Dj.nlR _))) (Ext.refl _) rfl) ?_
        refine HP.take rfl rfl rfl rfl hS (fun wS hS1 => PV.fieldAddr T.fl56_2 rfl hb10.cells) ?_
        refine HP.take rfl rfl rfl rfl hS (fun wS hS1 => PV.load1 T.na2 rfl (Bx.cells (Bx.updD (by assumption) hS1 (Dj.nlR _))) (Ext.refl _) rfl) ?_
        refine HP.take rfl rfl rfl rfl hS (fun wS hS1 => PV.nilCheck rfl) ?_
        refine HP.take rfl rfl rfl rfl hS (fun wS hS1 => (by first | exact PV.ixN T.ar220 rfl hb1.spot rfl (by omega) | exact PV.ixZ T.ar220 rfl hb1.spot rfl (by omega))) ?_
        refine HP.take rfl rfl rfl rfl hS (fun wS hS1 => (by first | exact PV.ixPN T.ar130 rfl rfl (by omega) | exact PV.ixPZ T.ar130 rfl rfl (by omega))) ?_
        refine HP.take rfl rfl rfl rfl hS (fun wS hS1 => (by first | exact PV.ixPN T.ar129 rfl rfl (by omega) | exact PV.ixPZ T.ar129 rfl rfl (by omega))) ?_
        refine HP.take rfl rfl rfl rfl hS (fun wS hS1 => PV.fieldAddrP0 T.fl128_0 rfl) ?_
        refine HP.take rfl rfl rfl rfl hS (fun wS hS1 => PV.loadArr 0 T.na2 rfl (Bx.cells (Bx.updD hb1 hS1 (Dj.nlR _))) (Ext.refl _) (by first | omega | (simp only [List.length_set]; omega))) ?_
        refine HP.take rfl rfl rfl rfl hS (fun wS hS1 => PV.add rfl rfl (by constructor <;> omega)) ?_
        refine HP.last rfl rfl (OpK.callC rfl T.cf197 rfl rfl (c_impl_Grammar_choices_1_1 hB (by first | assumption | exact Lo.nl _) (by first | assumption | exact Lo.nl _) (by first | assumption | exact Lo.nl _) (by first | assumption | exact Lo.nl _) (by first | assumption | exact Lo.nl _) (by first | assumption | exact Dj.symm (by assumption)) (by first | assumption | exact Dj.symm (by assumption)) (by first | assumption | exact Dj.symm (by assumption)) (by first | assumption | omega | (simp only [marks_len]; omega)) (by first | assumption | omega | (simp only [marks_len]; omega)) (by first | assumption | omega | (simp only [marks_len]; omega))) (fun rv6 w18 hR => ?_))
        obtain ⟨hUC26, zs27, rfl, hm28, hbn1⟩ := hR
        have hUB := hUB.trans hUC26 ⟨hkB_1, trivial⟩
        have hU1 := hU1.trans hUC26 ⟨hk1_1, trivial⟩
        have hU2 := hU2.trans hUC26 ⟨hk2_1, trivial⟩
        have hb2 := hb2.loop hUC26 ⟨(Dj.symm hd1_2), trivial⟩
        have hb3 := hb3.loop hUC26 ⟨(Dj.symm hd1_3), trivial⟩
        have hb4 := hb4.loop hUC26 ⟨(Dj.symm hd1_4), trivial⟩
        have hb5 := hb5.loop hUC26 ⟨(Dj.symm hd1_5), trivial⟩
        have hb6 := hb6.loop hUC26 ⟨(Dj.symm hd1_6), trivial⟩
        have hb10 := hb10.loop hUC26 ⟨(Dj.symm hd1_10), trivial⟩
        have hB := hB.loop hUC26 ⟨hl1, trivial⟩
        have hb1 := hbn1
        refine HP.done ?_
        refine NQ.block ?_
        refine NQ.then ?_
        refine CW.reg ?_
        refine WL.pure rfl rfl rfl (PV.add rfl rfl (by constructor <;> omega)) ?_
        refine WL.mv rfl rfl ?_
        refine WL.nil ?_
        refine NQ.next (ρ := [(35, _)]) ⟨rfl, rfl, rfl, rfl, rfl, rfl, rfl, rfl, rfl, rfl, trivial⟩ ?_
        exact ⟨_, ⟨K + 1, _, rfl, rfl, hU2, bxM hb1 (by rfl), (by first | omega | assumption | (simp_all; done) | (simp_all; omega)), (by first | (exfalso; omega) | exact hp.leafZ (by assumption) hg (by omega) (by omega) (by omega) (by omega) (by omega) (by omega) (by assumption) (by omega) (by omega) (by assumption) | exact hp.nodeZ (by assumption) (by simp only [kC, rl]; omega) (by simp only [kC, rl]; omega) hg (by omega) (by omega) (by omega) (by omega) (by omega) (by omega) (by assumption) (by omega) (by omega) | exact hp.skip (noCand_node (by assumption) (by omega)) | exact hp.skip (noCand_leaf (by assumption) (fun h9 => by have h91 := h9.1; have h92 := h9.2.1; first | omega | exact absurd h9.2.2 (by assumption))))⟩, by omega⟩
      try simp only [nq] at hc17
      refine CW.skip ?_
      refine NQ.block ?_
      refine NQ.then ?_
      refine CW.reg ?_
      refine WL.pure rfl rfl rfl (PV.add rfl rfl (by constructor <;> omega)) ?_
      refine WL.mv rfl rfl ?_
      refine WL.nil ?_
      refine NQ.next (ρ := [(35, _)]) ⟨rfl, rfl, rfl, rfl, rfl, rfl, rfl, rfl, rfl, rfl, trivial⟩ ?_
      exact ⟨_, ⟨K + 1, _, rfl, rfl, hU2, bxM hb1 (by rfl), (by first | omega | assumption | (simp_all; done) | (simp_all; omega)), (by first | (exfalso; omega) | exact hp.leafZ (by assumption) hg (by omega) (by omega) (by omega) (by omega) (by omega) (by omega) (by assumption) (by omega) (by omega) (by assumption) | exact hp.nodeZ (by assumption) (by simp only [kC, rl]; omega) (by simp only [kC, rl]; omega) hg (by omega) (by omega) (by omega) (by omega) (by omega) (by omega) (by assumption) (by omega) (by omega) | exact hp.skip (noCand_node (by assumption) (by omega)) | exact hp.skip (noCand_leaf (by assumption) (fun h9 => by have h91 := h9.1; have h92 := h9.2.1; first | omega | exact absurd h9.2.2 (by assumption))))⟩, by omega⟩
    try simp only [nq] at hc3
    refine CW.exit ?_
    refine XQ.then ?_
    refine XQ.then ?_
    refine XQ.here ?_
    refine NQ.block ?_
    refine NQ.then ?_
    refine CW.reg ?_
    refine WL.mv rfl rfl ?_
    refine WL.pure rfl rfl rfl (PV.add rfl rfl (by constructor <;> omega)) ?_
    refine WL.asg rfl rfl ?_
    refine WL.nil ?_
    refine NQ.next (ρ := [(9, _)]) ⟨rfl, rfl, rfl, rfl, rfl, rfl, rfl, trivial⟩ ?_
    exact ⟨_, ⟨M + 1, _, rfl, rfl, hU1, bxM hb1 (by rfl), (by first | omega | assumption | (simp_all; done) | (simp_all; omega)), (by exact hp.mono (fun k m c hk hc h => by unfold Ahead at h ⊢; omega))⟩, by omega⟩
  try simp only [nq] at hc2
  refine CW.exit ?_
  refine XQ.then ?_
  refine XQ.then ?_
  refine XQ.here ?_
  refine NQ.r0 ?_
  refine ⟨hUB, _, rfl, ?_, hb1⟩
  · skip
    exact hp.fin (fun k m h1 h2 h3 => by unfold Ahead; omega)
set_option maxHeartbeats 4000000 in
theorem c_impl_CountTrees_1 {w : World} {b : World} {pg pq pw pc pf : Addr} {a0 : Int} {a1 : Int} {va2 : Value} {xa2 : List R4} {vw : Value} {xs ys : List Int} {i L : Nat} {f : Bool} (hB0 : Ext b w) (htb_pc : Bx w pc (List.map VI (ys))) (htb_pf : Bx w pf [.bool f]) (htl_pc : Lo b (some pc.block)) (htl_pf : Lo b (some pf.block)) (htb_pg : Bx w pg [.int .i64 a0, .int .i64 a1, va2]) (htb_pq : Bx w pq [.pointer (some pc)]) (htb_pw : Bx w pw [vw]) (htd_pg_pc : Dj (some pg.block) (some pc.block)) (htd_pg_pf : Dj (some pg.block) (some pf.block)) (htd_pq_pc : Dj (some pq.block) (some pc.block)) (htd_pq_pf : Dj (some pq.block) (some pf.block)) (htd_pw_pc : Dj (some pw.block) (some pc.block)) (htd_pw_pf : Dj (some pw.block) (some pf.block)) (htm_pc_pf : Dj (some pc.block) (some pf.block)) (ha2 : Rd ER b va2 xa2) (hw : Rd EI b vw xs) (hg : gramV a0 a1 xa2) (h12 : 1 ≤ xs.length ∧ xs.length ≤ 12) (hTb : TDC (f = true) xa2 xs a0 13 8 1248 ys L i) (hfn : f = false → ¬ okT xa2 xs a0) (hL : 1 ≤ L ∧ i + L ≤ xs.length) : Calls Try.prog 114 #[.int .i64 (i : Nat), .int .i64 ((i + L : Nat) : Int), .pointer (some pg), .pointer (some pq), .pointer (some pw), .pointer (some pf)] w (Ret1 (fun v w' => UpdL [some pc.block, some pf.block] w w' ∧ ∃ (zs : List Int) (f2 : Bool), v = .tuple #[] ∧ (TDC (f2 = true) xa2 xs a0 13 8 1248 zs L (i + 1)) ∧ (f2 = false → ¬ okT xa2 xs a0) ∧ Bx w' pc (List.map VI (zs)) ∧ Bx w' pf [.bool f2])) := by
  have hB := hB0
  have hla2 := ha2.leI; have hlw := hw.leI; have hg1 := hg.1; have hnn := hTb.n; have hr32 := hg.2.2.1
  refine callsOf (vs := [_, _, _, _, _, _]) Try.func114 rfl Try.ntmps114 rfl rfl ?_
  have hUB : UpdL [(some pc.block), (some pf.block)] w w := UpdL.refl _ _
  have hb1 := htb_pc
  have hl1 := htl_pc
  have hkB_1 : OkB [(some pc.block), (some pf.block)] w (some pc.block) := OkB.mem (by simp)
  have hgB_1 := OgR.refl w (some pc.block)
  have hb2 := htb_pf
  have hl2 := htl_pf
  have hkB_2 : OkB [(some pc.block), (some pf.block)] w (some pf.block) := OkB.mem (by simp)
  have hgB_2 := OgR.refl w (some pf.block)
  have hd1_2 := htm_pc_pf
  have hb3 := htb_pg
  have hd1_3 := Dj.symm htd_pg_pc
  have hd2_3 := Dj.symm htd_pg_pf
  have hb4 := htb_pq
  have hd1_4 := Dj.symm htd_pq_pc
  have hd2_4 := Dj.symm htd_pq_pf
  have hb5 := htb_pw
  have hd1_5 := Dj.symm htd_pw_pc
  have hd2_5 := Dj.symm htd_pw_pf
  refine CW.seq ?_
  refine CW.reg ?_
  refine WL.pure rfl rfl rfl (PV.fieldAddr T.fl33_2 rfl hb3.cells) ?_
  refine WL.pure rfl rfl rfl (PV.load1 T.na31 rfl hb3.cells (Ext.refl _) rfl) ?_
  refine WL.pure rfl rfl rfl ((by first | exact PV.len rfl (by assumption) T.sl31 | exact PV.lenOs rfl (by assumption) T.sl31 | exact PV.len rfl (NL.rd (by assumption)) T.sl31 | exact PV.len rfl (Inn.rd (by assumption) (by omega)) T.sl31)) ?_
  refine WL.mv rfl rfl ?_
  refine WL.nilS ?_
  refine CW.block ?_
  refine CW.loop (σk := [(0, _), (1, _), (3, _), (4, _), (5, _), (13, _), (14, _)]) (fun ρ wz m => ∃ (K : Nat) (ys1 : List Int) (f1 : Bool), ρ = [(15, .int .i64 (K : Nat))] ∧ m = xa2.length - K ∧ UpdL [(some pc.block), (some pf.block)] w wz ∧ Bx wz pc (List.map VI (ys1)) ∧ Bx wz pf [.bool f1] ∧ (K ≤ xa2.length) ∧ (TQK (f1 = true) xa2 xs a0 13 8 1248 ys1 L i K) ∧ (f1 = false → ¬ okT xa2 xs a0)) (ρ₀ := [(15, _)]) (m₀ := _) ⟨rfl, rfl, rfl, rfl, rfl, rfl, rfl, rfl, trivial⟩ ⟨0, ys, f, rfl, rfl, (UpdL.refl _ _), bxM hb1 (by rfl), bxE hb2 (by rfl), (by first | omega | rfl | (simp; done) | assumption | (simp_all; done)), (by exact hTb.start (by omega) (by omega) (fun a => cuK_zero _ _ _ _ _ _)), (by assumption)⟩ ?_
  rintro _ wl1 _ ⟨K, ys1, f1, rfl, rfl, hU0, hb1, hb2, hK, hp0, hf1⟩
  have hUB := hUB.trans hU0 ⟨hkB_1, hkB_2, trivial⟩
  have hb3 := hb3.loop hU0 ⟨(Dj.symm hd1_3), (Dj.symm hd2_3), trivial⟩
  have hb4 := hb4.loop hU0 ⟨(Dj.symm hd1_4), (Dj.symm hd2_4), trivial⟩
  have hb5 := hb5.loop hU0 ⟨(Dj.symm hd1_5), (Dj.symm hd2_5), trivial⟩
  have hk0_1 : OkB [(some pc.block), (some pf.block)] w (some pc.block) := OkB.mem (by simp)
  have hk0_2 : OkB [(some pc.block), (some pf.block)] w (some pf.block) := OkB.mem (by simp)
  have hB := hB.loop hU0 ⟨hl1, hl2, trivial⟩
  have hp := hp0
  refine CW.seq ?_
  refine CW.reg ?_
  refine WL.pure rfl rfl rfl (PV.lss rfl rfl) ?_
  refine WL.nilS ?_
  refine CW.seq ?_
  refine CW.cond rfl (fun hc1 => ?_) (fun hc1 => ?_)
  · skip
    try simp only [nq] at hc1
    refine CW.skipS ?_
    refine CW.seq ?_
    refine CW.block ?_
    refine CW.seq ?_
    refine CW.reg ?_
    first
      | refine WL.at (x := .tmp 13) (y := .tmp 15) (E := ER) ((0, 0, 0, 0)) rfl rfl (by first | assumption | exact Inn.rd (by assumption) (by omega)) (by first | omega | (simp only [List.length_set]; omega) | (simp only [List.length_append, List.length_take, List.length_replicate, List.length_drop]; omega)) (fun p1 csp1 hpp1 hcp1 hq => ?_)
      | refine WL.atZ (x := .tmp 13) (y := .tmp 15) (E := ER) ((0, 0, 0, 0)) rfl rfl (by first | assumption | exact Inn.rd (by assumption) (by omega)) (by first | omega | (simp only [List.length_set]; omega) | (simp only [List.length_append, List.length_take, List.length_replicate, List.length_drop]; omega)) (fun p1 csp1 hpp1 hzp1 hcp1 hq => ?_)
    cases hq
    refine WL.pure rfl rfl rfl ((by first | exact PV.indexAddr hpp1 rfl rfl T.sl31 | exact PV.indexAddr hpp1 rfl (by rw [← hzp1]; rfl) T.sl31)) ?_
    refine WL.pure rfl rfl rfl ((by first | exact PV.loadA T.ag56 rfl (by first | exact Cells.up (by assumption) hB | exact Bx.cells (by assumption) | assumption) (Ext.refl _) rfl | exact PV.loadP (ds := [_, _, _, _]) T.ag56 rfl (by first | exact Cells.up (by assumption) hB | exact Bx.cells (by assumption) | assumption) (Ext.refl _) rfl rfl)) ?_
    refine WL.op rfl (OpK.alloc rfl T.zv56 rfl (fun b8 w1 hXw1 hb8 hge8 => ?_))
    have hl8 := Lo.new hB hge8
    have hd1_8 := Dj.new hb1.ltO hge8
    have hd2_8 := Dj.new hb2.ltO hge8
    have hd3_8 := Dj.new hb3.ltO hge8
    have hd4_8 := Dj.new hb4.ltO hge8
    have hd5_8 := Dj.new hb5.ltO hge8
    have hkB_8 := OkN.new hUB hge8
    have hgB_8 := OgR.new hUB.size hge8
    have hk0_8 := OkN.new hU0 hge8
    have hg0_8 := OgR.new hU0.size hge8
    have hB := hB.trans hXw1
    have hb1 := hb1.up hXw1
    have hb2 := hb2.up hXw1
    have hb3 := hb3.up hXw1
    have hb4 := hb4.up hXw1
    have hb5 := hb5.up hXw1
    have hUB := hUB.ext hXw1
    have hU0 := hU0.ext hXw1
    refine WL.op rfl (OpK.storeA T.sz56 rfl rfl rfl rfl (by simp [Value.oneCell'] <;> first | done | (repeat' apply And.intro) <;> first | rfl | exact Osl.oneCell (by assumption) | exact Osn.oneCell (by assumption) | exact Rd.oneCell (by assumption) | exact Rd.oneCell (NL.rd (by assumption)) | assumption) hb8 (fun w2 hXw2 hb8 => ?_))
    have hB := hB.updL hXw2 hl8
    have hb1 := hb1.updD hXw2 hd1_8
    have hb2 := hb2.updD hXw2 hd2_8
    have hb3 := hb3.updD hXw2 hd3_8
    have hb4 := hb4.updD hXw2 hd4_8
    have hb5 := hb5.updD hXw2 hd5_8
    have hUB := hUB.step hXw2 hkB_8
    have hU0 := hU0.step hXw2 hk0_8
    refine WL.nilS ?_
    refine CW.seq ?_
    refine CW.draw T.mixed (by kernel_rfl) (fun _ _ _ _ _ h => h) (fun w8 w9 => Upd none w8 w9) 10 (.take 0 (.take 1 (.take 2 (.take 3 (.take 4 (.take 5 (.take 6 (.take 7 (.take 8 (.take 9 .done)))))))))) (by kernel_rfl) (fun w3 hXd => ?_)
    have hB := hB.trans hXd
    have hb1 := hb1.up hXd
    have hb2 := hb2.up hXd
    have hb3 := hb3.up hXd
    have hb4 := hb4.up hXd
    have hb5 := hb5.up hXd
    have hb8 := hb8.up hXd
    have hUB := hUB.ext hXd
    have hU0 := hU0.ext hXd
    have hBr := hB
    have hS : Upd none w3 w3 := Ext.toUpd (Ext.refl _)
    have hgl := gram_left hg K (by omega); have hgl1 : 0 ≤ (xa2.getD K (0, 0, 0, 0)).1 := hgl.1; have hgl2 : (xa2.getD K (0, 0, 0, 0)).1 < a0 := hgl.2; have hyn := hp.n; have ei : i * 104 + (i + L) * 8 + (xa2.getD K (0, 0, 0, 0)).1.toNat = (i * 13 + (i + L)) * 8 + (rl xa2 K).1.toNat := (by simp only [rl]; omega); have ec : cl 0 13 8 ys1 i (i + L) (rl xa2 K).1 = ys1.getD (i * 104 + (i + L) * 8 + (xa2.getD K (0, 0, 0, 0)).1.toNat) 0 := congrArg (fun q => ys1.getD q 0) ei.symm; have hcr := hp.range (by omega) hgl; rw [ec] at hcr
    refine HP.take rfl rfl rfl rfl hS (fun wS hS1 => PV.load0 T.na134 rfl (Bx.cells (Bx.updD (by assumption) hS1 (Dj.nlR _))) (Ext.refl _) rfl) ?_
    refine HP.take rfl rfl rfl rfl hS (fun wS hS1 => PV.move rfl) ?_
    refine HP.take rfl rfl rfl rfl hS (fun wS hS1 => PV.move rfl) ?_
    refine HP.take rfl rfl rfl rfl hS (fun wS hS1 => PV.fieldAddr T.fl56_0 rfl hb8.cells) ?_
    refine HP.take rfl rfl rfl rfl hS (fun wS hS1 => PV.load1 T.na2 rfl (Bx.cells (Bx.updD (by assumption) hS1 (Dj.nlR _))) (Ext.refl _) rfl) ?_
    refine HP.take rfl rfl rfl rfl hS (fun wS hS1 => PV.nilCheck rfl) ?_
    refine HP.take rfl rfl rfl rfl hS (fun wS hS1 => (by first | exact PV.ixN T.ar138 rfl hb1.spot rfl (by omega) | exact PV.ixZ T.ar138 rfl hb1.spot rfl (by omega))) ?_
    refine HP.take rfl rfl rfl rfl hS (fun wS hS1 => (by first | exact PV.ixPN T.ar136 rfl rfl (by omega) | exact PV.ixPZ T.ar136 rfl rfl (by omega))) ?_
    refine HP.take rfl rfl rfl rfl hS (fun wS hS1 => (by first | exact PV.ixPN1 T.ar135 rfl rfl (by omega) | exact PV.ixPZ1 T.ar135 rfl rfl (by omega))) ?_
    refine HP.take rfl rfl rfl rfl hS (fun wS hS1 => PV.assign rfl) ?_
    refine HP.doneS ?_
    refine CW.seq ?_
    refine CW.seq ?_
    refine CW.draw T.mixed (by kernel_rfl) (fun _ _ _ _ _ h => h) (fun w8 w9 => Upd none w8 w9) 18 (.take 0 (.take 1 (.take 2 (.take 3 (.split (.take 4 (.take 5 (.take 6 (.take 7 (.take 8 (.take 9 (.split (.take 10 (.take 11 (.take 12 (.take 13 (.take 14 (.take 15 (.take 16 (.take 17 .done)))))))) (.take 10 (.take 11 (.take 12 (.take 13 (.take 14 (.take 15 (.take 16 (.take 17 .done))))))))))))))) (.take 4 (.take 5 (.take 6 (.take 7 (.take 8 (.take 9 (.take 10 (.take 11 (.take 12 (.take 13 (.take 14 (.take 15 (.take 16 (.take 17 .done))))))))))))))))))) (by kernel_rfl) (fun w4 hXd => ?_)
    have hB := hB.trans hXd
    have hb1 := hb1.up hXd
    have hb2 := hb2.up hXd
    have hb3 := hb3.up hXd
    have hb4 := hb4.up hXd
    have hb5 := hb5.up hXd
    have hb8 := hb8.up hXd
    have hUB := hUB.ext hXd
    have hU0 := hU0.ext hXd
    have hBr := hB
    have hS : Upd none w4 w4 := Ext.toUpd (Ext.refl _)
    refine HP.take rfl rfl rfl rfl hS (fun wS hS1 => PV.fieldAddr T.fl56_2 rfl hb8.cells) ?_
    refine HP.take rfl rfl rfl rfl hS (fun wS hS1 => PV.load1 T.na2 rfl (Bx.cells (Bx.updD (by assumption) hS1 (Dj.nlR _))) (Ext.refl _) rfl) ?_
    refine HP.take rfl rfl rfl rfl hS (fun wS hS1 => PV.lss rfl rfl) ?_
    refine HP.take rfl rfl rfl rfl hS (fun wS hS1 => PV.move rfl) ?_
    refine HP.split (t := 31) rfl (fun hc2 => ?_) (fun hc2 => ?_)
    rotate_left
    · skip
      try simp only [nq] at hc2
      refine HP.skip rfl rfl rfl rfl rfl rfl hS ?_
      refine HP.skip rfl rfl rfl rfl rfl rfl hS ?_
      refine HP.skip rfl rfl rfl rfl rfl rfl hS ?_
      refine HP.skip rfl rfl rfl rfl rfl rfl hS ?_
      refine HP.take rfl rfl rfl rfl hS (fun wS hS1 => PV.pickF rfl rfl) ?_
      refine HP.take rfl rfl rfl rfl hS (fun wS hS1 => PV.move rfl) ?_
      refine HP.skip rfl rfl rfl rfl rfl rfl hS ?_
      refine HP.skip rfl rfl rfl rfl rfl rfl hS ?_
      refine HP.skip rfl rfl rfl rfl rfl rfl hS ?_
      refine HP.skip rfl rfl rfl rfl rfl rfl hS ?_
      refine HP.skip rfl rfl rfl rfl rfl rfl hS ?_
      refine HP.skip rfl rfl rfl rfl rfl rfl hS ?_
      refine HP.skip rfl rfl rfl rfl rfl rfl hS ?_
      refine HP.take rfl rfl rfl rfl hS (fun wS hS1 => PV.pickF rfl rfl) ?_
      refine HP.doneS ?_
      refine CW.condF rfl ?_
      refine CW.skipS ?_
      refine CW.seq ?_
      refine CW.seq ?_
      refine CW.reg ?_
      refine WL.mv rfl rfl ?_
      refine WL.pure rfl rfl rfl (PV.add rfl rfl (by constructor <;> omega)) ?_
      refine WL.asg rfl rfl ?_
      refine WL.nilS ?_
      refine CW.block ?_
      refine CW.loop (σk := [(0, _), (1, _), (3, _), (4, _), (5, _), (9, _), (10, _), (13, _), (14, _), (15, _)]) (fun ρ wz m => ∃ (M : Nat) (ys1 : List Int), ρ = [(11, .int .i64 (M : Nat))] ∧ m = i + L - M ∧ UpdL [(some pc.block)] w4 wz ∧ Bx wz pc (List.map VI (ys1)) ∧ (i + 1 ≤ M ∧ M ≤ i + L) ∧ (TQM (f1 = true) xa2 xs a0 13 8 1248 ys1 L i K M)) (ρ₀ := [(11, _)]) (m₀ := _) ⟨rfl, rfl, rfl, rfl, rfl, rfl, rfl, rfl, rfl, rfl, rfl, trivial⟩ ⟨i + 1, _, rfl, rfl, (UpdL.refl _ _), bxM hb1 (by rfl), (by first | omega | rfl | (simp; done) | assumption | (simp_all; done)), (by first | exact hp0.open_no (fun h9 => by have h91 : (xa2.getD K (0, 0, 0, 0)).2.2.1 < 0 := h9.1; have h92 := h9.2.1; first | omega | exact absurd h9.2.2 (by assumption)) | (rw [← ec, ei]; exact hp0.open_leaf hg (by omega) (by omega) (by omega) (by omega) (by omega) (by omega) (by assumption) (by omega) (by assumption)))⟩ ?_
      rintro _ wl2 _ ⟨M, ys1, rfl, rfl, hU1, hb1, hm, hp⟩
      have hUB := hUB.trans hU1 ⟨hkB_1, trivial⟩
      have hU0 := hU0.trans hU1 ⟨hk0_1, trivial⟩
      have hb2 := hb2.loop hU1 ⟨(Dj.symm hd1_2), trivial⟩
      have hb3 := hb3.loop hU1 ⟨(Dj.symm hd1_3), trivial⟩
      have hb4 := hb4.loop hU1 ⟨(Dj.symm hd1_4), trivial⟩
      have hb5 := hb5.loop hU1 ⟨(Dj.symm hd1_5), trivial⟩
      have hb8 := hb8.loop hU1 ⟨(Dj.symm hd1_8), trivial⟩
      have hk1_1 : OkB [(some pc.block)] w4 (some pc.block) := OkB.mem (by simp)
      have hB := hB.loop hU1 ⟨hl1, trivial⟩
      refine CW.seq ?_
      refine CW.seq ?_
      refine CW.reg ?_
      refine WL.mv rfl rfl ?_
      refine WL.mv rfl rfl ?_
      refine WL.pure rfl rfl rfl (PV.lss rfl rfl) ?_
      refine WL.mv rfl rfl ?_
      refine WL.split (t := 56) rfl (fun hc3 => ?_) (fun hc3 => ?_)
      rotate_left
      · skip
        try simp only [nq] at hc3
        refine WL.skip rfl rfl rfl rfl rfl ?_
        refine WL.skip rfl rfl rfl rfl rfl ?_
        refine WL.skip rfl rfl rfl rfl rfl ?_
        refine WL.pure rfl rfl rfl (PV.pickF rfl rfl) ?_
        refine WL.nilS ?_
        refine CW.condF rfl ?_
        refine CW.exit ?_
        refine XQ.then ?_
        refine XQ.then ?_
        refine XQ.here ?_
        refine NQ.then ?_
        refine CW.reg ?_
        have hgl := gram_left hg K (by omega); have hgl1 : 0 ≤ (xa2.getD K (0, 0, 0, 0)).1 := hgl.1; have hgl2 : (xa2.getD K (0, 0, 0, 0)).1 < a0 := hgl.2; have hyn := hp.n; have ei : i * 104 + (i + L) * 8 + (xa2.getD K (0, 0, 0, 0)).1.toNat = (i * 13 + (i + L)) * 8 + (rl xa2 K).1.toNat := (by simp only [rl]; omega); have ec : cl 0 13 8 ys1 i (i + L) (rl xa2 K).1 = ys1.getD (i * 104 + (i + L) * 8 + (xa2.getD K (0, 0, 0, 0)).1.toNat) 0 := congrArg (fun q => ys1.getD q 0) ei.symm; have hcr := hp.range (by omega) hgl; rw [ec] at hcr
        refine WL.pure rfl rfl rfl (PV.load0 T.na4 rfl hb2.cells (Ext.refl _) rfl) ?_
        refine WL.mv rfl rfl ?_
        refine WL.split (t := 92) rfl (fun hc4 => ?_) (fun hc4 => ?_)
        rotate_left
        · skip
          try simp only [nq] at hc4
          refine WL.skip rfl rfl rfl rfl rfl ?_
          refine WL.skip rfl rfl rfl rfl rfl ?_
          refine WL.skip rfl rfl rfl rfl rfl ?_
          refine WL.skip rfl rfl rfl rfl rfl ?_
          refine WL.pure rfl rfl rfl (PV.pickF rfl rfl) ?_
          refine WL.op rfl (OpK.storeB0 T.sz4 rfl rfl (by first | rfl | exact Osl.oneCell (by assumption) | exact Osn.oneCell (by assumption) | exact Rd.oneCell (by assumption) | exact Rd.oneCell (NL.rd (by assumption)) | assumption) hb2 (fun w5 hXw5 hb2 => ?_))
          have hB := hB.updL hXw5 hl2
          have hb1 := hb1.updD hXw5 hd1_2
          have hb3 := hb3.updD hXw5 (Dj.symm hd2_3)
          have hb4 := hb4.updD hXw5 (Dj.symm hd2_4)
          have hb5 := hb5.updD hXw5 (Dj.symm hd2_5)
          have hb8 := hb8.updD hXw5 (Dj.symm hd2_8)
          have hUB := hUB.step hXw5 hkB_2
          have hU0 := hU0.step hXw5 hk0_2
          refine WL.nil ?_
          refine NQ.block ?_
          refine NQ.then ?_
          refine CW.reg ?_
          refine WL.pure rfl rfl rfl (PV.add rfl rfl (by constructor <;> omega)) ?_
          refine WL.mv rfl rfl ?_
          refine WL.nil ?_
          refine NQ.next (ρ := [(15, _)]) ⟨rfl, rfl, rfl, rfl, rfl, rfl, rfl, rfl, trivial⟩ ?_
          exact ⟨_, ⟨K + 1, _, _, rfl, rfl, hU0, bxM hb1 (by rfl), bxE hb2 (by rfl), (by first | omega | assumption | (simp_all; done) | (simp_all; omega)), (by exact (TQM.imp hp (fun h9 => by first | assumption | cases h9)).close (by first | exact .inl (by omega) | exact .inr (by assumption)) (by omega) (fun h9 => by first | (cases h9; done) | (rw [ec]; exact of_decide_eq_true h9))), (by intro h9; first | exact hf1 (by assumption) | exact hp.bad (by assumption) hg (by omega) (by omega) (by omega) (by omega) (by rw [ec]; have h99 := of_decide_eq_false h9; omega))⟩, by omega⟩
        try simp only [nq] at hc4
        refine WL.pureG rfl rfl rfl rfl rfl (PV.move rfl) ?_
        refine WL.pureG rfl rfl rfl rfl rfl (PV.nilCheck rfl) ?_
        refine WL.pureG rfl rfl rfl rfl rfl (PV.loadArr 0 T.na2 rfl (Bx.cells hb1) (Ext.refl _) (by first | omega | (simp only [List.length_set]; omega))) ?_
        refine WL.pureG rfl rfl rfl rfl rfl (PV.leq rfl rfl) ?_
        refine WL.pure rfl rfl rfl (PV.pickT rfl rfl) ?_
        refine WL.op rfl (OpK.storeB0 T.sz4 rfl rfl (by first | rfl | exact Osl.oneCell (by assumption) | exact Osn.oneCell (by assumption) | exact Rd.oneCell (by assumption) | exact Rd.oneCell (NL.rd (by assumption)) | assumption) hb2 (fun w6 hXw6 hb2 => ?_))
        have hB := hB.updL hXw6 hl2
        have hb1 := hb1.updD hXw6 hd1_2
        have hb3 := hb3.updD hXw6 (Dj.symm hd2_3)
        have hb4 := hb4.updD hXw6 (Dj.symm hd2_4)
        have hb5 := hb5.updD hXw6 (Dj.symm hd2_5)
        have hb8 := hb8.updD hXw6 (Dj.symm hd2_8)
        have hUB := hUB.step hXw6 hkB_2
        have hU0 := hU0.step hXw6 hk0_2
        refine WL.nil ?_
        refine NQ.block ?_
        refine NQ.then ?_
        refine CW.reg ?_
        refine WL.pure rfl rfl rfl (PV.add rfl rfl (by constructor <;> omega)) ?_
        refine WL.mv rfl rfl ?_
        refine WL.nil ?_
        refine NQ.next (ρ := [(15, _)]) ⟨rfl, rfl, rfl, rfl, rfl, rfl, rfl, rfl, trivial⟩ ?_
        exact ⟨_, ⟨K + 1, _, _, rfl, rfl, hU0, bxM hb1 (by rfl), bxE hb2 (by rfl), (by first | omega | assumption | (simp_all; done) | (simp_all; omega)), (by exact (TQM.imp hp (fun h9 => by first | assumption | cases h9)).close (by first | exact .inl (by omega) | exact .inr (by assumption)) (by omega) (fun h9 => by first | (cases h9; done) | (rw [ec]; exact of_decide_eq_true h9))), (by intro h9; first | exact hf1 (by assumption) | exact hp.bad (by assumption) hg (by omega) (by omega) (by omega) (by omega) (by rw [ec]; have h99 := of_decide_eq_false h9; omega))⟩, by omega⟩
      try simp only [nq] at hc3
      refine WL.pureG rfl rfl rfl rfl rfl (PV.fieldAddr T.fl56_2 rfl hb8.cells) ?_
      refine WL.pureG rfl rfl rfl rfl rfl (PV.load1 T.na2 rfl hb8.cells (Ext.refl _) rfl) ?_
      refine WL.pureG rfl rfl rfl rfl rfl (PV.geq rfl rfl) ?_
      refine WL.pure rfl rfl rfl (PV.pickT rfl rfl) ?_
      refine WL.nilS ?_
      refine CW.cond rfl (fun hc5 => ?_) (fun hc5 => ?_)
      · skip
        try simp only [nq] at hc5
        refine CW.skipS ?_
        refine CW.seq ?_
        refine CW.block ?_
        refine CW.draw T.mixed (by kernel_rfl) (fun _ _ _ _ _ h => h) (fun w8 w9 => Upd none w8 w9) 28 (.take 0 (.take 1 (.take 2 (.take 3 (.take 4 (.take 5 (.take 6 (.take 7 (.take 8 (.take 9 (.take 10 (.take 11 (.take 12 (.take 13 (.take 14 (.take 15 (.take 16 (.take 17 (.take 18 (.take 19 (.take 20 (.take 21 (.take 22 (.take 23 (.take 24 (.take 25 (.take 26 (.take 27 (.must 28 .done))))))))))))))))))))))))))))) (by kernel_rfl) (fun w7 hXd => ?_)
        have hB := hB.trans hXd
        have hb1 := hb1.up hXd
        have hb2 := hb2.up hXd
        have hb3 := hb3.up hXd
        have hb4 := hb4.up hXd
        have hb5 := hb5.up hXd
        have hb8 := hb8.up hXd
        have hUB := hUB.ext hXd
        have hU0 := hU0.ext hXd
        have hU1 := hU1.ext hXd
        have hBr := hB
        have hS : Upd none w7 w7 := Ext.toUpd (Ext.refl _)
        have hgl := gram_left hg K (by omega); have hgl1 : 0 ≤ (xa2.getD K (0, 0, 0, 0)).1 := hgl.1; have hgl2 : (xa2.getD K (0, 0, 0, 0)).1 < a0 := hgl.2; have hyn := hp.n; have ei : i * 104 + (i + L) * 8 + (xa2.getD K (0, 0, 0, 0)).1.toNat = (i * 13 + (i + L)) * 8 + (rl xa2 K).1.toNat := (by simp only [rl]; omega); have ec : cl 0 13 8 ys1 i (i + L) (rl xa2 K).1 = ys1.getD (i * 104 + (i + L) * 8 + (xa2.getD K (0, 0, 0, 0)).1.toNat) 0 := congrArg (fun q => ys1.getD q 0) ei.symm; have hcr := hp.range (by omega) hgl; rw [ec] at hcr; have hgn := gram_node hg (k := K) (by omega) (by assumption); have gn1 : 0 ≤ (xa2.getD K (0, 0, 0, 0)).2.1 ∧ (xa2.getD K (0, 0, 0, 0)).2.1 < a0 := hgn.1; have gn2 : 0 ≤ (xa2.getD K (0, 0, 0, 0)).2.2.1 ∧ (xa2.getD K (0, 0, 0, 0)).2.2.1 < a0 := hgn.2; have hsb := hp.sub hg (by omega) (by omega) (by assumption) (by omega) (by omega); have ea : cl 0 13 8 ys1 i M (rl xa2 K).2.1 = ys1.getD (i * 104 + M * 8 + (xa2.getD K (0, 0, 0, 0)).2.1.toNat) 0 := congrArg (fun q => ys1.getD q 0) (show (i * 13 + M) * 8 + (xa2.getD K (0, 0, 0, 0)).2.1.toNat = _ from (by omega)); have eb : cl 0 13 8 ys1 M (i + L) (rl xa2 K).2.2.1 = ys1.getD (M * 104 + (i + L) * 8 + (xa2.getD K (0, 0, 0, 0)).2.2.1.toNat) 0 := congrArg (fun q => ys1.getD q 0) (show (M * 13 + (i + L)) * 8 + (xa2.getD K (0, 0, 0, 0)).2.2.1.toNat = _ from (by omega)); rw [ea, eb] at hsb; have hmb := mul_bd hsb.1 hsb.2
        refine HP.take rfl rfl rfl rfl hS (fun wS hS1 => PV.move rfl) ?_
        refine HP.take rfl rfl rfl rfl hS (fun wS hS1 => PV.move rfl) ?_
        refine HP.take rfl rfl rfl rfl hS (fun wS hS1 => PV.nilCheck rfl) ?_
        refine HP.take rfl rfl rfl rfl hS (fun wS hS1 => PV.loadArr 0 T.na2 rfl (Bx.cells (Bx.updD hb1 hS1 (Dj.nlR _))) (Ext.refl _) (by first | omega | (simp only [List.length_set]; omega))) ?_
        refine HP.take rfl rfl rfl rfl hS (fun wS hS1 => PV.load0 T.na134 rfl (Bx.cells (Bx.updD (by assumption) hS1 (Dj.nlR _))) (Ext.refl _) rfl) ?_
        refine HP.take rfl rfl rfl rfl hS (fun wS hS1 => PV.move rfl) ?_
        refine HP.take rfl rfl rfl rfl hS (fun wS hS1 => PV.move rfl) ?_
        refine HP.take rfl rfl rfl rfl hS (fun wS hS1 => PV.fieldAddr T.fl56_1 rfl hb8.cells) ?_
        refine HP.take rfl rfl rfl rfl hS (fun wS hS1 => PV.load1 T.na2 rfl (Bx.cells (Bx.updD (by assumption) hS1 (Dj.nlR _))) (Ext.refl _) rfl) ?_
        refine HP.take rfl rfl rfl rfl hS (fun wS hS1 => PV.nilCheck rfl) ?_
        refine HP.take rfl rfl rfl rfl hS (fun wS hS1 => (by first | exact PV.ixN T.ar138 rfl hb1.spot rfl (by omega) | exact PV.ixZ T.ar138 rfl hb1.spot rfl (by omega))) ?_
        refine HP.take rfl rfl rfl rfl hS (fun wS hS1 => (by first | exact PV.ixPN T.ar136 rfl rfl (by omega) | exact PV.ixPZ T.ar136 rfl rfl (by omega))) ?_
        refine HP.take rfl rfl rfl rfl hS (fun wS hS1 => (by first | exact PV.ixPN1 T.ar135 rfl rfl (by omega) | exact PV.ixPZ1 T.ar135 rfl rfl (by omega))) ?_
        refine HP.take rfl rfl rfl rfl hS (fun wS hS1 => PV.loadArr 0 T.na2 rfl (Bx.cells (Bx.updD hb1 hS1 (Dj.nlR _))) (Ext.refl _) (by first | omega | (simp only [List.length_set]; omega))) ?_
        refine HP.take rfl rfl rfl rfl hS (fun wS hS1 => PV.load0 T.na134 rfl (Bx.cells (Bx.updD (by assumption) hS1 (Dj.nlR _))) (Ext.refl _) rfl) ?_
        refine HP.take rfl rfl rfl rfl hS (fun wS hS1 => PV.move rfl) ?_
        refine HP.take rfl rfl rfl rfl hS (fun wS hS1 => PV.move rfl) ?_
        refine HP.take rfl rfl rfl rfl hS (fun wS hS1 => PV.fieldAddr T.fl56_2 rfl hb8.cells) ?_
        refine HP.take rfl rfl rfl rfl hS (fun wS hS1 => PV.load1 T.na2 rfl (Bx.cells (Bx.updD (by assumption) hS1 (Dj.nlR _))) (Ext.refl _) rfl) ?_
        refine HP.take rfl rfl rfl rfl hS (fun wS hS1 => PV.nilCheck rfl) ?_
        refine HP.take rfl rfl rfl rfl hS (fun wS hS1 => (by first | exact PV.ixN T.ar138 rfl hb1.spot rfl (by omega) | exact PV.ixZ T.ar138 rfl hb1.spot rfl (by omega))) ?_
        refine HP.take rfl rfl rfl rfl hS (fun wS hS1 => (by first | exact PV.ixPN T.ar136 rfl rfl (by omega) | exact PV.ixPZ T.ar136 rfl rfl (by omega))) ?_
        refine HP.take rfl rfl rfl rfl hS (fun wS hS1 => (by first | exact PV.ixPN1 T.ar135 rfl rfl (by omega) | exact PV.ixPZ1 T.ar135 rfl rfl (by omega))) ?_
        refine HP.take rfl rfl rfl rfl hS (fun wS hS1 => PV.loadArr 0 T.na2 rfl (Bx.cells (Bx.updD hb1 hS1 (Dj.nlR _))) (Ext.refl _) (by first | omega | (simp only [List.length_set]; omega))) ?_
        refine HP.take rfl rfl rfl rfl hS (fun wS hS1 => PV.mul rfl rfl (by constructor <;> omega)) ?_
        refine HP.take rfl rfl rfl rfl hS (fun wS hS1 => PV.add rfl rfl (by constructor <;> omega)) ?_
        refine HP.take rfl rfl rfl rfl hS (fun wS hS1 => PV.min2 rfl rfl) ?_
        refine HP.take rfl rfl rfl rfl hS (fun wS hS1 => PV.nilCheck rfl) ?_
        refine HP.last rfl rfl (OpK.storeArr T.sz2 rfl rfl rfl hb1 (by first | omega | (simp only [List.length_set]; omega)) (fun w8 hXw8 hb1 => ?_))
        have hB := hB.updL hXw8 hl1
        have hb2 := hb2.updD hXw8 (Dj.symm hd1_2)
        have hb3 := hb3.updD hXw8 (Dj.symm hd1_3)
        have hb4 := hb4.updD hXw8 (Dj.symm hd1_4)
        have hb5 := hb5.updD hXw8 (Dj.symm hd1_5)
        have hb8 := hb8.updD hXw8 (Dj.symm hd1_8)
        have hUB := hUB.step hXw8 hkB_1
        have hU0 := hU0.step hXw8 hk0_1
        have hU1 := hU1.step hXw8 hk1_1
        refine HP.done ?_
        refine NQ.block ?_
        refine NQ.then ?_
        refine CW.reg ?_
        refine WL.mv rfl rfl ?_
        refine WL.pure rfl rfl rfl (PV.add rfl rfl (by constructor <;> omega)) ?_
        refine WL.asg rfl rfl ?_
        refine WL.nil ?_
        refine NQ.next (ρ := [(11, _)]) ⟨rfl, rfl, rfl, rfl, rfl, rfl, rfl, rfl, rfl, rfl, rfl, trivial⟩ ?_
        exact ⟨_, ⟨M + 1, _, rfl, rfl, hU1, bxM hb1 (by rfl), (by first | omega | assumption | (simp_all; done) | (simp_all; omega)), (by rw [← ec, ← ea, ← eb, ei]; exact hp.step hg (by omega) (by omega) (by omega) (by omega) (by omega) (by assumption) (by omega) (by omega) (by split <;> omega))⟩, by omega⟩
      try simp only [nq] at hc5
      refine CW.exit ?_
      refine XQ.then ?_
      refine XQ.then ?_
      refine XQ.here ?_
      refine NQ.then ?_
      refine CW.reg ?_
      have hgl := gram_left hg K (by omega); have hgl1 : 0 ≤ (xa2.getD K (0, 0, 0, 0)).1 := hgl.1; have hgl2 : (xa2.getD K (0, 0, 0, 0)).1 < a0 := hgl.2; have hyn := hp.n; have ei : i * 104 + (i + L) * 8 + (xa2.getD K (0, 0, 0, 0)).1.toNat = (i * 13 + (i + L)) * 8 + (rl xa2 K).1.toNat := (by simp only [rl]; omega); have ec : cl 0 13 8 ys1 i (i + L) (rl xa2 K).1 = ys1.getD (i * 104 + (i + L) * 8 + (xa2.getD K (0, 0, 0, 0)).1.toNat) 0 := congrArg (fun q => ys1.getD q 0) ei.symm; have hcr := hp.range (by omega) hgl; rw [ec] at hcr
      refine WL.pure rfl rfl rfl (PV.load0 T.na4 rfl hb2.cells (Ext.refl _) rfl) ?_
      refine WL.mv rfl rfl ?_
      refine WL.split (t := 92) rfl (fun hc6 => ?_) (fun hc6 => ?_)
      rotate_left
      · skip
        try simp only [nq] at hc6
        refine WL.skip rfl rfl rfl rfl rfl ?_
        refine WL.skip rfl rfl rfl rfl rfl ?_
        refine WL.skip rfl rfl rfl rfl rfl ?_
        refine WL.skip rfl rfl rfl rfl rfl ?_
        refine WL.pure rfl rfl rfl (PV.pickF rfl rfl) ?_
        refine WL.op rfl (OpK.storeB0 T.sz4 rfl rfl (by first | rfl | exact Osl.oneCell (by assumption) | exact Osn.oneCell (by assumption) | exact Rd.oneCell (by assumption) | exact Rd.oneCell (NL.rd (by assumption)) | assumption) hb2 (fun w9 hXw9 hb2 => ?_))
        have hB := hB.updL hXw9 hl2
        have hb1 := hb1.updD hXw9 hd1_2
        have hb3 := hb3.updD hXw9 (Dj.symm hd2_3)
        have hb4 := hb4.updD hXw9 (Dj.symm hd2_4)
        have hb5 := hb5.updD hXw9 (Dj.symm hd2_5)
        have hb8 := hb8.updD hXw9 (Dj.symm hd2_8)
        have hUB := hUB.step hXw9 hkB_2
        have hU0 := hU0.step hXw9 hk0_2
        refine WL.nil ?_
        refine NQ.block ?_
        refine NQ.then ?_
        refine CW.reg ?_
        refine WL.pure rfl rfl rfl (PV.add rfl rfl (by constructor <;> omega)) ?_
        refine WL.mv rfl rfl ?_
        refine WL.nil ?_
        refine NQ.next (ρ := [(15, _)]) ⟨rfl, rfl, rfl, rfl, rfl, rfl, rfl, rfl, trivial⟩ ?_
        exact ⟨_, ⟨K + 1, _, _, rfl, rfl, hU0, bxM hb1 (by rfl), bxE hb2 (by rfl), (by first | omega | assumption | (simp_all; done) | (simp_all; omega)), (by exact (TQM.imp hp (fun h9 => by first | assumption | cases h9)).close (by first | exact .inl (by omega) | exact .inr (by assumption)) (by omega) (fun h9 => by first | (cases h9; done) | (rw [ec]; exact of_decide_eq_true h9))), (by intro h9; first | exact hf1 (by assumption) | exact hp.bad (by assumption) hg (by omega) (by omega) (by omega) (by omega) (by rw [ec]; have h99 := of_decide_eq_false h9; omega))⟩, by omega⟩
      try simp only [nq] at hc6
      refine WL.pureG rfl rfl rfl rfl rfl (PV.move rfl) ?_
      refine WL.pureG rfl rfl rfl rfl rfl (PV.nilCheck rfl) ?_
      refine WL.pureG rfl rfl rfl rfl rfl (PV.loadArr 0 T.na2 rfl (Bx.cells hb1) (Ext.refl _) (by first | omega | (simp only [List.length_set]; omega))) ?_
      refine WL.pureG rfl rfl rfl rfl rfl (PV.leq rfl rfl) ?_
      refine WL.pure rfl rfl rfl (PV.pickT rfl rfl) ?_
      refine WL.op rfl (OpK.storeB0 T.sz4 rfl rfl (by first | rfl | exact Osl.oneCell (by assumption) | exact Osn.oneCell (by assumption) | exact Rd.oneCell (by assumption) | exact Rd.oneCell (NL.rd (by assumption)) | assumption) hb2 (fun w10 hXw10 hb2 => ?_))
      have hB := hB.updL hXw10 hl2
      have hb1 := hb1.updD hXw10 hd1_2
      have hb3 := hb3.updD hXw10 (Dj.symm hd2_3)
      have hb4 := hb4.updD hXw10 (Dj.symm hd2_4)
      have hb5 := hb5.updD hXw10 (Dj.symm hd2_5)
      have hb8 := hb8.updD hXw10 (Dj.symm hd2_8)
      have hUB := hUB.step hXw10 hkB_2
      have hU0 := hU0.step hXw10 hk0_2
      refine WL.nil ?_
      refine NQ.block ?_
      refine NQ.then ?_
      refine CW.reg ?_
      refine WL.pure rfl rfl rfl (PV.add rfl rfl (by constructor <;> omega)) ?_
      refine WL.mv rfl rfl ?_
      refine WL.nil ?_
      refine NQ.next (ρ := [(15, _)]) ⟨rfl, rfl, rfl, rfl, rfl, rfl, rfl, rfl, trivial⟩ ?_
      exact ⟨_, ⟨K + 1, _, _, rfl, rfl, hU0, bxM hb1 (by rfl), bxE hb2 (by rfl), (by first | omega | assumption | (simp_all; done) | (simp_all; omega)), (by exact (TQM.imp hp (fun h9 => by first | assumption | cases h9)).close (by first | exact .inl (by omega) | exact .inr (by assumption)) (by omega) (fun h9 => by first | (cases h9; done) | (rw [ec]; exact of_decide_eq_true h9))), (by intro h9; first | exact hf1 (by assumption) | exact hp.bad (by assumption) hg (by omega) (by omega) (by omega) (by omega) (by rw [ec]; have h99 := of_decide_eq_false h9; omega))⟩, by omega⟩
    try simp only [nq] at hc2
    refine HP.takeG rfl rfl rfl rfl rfl rfl hS (fun wS hS1 => PV.move rfl) ?_
    refine HP.takeG rfl rfl rfl rfl rfl rfl hS (fun wS hS1 => PV.move rfl) ?_
    refine HP.takeG rfl rfl rfl rfl rfl rfl hS (fun wS hS1 => PV.add rfl rfl (by constructor <;> omega)) ?_
    refine HP.takeG rfl rfl rfl rfl rfl rfl hS (fun wS hS1 => PV.eql rfl rfl) ?_
    refine HP.take rfl rfl rfl rfl hS (fun wS hS1 => PV.pickT rfl rfl) ?_
    refine HP.take rfl rfl rfl rfl hS (fun wS hS1 => PV.move rfl) ?_
    refine HP.split (t := 37) rfl (fun hc7 => ?_) (fun hc7 => ?_)
    rotate_left
    · skip
      try simp only [nq] at hc7
      refine HP.skip rfl rfl rfl rfl rfl rfl hS ?_
      refine HP.skip rfl rfl rfl rfl rfl rfl hS ?_
      refine HP.skip rfl rfl rfl rfl rfl rfl hS ?_
      refine HP.skip rfl rfl rfl rfl rfl rfl hS ?_
      refine HP.skip rfl rfl rfl rfl rfl rfl hS ?_
      refine HP.skip rfl rfl rfl rfl rfl rfl hS ?_
      refine HP.skip rfl rfl rfl rfl rfl rfl hS ?_
      refine HP.take rfl rfl rfl rfl hS (fun wS hS1 => PV.pickF rfl rfl) ?_
      refine HP.doneS ?_
      refine CW.condF rfl ?_
      refine CW.skipS ?_
      refine CW.seq ?_
      refine CW.seq ?_
      refine CW.reg ?_
      refine WL.mv rfl rfl ?_
      refine WL.pure rfl rfl rfl (PV.add rfl rfl (by constructor <;> omega)) ?_
      refine WL.asg rfl rfl ?_
      refine WL.nilS ?_
      refine CW.block ?_
      refine CW.loop (σk := [(0, _), (1, _), (3, _), (4, _), (5, _), (9, _), (10, _), (13, _), (14, _), (15, _)]) (fun ρ wz m => ∃ (M : Nat) (ys1 : List Int), ρ = [(11, .int .i64 (M : Nat))] ∧ m = i + L - M ∧ UpdL [(some pc.block)] w4 wz ∧ Bx wz pc (List.map VI (ys1)) ∧ (i + 1 ≤ M ∧ M ≤ i + L) ∧ (TQM (f1 = true) xa2 xs a0 13 8 1248 ys1 L i K M)) (ρ₀ := [(11, _)]) (m₀ := _) ⟨rfl, rfl, rfl, rfl, rfl, rfl, rfl, rfl, rfl, rfl, rfl, trivial⟩ ⟨i + 1, _, rfl, rfl, (UpdL.refl _ _), bxM hb1 (by rfl), (by first | omega | rfl | (simp; done) | assumption | (simp_all; done)), (by first | exact hp0.open_no (fun h9 => by have h91 : (xa2.getD K (0, 0, 0, 0)).2.2.1 < 0 := h9.1; have h92 := h9.2.1; first | omega | exact absurd h9.2.2 (by assumption)) | (rw [← ec, ei]; exact hp0.open_leaf hg (by omega) (by omega) (by omega) (by omega) (by omega) (by omega) (by assumption) (by omega) (by assumption)))⟩ ?_
      rintro _ wl3 _ ⟨M, ys1, rfl, rfl, hU1, hb1, hm, hp⟩
      have hUB := hUB.trans hU1 ⟨hkB_1, trivial⟩
      have hU0 := hU0.trans hU1 ⟨hk0_1, trivial⟩
      have hb2 := hb2.loop hU1 ⟨(Dj.symm hd1_2), trivial⟩
      have hb3 := hb3.loop hU1 ⟨(Dj.symm hd1_3), trivial⟩
      have hb4 := hb4.loop hU1 ⟨(Dj.symm hd1_4), trivial⟩
      have hb5 := hb5.loop hU1 ⟨(Dj.symm hd1_5), trivial⟩
      have hb8 := hb8.loop hU1 ⟨(Dj.symm hd1_8), trivial⟩
      have hk1_1 : OkB [(some pc.block)] w4 (some pc.block) := OkB.mem (by simp)
      have hB := hB.loop hU1 ⟨hl1, trivial⟩
      refine CW.seq ?_
      refine CW.seq ?_
      refine CW.reg ?_
      refine WL.mv rfl rfl ?_
      refine WL.mv rfl rfl ?_
      refine WL.pure rfl rfl rfl (PV.lss rfl rfl) ?_
      refine WL.mv rfl rfl ?_
      refine WL.split (t := 56) rfl (fun hc8 => ?_) (fun hc8 => ?_)
      rotate_left
      · skip
        try simp only [nq] at hc8
        refine WL.skip rfl rfl rfl rfl rfl ?_
        refine WL.skip rfl rfl rfl rfl rfl ?_
        refine WL.skip rfl rfl rfl rfl rfl ?_
        refine WL.pure rfl rfl rfl (PV.pickF rfl rfl) ?_
        refine WL.nilS ?_
        refine CW.condF rfl ?_
        refine CW.exit ?_
        refine XQ.then ?_
        refine XQ.then ?_
        refine XQ.here ?_
        refine NQ.then ?_
        refine CW.reg ?_
        have hgl := gram_left hg K (by omega); have hgl1 : 0 ≤ (xa2.getD K (0, 0, 0, 0)).1 := hgl.1; have hgl2 : (xa2.getD K (0, 0, 0, 0)).1 < a0 := hgl.2; have hyn := hp.n; have ei : i * 104 + (i + L) * 8 + (xa2.getD K (0, 0, 0, 0)).1.toNat = (i * 13 + (i + L)) * 8 + (rl xa2 K).1.toNat := (by simp only [rl]; omega); have ec : cl 0 13 8 ys1 i (i + L) (rl xa2 K).1 = ys1.getD (i * 104 + (i + L) * 8 + (xa2.getD K (0, 0, 0, 0)).1.toNat) 0 := congrArg (fun q => ys1.getD q 0) ei.symm; have hcr := hp.range (by omega) hgl; rw [ec] at hcr
        refine WL.pure rfl rfl rfl (PV.load0 T.na4 rfl hb2.cells (Ext.refl _) rfl) ?_
        refine WL.mv rfl rfl ?_
        refine WL.split (t := 92) rfl (fun hc9 => ?_) (fun hc9 => ?_)
        rotate_left
        · skip
          try simp only [nq] at hc9
          refine WL.skip rfl rfl rfl rfl rfl ?_
          refine WL.skip rfl rfl rfl rfl rfl ?_
          refine WL.skip rfl rfl rfl rfl rfl ?_
          refine WL.skip rfl rfl rfl rfl rfl ?_
          refine WL.pure rfl rfl rfl (PV.pickF rfl rfl) ?_
          refine WL.op rfl (OpK.storeB0 T.sz4 rfl rfl (by first | rfl | exact Osl.oneCell (by assumption) | exact Osn.oneCell (by assumption) | exact Rd.oneCell (by assumption) | exact Rd.oneCell (NL.rd (by assumption)) | assumption) hb2 (fun w11 hXw11 hb2 => ?_))
          have hB := hB.updL hXw11 hl2
          have hb1 := hb1.updD hXw11 hd1_2
          have hb3 := hb3.updD hXw11 (Dj.symm hd2_3)
          have hb4 := hb4.updD hXw11 (Dj.symm hd2_4)
          have hb5 := hb5.updD hXw11 (Dj.symm hd2_5)
          have hb8 := hb8.updD hXw11 (Dj.symm hd2_8)
          have hUB := hUB.step hXw11 hkB_2
          have hU0 := hU0.step hXw11 hk0_2
          refine WL.nil ?_
          refine NQ.block ?_
          refine NQ.then ?_
          refine CW.reg ?_
          refine WL.pure rfl rfl rfl (PV.add rfl rfl (by constructor <;> omega)) ?_
          refine WL.mv rfl rfl ?_
          refine WL.nil ?_
          refine NQ.next (ρ := [(15, _)]) ⟨rfl, rfl, rfl, rfl, rfl, rfl, rfl, rfl, trivial⟩ ?_
          exact ⟨_, ⟨K + 1, _, _, rfl, rfl, hU0, bxM hb1 (by rfl), bxE hb2 (by rfl), (by first | omega | assumption | (simp_all; done) | (simp_all; omega)), (by exact (TQM.imp hp (fun h9 => by first | assumption | cases h9)).close (by first | exact .inl (by omega) | exact .inr (by assumption)) (by omega) (fun h9 => by first | (cases h9; done) | (rw [ec]; exact of_decide_eq_true h9))), (by intro h9; first | exact hf1 (by assumption) | exact hp.bad (by assumption) hg (by omega) (by omega) (by omega) (by omega) (by rw [ec]; have h99 := of_decide_eq_false h9; omega))⟩, by omega⟩
        try simp only [nq] at hc9
        refine WL.pureG rfl rfl rfl rfl rfl (PV.move rfl) ?_
        refine WL.pureG rfl rfl rfl rfl rfl (PV.nilCheck rfl) ?_
        refine WL.pureG rfl rfl rfl rfl rfl (PV.loadArr 0 T.na2 rfl (Bx.cells hb1) (Ext.refl _) (by first | omega | (simp only [List.length_set]; omega))) ?_
        refine WL.pureG rfl rfl rfl rfl rfl (PV.leq rfl rfl) ?_
        refine WL.pure rfl rfl rfl (PV.pickT rfl rfl) ?_
        refine WL.op rfl (OpK.storeB0 T.sz4 rfl rfl (by first | rfl | exact Osl.oneCell (by assumption) | exact Osn.oneCell (by assumption) | exact Rd.oneCell (by assumption) | exact Rd.oneCell (NL.rd (by assumption)) | assumption) hb2 (fun w12 hXw12 hb2 => ?_))
        have hB := hB.updL hXw12 hl2
        have hb1 := hb1.updD hXw12 hd1_2
        have hb3 := hb3.updD hXw12 (Dj.symm hd2_3)
        have hb4 := hb4.updD hXw12 (Dj.symm hd2_4)
        have hb5 := hb5.updD hXw12 (Dj.symm hd2_5)
        have hb8 := hb8.updD hXw12 (Dj.symm hd2_8)
        have hUB := hUB.step hXw12 hkB_2
        have hU0 := hU0.step hXw12 hk0_2
        refine WL.nil ?_
        refine NQ.block ?_
        refine NQ.then ?_
        refine CW.reg ?_
        refine WL.pure rfl rfl rfl (PV.add rfl rfl (by constructor <;> omega)) ?_
        refine WL.mv rfl rfl ?_
        refine WL.nil ?_
        refine NQ.next (ρ := [(15, _)]) ⟨rfl, rfl, rfl, rfl, rfl, rfl, rfl, rfl, trivial⟩ ?_
        exact ⟨_, ⟨K + 1, _, _, rfl, rfl, hU0, bxM hb1 (by rfl), bxE hb2 (by rfl), (by first | omega | assumption | (simp_all; done) | (simp_all; omega)), (by exact (TQM.imp hp (fun h9 => by first | assumption | cases h9)).close (by first | exact .inl (by omega) | exact .inr (by assumption)) (by omega) (fun h9 => by first | (cases h9; done) | (rw [ec]; exact of_decide_eq_true h9))), (by intro h9; first | exact hf1 (by assumption) | exact hp.bad (by assumption) hg (by omega) (by omega) (by omega) (by omega) (by rw [ec]; have h99 := of_decide_eq_false h9; omega))⟩, by omega⟩
      try simp only [nq] at hc8
      refine WL.pureG rfl rfl rfl rfl rfl (PV.fieldAddr T.fl56_2 rfl hb8.cells) ?_
      refine WL.pureG rfl rfl rfl rfl rfl (PV.load1 T.na2 rfl hb8.cells (Ext.refl _) rfl) ?_
      refine WL.pureG rfl rfl rfl rfl rfl (PV.geq rfl rfl) ?_
      refine WL.pure rfl rfl rfl (PV.pickT rfl rfl) ?_
      refine WL.nilS ?_
      refine CW.cond rfl (fun hc10 => ?_) (fun hc10 => ?_)
      · skip
        try simp only [nq] at hc10
        refine CW.skipS ?_
        refine CW.seq ?_
        refine CW.block ?_
        refine CW.draw T.mixed (by kernel_rfl) (fun _ _ _ _ _ h => h) (fun w8 w9 => Upd none w8 w9) 28 (.take 0 (.take 1 (.take 2 (.take 3 (.take 4 (.take 5 (.take 6 (.take 7 (.take 8 (.take 9 (.take 10 (.take 11 (.take 12 (.take 13 (.take 14 (.take 15 (.take 16 (.take 17 (.take 18 (.take 19 (.take 20 (.take 21 (.take 22 (.take 23 (.take 24 (.take 25 (.take 26 (.take 27 (.must 28 .done))))))))))))))))))))))))))))) (by kernel_rfl) (fun w13 hXd => ?_)
        have hB := hB.trans hXd
        have hb1 := hb1.up hXd
        have hb2 := hb2.up hXd
        have hb3 := hb3.up hXd
        have hb4 := hb4.up hXd
        have hb5 := hb5.up hXd
        have hb8 := hb8.up hXd
        have hUB := hUB.ext hXd
        have hU0 := hU0.ext hXd
        have hU1 := hU1.ext hXd
        have hBr := hB
        have hS : Upd none w13 w13 := Ext.toUpd (Ext.refl _)
        have hgl := gram_left hg K (by omega); have hgl1 : 0 ≤ (xa2.getD K (0, 0, 0, 0)).1 := hgl.1; have hgl2 : (xa2.getD K (0, 0, 0, 0)).1 < a0 := hgl.2; have hyn := hp.n; have ei : i * 104 + (i + L) * 8 + (xa2.getD K (0, 0, 0, 0)).1.toNat = (i * 13 + (i + L)) * 8 + (rl xa2 K).1.toNat := (by simp only [rl]; omega); have ec : cl 0 13 8 ys1 i (i + L) (rl xa2 K).1 = ys1.getD (i * 104 + (i + L) * 8 + (xa2.getD K (0, 0, 0, 0)).1.toNat) 0 := congrArg (fun q => ys1.getD q 0) ei.symm; have hcr := hp.range (by omega) hgl; rw [ec] at hcr; have hgn := gram_node hg (k := K) (by omega) (by assumption); have gn1 : 0 ≤ (xa2.getD K (0, 0, 0, 0)).2.1 ∧ (xa2.getD K (0, 0, 0, 0)).2.1 < a0 := hgn.1; have gn2 : 0 ≤ (xa2.getD K (0, 0, 0, 0)).2.2.1 ∧ (xa2.getD K (0, 0, 0, 0)).2.2.1 < a0 := hgn.2; have hsb := hp.sub hg (by omega) (by omega) (by assumption) (by omega) (by omega); have ea : cl 0 13 8 ys1 i M (rl xa2 K).2.1 = ys1.getD (i * 104 + M * 8 + (xa2.getD K (0, 0, 0, 0)).2.1.toNat) 0 := congrArg (fun q => ys1.getD q 0) (show (i * 13 + M) * 8 + (xa2.getD K (0, 0, 0, 0)).2.1.toNat = _ from (by omega)); have eb : cl 0 13 8 ys1 M (i + L) (rl xa2 K).2.2.1 = ys1.getD (M * 104 + (i + L) * 8 + (xa2.getD K (0, 0, 0, 0)).2.2.1.toNat) 0 := congrArg (fun q => ys1.getD q 0) (show (M * 13 + (i + L)) * 8 + (xa2.getD K (0, 0, 0, 0)).2.2.1.toNat = _ from (by omega)); rw [ea, eb] at hsb; have hmb := mul_bd hsb.1 hsb.2
        refine HP.take rfl rfl rfl rfl hS (fun wS hS1 => PV.move rfl) ?_
        refine HP.take rfl rfl rfl rfl hS (fun wS hS1 => PV.move rfl) ?_
        refine HP.take rfl rfl rfl rfl hS (fun wS hS1 => PV.nilCheck rfl) ?_
        refine HP.take rfl rfl rfl rfl hS (fun wS hS1 => PV.loadArr 0 T.na2 rfl (Bx.cells (Bx.updD hb1 hS1 (Dj.nlR _))) (Ext.refl _) (by first | omega | (simp only [List.length_set]; omega))) ?_
        refine HP.take rfl rfl rfl rfl hS (fun wS hS1 => PV.load0 T.na134 rfl (Bx.cells (Bx.updD (by assumption) hS1 (Dj.nlR _))) (Ext.refl _) rfl) ?_
        refine HP.take rfl rfl rfl rfl hS (fun wS hS1 => PV.move rfl) ?_
        refine HP.take rfl rfl rfl rfl hS (fun wS hS1 => PV.move rfl) ?_
        refine HP.take rfl rfl rfl rfl hS (fun wS hS1 => PV.fieldAddr T.fl56_1 rfl hb8.cells) ?_
        refine HP.take rfl rfl rfl rfl hS (fun wS hS1 => PV.load1 T.na2 rfl (Bx.cells (Bx.updD (by assumption) hS1 (Dj.nlR _))) (Ext.refl _) rfl) ?_
        refine HP.take rfl rfl rfl rfl hS (fun wS hS1 => PV.nilCheck rfl) ?_
        refine HP.take rfl rfl rfl rfl hS (fun wS hS1 => (by first | exact PV.ixN T.ar138 rfl hb1.spot rfl (by omega) | exact PV.ixZ T.ar138 rfl hb1.spot rfl (by omega))) ?_
        refine HP.take rfl rfl rfl rfl hS (fun wS hS1 => (by first | exact PV.ixPN T.ar136 rfl rfl (by omega) | exact PV.ixPZ T.ar136 rfl rfl (by omega))) ?_
        refine HP.take rfl rfl rfl rfl hS (fun wS hS1 => (by first | exact PV.ixPN1 T.ar135 rfl rfl (by omega) | exact PV.ixPZ1 T.ar135 rfl rfl (by omega))) ?_
        refine HP.take rfl rfl rfl rfl hS (fun wS hS1 => PV.loadArr 0 T.na2 rfl (Bx.cells (Bx.updD hb1 hS1 (Dj.nlR _))) (Ext.refl _) (by first | omega | (simp only [List.length_set]; omega))) ?_
        refine HP.take rfl rfl rfl rfl hS (fun wS hS1 => PV.load0 T.na134 rfl (Bx.cells (Bx.updD (by assumption) hS1 (Dj.nlR _))) (Ext.refl _) rfl) ?_
        refine HP.take rfl rfl rfl rfl hS (fun wS hS1 => PV.move rfl) ?_
        refine HP.take rfl rfl rfl rfl hS (fun wS hS1 => PV.move rfl) ?_
        refine HP.take rfl rfl rfl rfl hS (fun wS hS1 => PV.fieldAddr T.fl56_2 rfl hb8.cells) ?_
        refine HP.take rfl rfl rfl rfl hS (fun wS hS1 => PV.load1 T.na2 rfl (Bx.cells (Bx.updD (by assumption) hS1 (Dj.nlR _))) (Ext.refl _) rfl) ?_
        refine HP.take rfl rfl rfl rfl hS (fun wS hS1 => PV.nilCheck rfl) ?_
        refine HP.take rfl rfl rfl rfl hS (fun wS hS1 => (by first | exact PV.ixN T.ar138 rfl hb1.spot rfl (by omega) | exact PV.ixZ T.ar138 rfl hb1.spot rfl (by omega))) ?_
        refine HP.take rfl rfl rfl rfl hS (fun wS hS1 => (by first | exact PV.ixPN T.ar136 rfl rfl (by omega) | exact PV.ixPZ T.ar136 rfl rfl (by omega))) ?_
        refine HP.take rfl rfl rfl rfl hS (fun wS hS1 => (by first | exact PV.ixPN1 T.ar135 rfl rfl (by omega) | exact PV.ixPZ1 T.ar135 rfl rfl (by omega))) ?_
        refine HP.take rfl rfl rfl rfl hS (fun wS hS1 => PV.loadArr 0 T.na2 rfl (Bx.cells (Bx.updD hb1 hS1 (Dj.nlR _))) (Ext.refl _) (by first | omega | (simp only [List.length_set]; omega))) ?_
        refine HP.take rfl rfl rfl rfl hS (fun wS hS1 => PV.mul rfl rfl (by constructor <;> omega)) ?_
        refine HP.take rfl rfl rfl rfl hS (fun wS hS1 => PV.add rfl rfl (by constructor <;> omega)) ?_
        refine HP.take rfl rfl rfl rfl hS (fun wS hS1 => PV.min2 rfl rfl) ?_
        refine HP.take rfl rfl rfl rfl hS (fun wS hS1 => PV.nilCheck rfl) ?_
        refine HP.last rfl rfl (OpK.storeArr T.sz2 rfl rfl rfl hb1 (by first | omega | (simp only [List.length_set]; omega)) (fun w14 hXw14 hb1 => ?_))
        have hB := hB.updL hXw14 hl1
        have hb2 := hb2.updD hXw14 (Dj.symm hd1_2)
        have hb3 := hb3.updD hXw14 (Dj.symm hd1_3)
        have hb4 := hb4.updD hXw14 (Dj.symm hd1_4)
        have hb5 := hb5.updD hXw14 (Dj.symm hd1_5)
        have hb8 := hb8.updD hXw14 (Dj.symm hd1_8)
        have hUB := hUB.step hXw14 hkB_1
        have hU0 := hU0.step hXw14 hk0_1
        have hU1 := hU1.step hXw14 hk1_1
        refine HP.done ?_
        refine NQ.block ?_
        refine NQ.then ?_
        refine CW.reg ?_
        refine WL.mv rfl rfl ?_
        refine WL.pure rfl rfl rfl (PV.add rfl rfl (by constructor <;> omega)) ?_
        refine WL.asg rfl rfl ?_
        refine WL.nil ?_
        refine NQ.next (ρ := [(11, _)]) ⟨rfl, rfl, rfl, rfl, rfl, rfl, rfl, rfl, rfl, rfl, rfl, trivial⟩ ?_
        exact ⟨_, ⟨M + 1, _, rfl, rfl, hU1, bxM hb1 (by rfl), (by first | omega | assumption | (simp_all; done) | (simp_all; omega)), (by rw [← ec, ← ea, ← eb, ei]; exact hp.step hg (by omega) (by omega) (by omega) (by omega) (by omega) (by assumption) (by omega) (by omega) (by split <;> omega))⟩, by omega⟩
      try simp only [nq] at hc10
      refine CW.exit ?_
      refine XQ.then ?_
      refine XQ.then ?_
      refine XQ.here ?_
      refine NQ.then ?_
      refine CW.reg ?_
      have hgl := gram_left hg K (by omega); have hgl1 : 0 ≤ (xa2.getD K (0, 0, 0, 0)).1 := hgl.1; have hgl2 : (xa2.getD K (0, 0, 0, 0)).1 < a0 := hgl.2; have hyn := hp.n; have ei : i * 104 + (i + L) * 8 + (xa2.getD K (0, 0, 0, 0)).1.toNat = (i * 13 + (i + L)) * 8 + (rl xa2 K).1.toNat := (by simp only [rl]; omega); have ec : cl 0 13 8 ys1 i (i + L) (rl xa2 K).1 = ys1.getD (i * 104 + (i + L) * 8 + (xa2.getD K (0, 0, 0, 0)).1.toNat) 0 := congrArg (fun q => ys1.getD q 0) ei.symm; have hcr := hp.range (by omega) hgl; rw [ec] at hcr
      refine WL.pure rfl rfl rfl (PV.load0 T.na4 rfl hb2.cells (Ext.refl _) rfl) ?_
      refine WL.mv rfl rfl ?_
      refine WL.split (t := 92) rfl (fun hc11 => ?_) (fun hc11 => ?_)
      rotate_left
      · skip
        try simp only [nq] at hc11
        refine WL.skip rfl rfl rfl rfl rfl ?_
        refine WL.skip rfl rfl rfl rfl rfl ?_
        refine WL.skip rfl rfl rfl rfl rfl ?_
        refine WL.skip rfl rfl rfl rfl rfl ?_
        refine WL.pure rfl rfl rfl (PV.pickF rfl rfl) ?_
        refine WL.op rfl (OpK.storeB0 T.sz4 rfl rfl (by first | rfl | exact Osl.oneCell (by assumption) | exact Osn.oneCell (by assumption) | exact Rd.oneCell (by assumption) | exact Rd.oneCell (NL.rd (by assumption)) | assumption) hb2 (fun w15 hXw15 hb2 => ?_))
        have hB := hB.updL hXw15 hl2
        have hb1 := hb1.updD hXw15 hd1_2
        have hb3 := hb3.updD hXw15 (Dj.symm hd2_3)
        have hb4 := hb4.updD hXw15 (Dj.symm hd2_4)
        have hb5 := hb5.updD hXw15 (Dj.symm hd2_5)
        have hb8 := hb8.updD hXw15 (Dj.symm hd2_8)
        have hUB := hUB.step hXw15 hkB_2
        have hU0 := hU0.step hXw15 hk0_2
        refine WL.nil ?_
        refine NQ.block ?_
        refine NQ.then ?_
        refine CW.reg ?_
        refine WL.pure rfl rfl rfl (PV.add rfl rfl (by constructor <;> omega)) ?_
        refine WL.mv rfl rfl ?_
        refine WL.nil ?_
        refine NQ.next (ρ := [(15, _)]) ⟨rfl, rfl, rfl, rfl, rfl, rfl, rfl, rfl, trivial⟩ ?_
        exact ⟨_, ⟨K + 1, _, _, rfl, rfl, hU0, bxM hb1 (by rfl), bxE hb2 (by rfl), (by first | omega | assumption | (simp_all; done) | (simp_all; omega)), (by exact (TQM.imp hp (fun h9 => by first | assumption | cases h9)).close (by first | exact .inl (by omega) | exact .inr (by assumption)) (by omega) (fun h9 => by first | (cases h9; done) | (rw [ec]; exact of_decide_eq_true h9))), (by intro h9; first | exact hf1 (by assumption) | exact hp.bad (by assumption) hg (by omega) (by omega) (by omega) (by omega) (by rw [ec]; have h99 := of_decide_eq_false h9; omega))⟩, by omega⟩
      try simp only [nq] at hc11
      refine WL.pureG rfl rfl rfl rfl rfl (PV.move rfl) ?_
      refine WL.pureG rfl rfl rfl rfl rfl (PV.nilCheck rfl) ?_
      refine WL.pureG rfl rfl rfl rfl rfl (PV.loadArr 0 T.na2 rfl (Bx.cells hb1) (Ext.refl _) (by first | omega | (simp only [List.length_set]; omega))) ?_
      refine WL.pureG rfl rfl rfl rfl rfl (PV.leq rfl rfl) ?_
      refine WL.pure rfl rfl rfl (PV.pickT rfl rfl) ?_
      refine WL.op rfl (OpK.storeB0 T.sz4 rfl rfl (by first | rfl | exact Osl.oneCell (by assumption) | exact Osn.oneCell (by assumption) | exact Rd.oneCell (by assumption) | exact Rd.oneCell (NL.rd (by assumption)) | assumption) hb2 (fun w16 hXw16 hb2 => ?_))
      have hB := hB.updL hXw16 hl2
      have hb1 := hb1.updD hXw16 hd1_2
      have hb3 := hb3.updD hXw16 (Dj.symm hd2_3)
      have hb4 := hb4.updD hXw16 (Dj.symm hd2_4)
      have hb5 := hb5.updD hXw16 (Dj.symm hd2_5)
      have hb8 := hb8.updD hXw16 (Dj.symm hd2_8)
      have hUB := hUB.step hXw16 hkB_2
      have hU0 := hU0.step hXw16 hk0_2
      refine WL.nil ?_
      refine NQ.block ?_
      refine NQ.then ?_
      refine CW.reg ?_
      refine WL.pure rfl rfl rfl (PV.add rfl rfl (by constructor <;> omega)) ?_
      refine WL.mv rfl rfl ?_
      refine WL.nil ?_
      refine NQ.next (ρ := [(15, _)]) ⟨rfl, rfl, rfl, rfl, rfl, rfl, rfl, rfl, trivial⟩ ?_
      exact ⟨_, ⟨K + 1, _, _, rfl, rfl, hU0, bxM hb1 (by rfl), bxE hb2 (by rfl), (by first | omega | assumption | (simp_all; done) | (simp_all; omega)), (by exact (TQM.imp hp (fun h9 => by first | assumption | cases h9)).close (by first | exact .inl (by omega) | exact .inr (by assumption)) (by omega) (fun h9 => by first | (cases h9; done) | (rw [ec]; exact of_decide_eq_true h9))), (by intro h9; first | exact hf1 (by assumption) | exact hp.bad (by assumption) hg (by omega) (by omega) (by omega) (by omega) (by rw [ec]; have h99 := of_decide_eq_false h9; omega))⟩, by omega⟩
    try simp only [nq] at hc7
    refine HP.takeG rfl rfl rfl rfl rfl rfl hS (fun wS hS1 => PV.load0 T.na28 rfl (Bx.cells (Bx.updD (by assumption) hS1 (Dj.nlR _))) (Ext.refl _) rfl) ?_
    refine HP.takeG rfl rfl rfl rfl rfl rfl hS (fun wS hS1 => PV.move rfl) ?_
    first
      | refine HP.at (x := .tmp 38) (y := .tmp 39) (E := EI) (0) rfl rfl (by first | assumption | exact Inn.rd (by assumption) (by omega)) (by first | omega | (simp only [List.length_set]; omega) | (simp only [List.length_append, List.length_take, List.length_replicate, List.length_drop]; omega)) (fun p2 csp2 hpp2 hcp2 hq => ?_)
      | refine HP.atZ (x := .tmp 38) (y := .tmp 39) (E := EI) (0) rfl rfl (by first | assumption | exact Inn.rd (by assumption) (by omega)) (by first | omega | (simp only [List.length_set]; omega) | (simp only [List.length_append, List.length_take, List.length_replicate, List.length_drop]; omega)) (fun p2 csp2 hpp2 hzp2 hcp2 hq => ?_)
    cases hq
    refine HP.takeG rfl rfl rfl rfl rfl rfl hS (fun wS hS1 => (by first | exact PV.indexAddr hpp2 rfl rfl T.sl28 | exact PV.indexAddr hpp2 rfl (by rw [← hzp2]; rfl) T.sl28)) ?_
    refine HP.takeG rfl rfl rfl rfl rfl rfl hS (fun wS hS1 => (by first | exact PV.load0 T.na2 rfl (by first | exact Cells.up (by assumption) (hBr.trans hS1) | exact Bx.cells (Bx.updD (by assumption) hS1 (Dj.nlR _)) | exact Cells.upd (by assumption) hS1 (by simp)) (Ext.refl _) rfl | exact PV.load1 T.na2 rfl (by first | exact Cells.up (by assumption) (hBr.trans hS1) | exact Bx.cells (Bx.updD (by assumption) hS1 (Dj.nlR _)) | exact Cells.upd (by assumption) hS1 (by simp)) (Ext.refl _) rfl)) ?_
    refine HP.takeG rfl rfl rfl rfl rfl rfl hS (fun wS hS1 => PV.fieldAddr T.fl56_1 rfl hb8.cells) ?_
    refine HP.takeG rfl rfl rfl rfl rfl rfl hS (fun wS hS1 => PV.load1 T.na2 rfl (Bx.cells (Bx.updD (by assumption) hS1 (Dj.nlR _))) (Ext.refl _) rfl) ?_
    refine HP.takeG rfl rfl rfl rfl rfl rfl hS (fun wS hS1 => PV.eql rfl rfl) ?_
    refine HP.take rfl rfl rfl rfl hS (fun wS hS1 => PV.pickT rfl rfl) ?_
    refine HP.doneS ?_
    refine CW.cond rfl (fun hc12 => ?_) (fun hc12 => ?_)
    · skip
      try simp only [nq] at hc12
      refine CW.reg ?_
      have hgl := gram_left hg K (by omega); have hgl1 : 0 ≤ (xa2.getD K (0, 0, 0, 0)).1 := hgl.1; have hgl2 : (xa2.getD K (0, 0, 0, 0)).1 < a0 := hgl.2; have hyn := hp.n; have ei : i * 104 + (i + L) * 8 + (xa2.getD K (0, 0, 0, 0)).1.toNat = (i * 13 + (i + L)) * 8 + (rl xa2 K).1.toNat := (by simp only [rl]; omega); have ec : cl 0 13 8 ys1 i (i + L) (rl xa2 K).1 = ys1.getD (i * 104 + (i + L) * 8 + (xa2.getD K (0, 0, 0, 0)).1.toNat) 0 := congrArg (fun q => ys1.getD q 0) ei.symm; have hcr := hp.range (by omega) hgl; rw [ec] at hcr
      refine WL.mv rfl rfl ?_
      refine WL.pure rfl rfl rfl (PV.nilCheck rfl) ?_
      refine WL.pure rfl rfl rfl (PV.loadArr 0 T.na2 rfl (Bx.cells hb1) (Ext.refl _) (by first | omega | (simp only [List.length_set]; omega))) ?_
      refine WL.pure rfl rfl rfl (PV.add rfl rfl (by constructor <;> omega)) ?_
      refine WL.pure rfl rfl rfl (PV.nilCheck rfl) ?_
      refine WL.op rfl (OpK.storeArr T.sz2 rfl rfl rfl hb1 (by first | omega | (simp only [List.length_set]; omega)) (fun w17 hXw17 hb1 => ?_))
      have hB := hB.updL hXw17 hl1
      have hb2 := hb2.updD hXw17 (Dj.symm hd1_2)
      have hb3 := hb3.updD hXw17 (Dj.symm hd1_3)
      have hb4 := hb4.updD hXw17 (Dj.symm hd1_4)
      have hb5 := hb5.updD hXw17 (Dj.symm hd1_5)
      have hb8 := hb8.updD hXw17 (Dj.symm hd1_8)
      have hUB := hUB.step hXw17 hkB_1
      have hU0 := hU0.step hXw17 hk0_1
      refine WL.nilS ?_
      refine CW.seq ?_
      refine CW.seq ?_
      refine CW.reg ?_
      refine WL.mv rfl rfl ?_
      refine WL.pure rfl rfl rfl (PV.add rfl rfl (by constructor <;> omega)) ?_
      refine WL.asg rfl rfl ?_
      refine WL.nilS ?_
      refine CW.block ?_
      refine CW.loop (σk := [(0, _), (1, _), (3, _), (4, _), (5, _), (9, _), (10, _), (13, _), (14, _), (15, _)]) (fun ρ wz m => ∃ (M : Nat) (ys1 : List Int), ρ = [(11, .int .i64 (M : Nat))] ∧ m = i + L - M ∧ UpdL [(some pc.block)] w17 wz ∧ Bx wz pc (List.map VI (ys1)) ∧ (i + 1 ≤ M ∧ M ≤ i + L) ∧ (TQM (f1 = true) xa2 xs a0 13 8 1248 ys1 L i K M)) (ρ₀ := [(11, _)]) (m₀ := _) ⟨rfl, rfl, rfl, rfl, rfl, rfl, rfl, rfl, rfl, rfl, rfl, trivial⟩ ⟨i + 1, _, rfl, rfl, (UpdL.refl _ _), bxM hb1 (by rfl), (by first | omega | rfl | (simp; done) | assumption | (simp_all; done)), (by first | exact hp0.open_no (fun h9 => by have h91 : (xa2.getD K (0, 0, 0, 0)).2.2.1 < 0 := h9.1; have h92 := h9.2.1; first | omega | exact absurd h9.2.2 (by assumption)) | (rw [← ec, ei]; exact hp0.open_leaf hg (by omega) (by omega) (by omega) (by omega) (by omega) (by omega) (by assumption) (by omega) (by assumption)))⟩ ?_
      rintro _ wl4 _ ⟨M, ys1, rfl, rfl, hU1, hb1, hm, hp⟩
      have hUB := hUB.trans hU1 ⟨hkB_1, trivial⟩
      have hU0 := hU0.trans hU1 ⟨hk0_1, trivial⟩
      have hb2 := hb2.loop hU1 ⟨(Dj.symm hd1_2), trivial⟩
      have hb3 := hb3.loop hU1 ⟨(Dj.symm hd1_3), trivial⟩
      have hb4 := hb4.loop hU1 ⟨(Dj.symm hd1_4), trivial⟩
      have hb5 := hb5.loop hU1 ⟨(Dj.symm hd1_5), trivial⟩
      have hb8 := hb8.loop hU1 ⟨(Dj.symm hd1_8), trivial⟩
      have hk1_1 : OkB [(some pc.block)] w17 (some pc.block) := OkB.mem (by simp)
      have hB := hB.loop hU1 ⟨hl1, trivial⟩
      refine CW.seq ?_
      refine CW.seq ?_
      refine CW.reg ?_
      refine WL.mv rfl rfl ?_
      refine WL.mv rfl rfl ?_
      refine WL.pure rfl rfl rfl (PV.lss rfl rfl) ?_
      refine WL.mv rfl rfl ?_
      refine WL.split (t := 56) rfl (fun hc13 => ?_) (fun hc13 => ?_)
      rotate_left
      · skip
        try simp only [nq] at hc13
        refine WL.skip rfl rfl rfl rfl rfl ?_
        refine WL.skip rfl rfl rfl rfl rfl ?_
        refine WL.skip rfl rfl rfl rfl rfl ?_
        refine WL.pure rfl rfl rfl (PV.pickF rfl rfl) ?_
        refine WL.nilS ?_
        refine CW.condF rfl ?_
        refine CW.exit ?_
        refine XQ.then ?_
        refine XQ.then ?_
        refine XQ.here ?_
        refine NQ.then ?_
        refine CW.reg ?_
        have hgl := gram_left hg K (by omega); have hgl1 : 0 ≤ (xa2.getD K (0, 0, 0, 0)).1 := hgl.1; have hgl2 : (xa2.getD K (0, 0, 0, 0)).1 < a0 := hgl.2; have hyn := hp.n; have ei : i * 104 + (i + L) * 8 + (xa2.getD K (0, 0, 0, 0)).1.toNat = (i * 13 + (i + L)) * 8 + (rl xa2 K).1.toNat := (by simp only [rl]; omega); have ec : cl 0 13 8 ys1 i (i + L) (rl xa2 K).1 = ys1.getD (i * 104 + (i + L) * 8 + (xa2.getD K (0, 0, 0, 0)).1.toNat) 0 := congrArg (fun q => ys1.getD q 0) ei.symm; have hcr := hp.range (by omega) hgl; rw [ec] at hcr
        refine WL.pure rfl rfl rfl (PV.load0 T.na4 rfl hb2.cells (Ext.refl _) rfl) ?_
        refine WL.mv rfl rfl ?_
        refine WL.split (t := 92) rfl (fun hc14 => ?_) (fun hc14 => ?_)
        rotate_left
        · skip
          try simp only [nq] at hc14
          refine WL.skip rfl rfl rfl rfl rfl ?_
          refine WL.skip rfl rfl rfl rfl rfl ?_
          refine WL.skip rfl rfl rfl rfl rfl ?_
          refine WL.skip rfl rfl rfl rfl rfl ?_
          refine WL.pure rfl rfl rfl (PV.pickF rfl rfl) ?_
          refine WL.op rfl (OpK.storeB0 T.sz4 rfl rfl (by first | rfl | exact Osl.oneCell (by assumption) | exact Osn.oneCell (by assumption) | exact Rd.oneCell (by assumption) | exact Rd.oneCell (NL.rd (by assumption)) | assumption) hb2 (fun w18 hXw18 hb2 => ?_))
          have hB := hB.updL hXw18 hl2
          have hb1 := hb1.updD hXw18 hd1_2
          have hb3 := hb3.updD hXw18 (Dj.symm hd2_3)
          have hb4 := hb4.updD hXw18 (Dj.symm hd2_4)
          have hb5 := hb5.updD hXw18 (Dj.symm hd2_5)
          have hb8 := hb8.updD hXw18 (Dj.symm hd2_8)
          have hUB := hUB.step hXw18 hkB_2
          have hU0 := hU0.step hXw18 hk0_2
          refine WL.nil ?_
          refine NQ.block ?_
          refine NQ.then ?_
          refine CW.reg ?_
          refine WL.pure rfl rfl rfl (PV.add rfl rfl (by constructor <;> omega)) ?_
          refine WL.mv rfl rfl ?_
          refine WL.nil ?_
          refine NQ.next (ρ := [(15, _)]) ⟨rfl, rfl, rfl, rfl, rfl, rfl, rfl, rfl, trivial⟩ ?_
          exact ⟨_, ⟨K + 1, _, _, rfl, rfl, hU0, bxM hb1 (by rfl), bxE hb2 (by rfl), (by first | omega | assumption | (simp_all; done) | (simp_all; omega)), (by exact (TQM.imp hp (fun h9 => by first | assumption | cases h9)).close (by first | exact .inl (by omega) | exact .inr (by assumption)) (by omega) (fun h9 => by first | (cases h9; done) | (rw [ec]; exact of_decide_eq_true h9))), (by intro h9; first | exact hf1 (by assumption) | exact hp.bad (by assumption) hg (by omega) (by omega) (by omega) (by omega) (by rw [ec]; have h99 := of_decide_eq_false h9; omega))⟩, by omega⟩
        try simp only [nq] at hc14
        refine WL.pureG rfl rfl rfl rfl rfl (PV.move rfl) ?_
        refine WL.pureG rfl rfl rfl rfl rfl (PV.nilCheck rfl) ?_
        refine WL.pureG rfl rfl rfl rfl rfl (PV.loadArr 0 T.na2 rfl (Bx.cells hb1) (Ext.refl _) (by first | omega | (simp only [List.length_set]; omega))) ?_
        refine WL.pureG rfl rfl rfl rfl rfl (PV.leq rfl rfl) ?_
        refine WL.pure rfl rfl rfl (PV.pickT rfl rfl) ?_
        refine WL.op rfl (OpK.storeB0 T.sz4 rfl rfl (by first | rfl | exact Osl.oneCell (by assumption) | exact Osn.oneCell (by assumption) | exact Rd.oneCell (by assumption) | exact Rd.oneCell (NL.rd (by assumption)) | assumption) hb2 (fun w19 hXw19 hb2 => ?_))
        have hB := hB.updL hXw19 hl2
        have hb1 := hb1.updD hXw19 hd1_2
        have hb3 := hb3.updD hXw19 (Dj.symm hd2_3)
        have hb4 := hb4.updD hXw19 (Dj.symm hd2_4)
        have hb5 := hb5.updD hXw19 (Dj.symm hd2_5)
        have hb8 := hb8.updD hXw19 (Dj.symm hd2_8)
        have hUB := hUB.step hXw19 hkB_2
        have hU0 := hU0.step hXw19 hk0_2
        refine WL.nil ?_
        refine NQ.block ?_
        refine NQ.then ?_
        refine CW.reg ?_
        refine WL.pure rfl rfl rfl (PV.add rfl rfl (by constructor <;> omega)) ?_
        refine WL.mv rfl rfl ?_
        refine WL.nil ?_
        refine NQ.next (ρ := [(15, _)]) ⟨rfl, rfl, rfl, rfl, rfl, rfl, rfl, rfl, trivial⟩ ?_
        exact ⟨_, ⟨K + 1, _, _, rfl, rfl, hU0, bxM hb1 (by rfl), bxE hb2 (by rfl), (by first | omega | assumption | (simp_all; done) | (simp_all; omega)), (by exact (TQM.imp hp (fun h9 => by first | assumption | cases h9)).close (by first | exact .inl (by omega) | exact .inr (by assumption)) (by omega) (fun h9 => by first | (cases h9; done) | (rw [ec]; exact of_decide_eq_true h9))), (by intro h9; first | exact hf1 (by assumption) | exact hp.bad (by assumption) hg (by omega) (by omega) (by omega) (by omega) (by rw [ec]; have h99 := of_decide_eq_false h9; omega))⟩, by omega⟩
      try simp only [nq] at hc13
      refine WL.pureG rfl rfl rfl rfl rfl (PV.fieldAddr T.fl56_2 rfl hb8.cells) ?_
      refine WL.pureG rfl rfl rfl rfl rfl (PV.load1 T.na2 rfl hb8.cells (Ext.refl _) rfl) ?_
      refine WL.pureG rfl rfl rfl rfl rfl (PV.geq rfl rfl) ?_
      refine WL.pure rfl rfl rfl (PV.pickT rfl rfl) ?_
      refine WL.nilS ?_
      refine CW.cond rfl (fun hc15 => ?_) (fun hc15 => ?_)
      · skip
        try simp only [nq] at hc15
        refine CW.skipS ?_
        refine CW.seq ?_
        refine CW.block ?_
        refine CW.draw T.mixed (by kernel_rfl) (fun _ _ _ _ _ h => h) (fun w8 w9 => Upd none w8 w9) 28 (.take 0 (.take 1 (.take 2 (.take 3 (.take 4 (.take 5 (.take 6 (.take 7 (.take 8 (.take 9 (.take 10 (.take 11 (.take 12 (.take 13 (.take 14 (.take 15 (.take 16 (.take 17 (.take 18 (.take 19 (.take 20 (.take 21 (.take 22 (.take 23 (.take 24 (.take 25 (.take 26 (.take 27 (.must 28 .done))))))))))))))))))))))))))))) (by kernel_rfl) (fun w20 hXd => ?_)
        have hB := hB.trans hXd
        have hb1 := hb1.up hXd
        have hb2 := hb2.up hXd
        have hb3 := hb3.up hXd
        have hb4 := hb4.up hXd
        have hb5 := hb5.up hXd
        have hb8 := hb8.up hXd
        have hUB := hUB.ext hXd
        have hU0 := hU0.ext hXd
        have hU1 := hU1.ext hXd
        have hBr := hB
        have hS : Upd none w20 w20 := Ext.toUpd (Ext.refl _)
        have hgl := gram_left hg K (by omega); have hgl1 : 0 ≤ (xa2.getD K (0, 0, 0, 0)).1 := hgl.1; have hgl2 : (xa2.getD K (0, 0, 0, 0)).1 < a0 := hgl.2; have hyn := hp.n; have ei : i * 104 + (i + L) * 8 + (xa2.getD K (0, 0, 0, 0)).1.toNat = (i * 13 + (i + L)) * 8 + (rl xa2 K).1.toNat := (by simp only [rl]; omega); have ec : cl 0 13 8 ys1 i (i + L) (rl xa2 K).1 = ys1.getD (i * 104 + (i + L) * 8 + (xa2.getD K (0, 0, 0, 0)).1.toNat) 0 := congrArg (fun q => ys1.getD q 0) ei.symm; have hcr := hp.range (by omega) hgl; rw [ec] at hcr; have hgn := gram_node hg (k := K) (by omega) (by assumption); have gn1 : 0 ≤ (xa2.getD K (0, 0, 0, 0)).2.1 ∧ (xa2.getD K (0, 0, 0, 0)).2.1 < a0 := hgn.1; have gn2 : 0 ≤ (xa2.getD K (0, 0, 0, 0)).2.2.1 ∧ (xa2.getD K (0, 0, 0, 0)).2.2.1 < a0 := hgn.2; have hsb := hp.sub hg (by omega) (by omega) (by assumption) (by omega) (by omega); have ea : cl 0 13 8 ys1 i M (rl xa2 K).2.1 = ys1.getD (i * 104 + M * 8 + (xa2.getD K (0, 0, 0, 0)).2.1.toNat) 0 := congrArg (fun q => ys1.getD q 0) (show (i * 13 + M) * 8 + (xa2.getD K (0, 0, 0, 0)).2.1.toNat = _ from (by omega)); have eb : cl 0 13 8 ys1 M (i + L) (rl xa2 K).2.2.1 = ys1.getD (M * 104 + (i + L) * 8 + (xa2.getD K (0, 0, 0, 0)).2.2.1.toNat) 0 := congrArg (fun q => ys1.getD q 0) (show (M * 13 + (i + L)) * 8 + (xa2.getD K (0, 0, 0, 0)).2.2.1.toNat = _ from (by omega)); rw [ea, eb] at hsb; have hmb := mul_bd hsb.1 hsb.2
        refine HP.take rfl rfl rfl rfl hS (fun wS hS1 => PV.move rfl) ?_
        refine HP.take rfl rfl rfl rfl hS (fun wS hS1 => PV.move rfl) ?_
        refine HP.take rfl rfl rfl rfl hS (fun wS hS1 => PV.nilCheck rfl) ?_
        refine HP.take rfl rfl rfl rfl hS (fun wS hS1 => PV.loadArr 0 T.na2 rfl (Bx.cells (Bx.updD hb1 hS1 (Dj.nlR _))) (Ext.refl _) (by first | omega | (simp only [List.length_set]; omega))) ?_
        refine HP.take rfl rfl rfl rfl hS (fun wS hS1 => PV.load0 T.na134 rfl (Bx.cells (Bx.updD (by assumption) hS1 (Dj.nlR _))) (Ext.refl _) rfl) ?_
        refine HP.take rfl rfl rfl rfl hS (fun wS hS1 => PV.move rfl) ?_
        refine HP.take rfl rfl rfl rfl hS (fun wS hS1 => PV.move rfl) ?_
        refine HP.take rfl rfl rfl rfl hS (fun wS hS1 => PV.fieldAddr T.fl56_1 rfl hb8.cells) ?_
        refine HP.take rfl rfl rfl rfl hS (fun wS hS1 => PV.load1 T.na2 rfl (Bx.cells (Bx.updD (by assumption) hS1 (Dj.nlR _))) (Ext.refl _) rfl) ?_
        refine HP.take rfl rfl rfl rfl hS (fun wS hS1 => PV.nilCheck rfl) ?_
        refine HP.take rfl rfl rfl rfl hS (fun wS hS1 => (by first | exact PV.ixN T.ar138 rfl hb1.spot rfl (by omega) | exact PV.ixZ T.ar138 rfl hb1.spot rfl (by omega))) ?_
        refine HP.take rfl rfl rfl rfl hS (fun wS hS1 => (by first | exact PV.ixPN T.ar136 rfl rfl (by omega) | exact PV.ixPZ T.ar136 rfl rfl (by omega))) ?_
        refine HP.take rfl rfl rfl rfl hS (fun wS hS1 => (by first | exact PV.ixPN1 T.ar135 rfl rfl (by omega) | exact PV.ixPZ1 T.ar135 rfl rfl (by omega))) ?_
        refine HP.take rfl rfl rfl rfl hS (fun wS hS1 => PV.loadArr 0 T.na2 rfl (Bx.cells (Bx.updD hb1 hS1 (Dj.nlR _))) (Ext.refl _) (by first | omega | (simp only [List.length_set]; omega))) ?_
        refine HP.take rfl rfl rfl rfl hS (fun wS hS1 => PV.load0 T.na134 rfl (Bx.cells (Bx.updD (by assumption) hS1 (Dj.nlR _))) (Ext.refl _) rfl) ?_
        refine HP.take rfl rfl rfl rfl hS (fun wS hS1 => PV.move rfl) ?_
        refine HP.take rfl rfl rfl rfl hS (fun wS hS1 => PV.move rfl) ?_
        refine HP.take rfl rfl rfl rfl hS (fun wS hS1 => PV.fieldAddr T.fl56_2 rfl hb8.cells) ?_
        refine HP.take rfl rfl rfl rfl hS (fun wS hS1 => PV.load1 T.na2 rfl (Bx.cells (Bx.updD (by assumption) hS1 (Dj.nlR _))) (Ext.refl _) rfl) ?_
        refine HP.take rfl rfl rfl rfl hS (fun wS hS1 => PV.nilCheck rfl) ?_
        refine HP.take rfl rfl rfl rfl hS (fun wS hS1 => (by first | exact PV.ixN T.ar138 rfl hb1.spot rfl (by omega) | exact PV.ixZ T.ar138 rfl hb1.spot rfl (by omega))) ?_
        refine HP.take rfl rfl rfl rfl hS (fun wS hS1 => (by first | exact PV.ixPN T.ar136 rfl rfl (by omega) | exact PV.ixPZ T.ar136 rfl rfl (by omega))) ?_
        refine HP.take rfl rfl rfl rfl hS (fun wS hS1 => (by first | exact PV.ixPN1 T.ar135 rfl rfl (by omega) | exact PV.ixPZ1 T.ar135 rfl rfl (by omega))) ?_
        refine HP.take rfl rfl rfl rfl hS (fun wS hS1 => PV.loadArr 0 T.na2 rfl (Bx.cells (Bx.updD hb1 hS1 (Dj.nlR _))) (Ext.refl _) (by first | omega | (simp only [List.length_set]; omega))) ?_
        refine HP.take rfl rfl rfl rfl hS (fun wS hS1 => PV.mul rfl rfl (by constructor <;> omega)) ?_
        refine HP.take rfl rfl rfl rfl hS (fun wS hS1 => PV.add rfl rfl (by constructor <;> omega)) ?_
        refine HP.take rfl rfl rfl rfl hS (fun wS hS1 => PV.min2 rfl rfl) ?_
        refine HP.take rfl rfl rfl rfl hS (fun wS hS1 => PV.nilCheck rfl) ?_
        refine HP.last rfl rfl (OpK.storeArr T.sz2 rfl rfl rfl hb1 (by first | omega | (simp only [List.length_set]; omega)) (fun w21 hXw21 hb1 => ?_))
        have hB := hB.updL hXw21 hl1
        have hb2 := hb2.updD hXw21 (Dj.symm hd1_2)
        have hb3 := hb3.updD hXw21 (Dj.symm hd1_3)
        have hb4 := hb4.updD hXw21 (Dj.symm hd1_4)
        have hb5 := hb5.updD hXw21 (Dj.symm hd1_5)
        have hb8 := hb8.updD hXw21 (Dj.symm hd1_8)
        have hUB := hUB.step hXw21 hkB_1
        have hU0 := hU0.step hXw21 hk0_1
        have hU1 := hU1.step hXw21 hk1_1
        refine HP.done ?_
        refine NQ.block ?_
        refine NQ.then ?_
        refine CW.reg ?_
        refine WL.mv rfl rfl ?_
        refine WL.pure rfl rfl rfl (PV.add rfl rfl (by constructor <;> omega)) ?_
        refine WL.asg rfl rfl ?_
        refine WL.nil ?_
        refine NQ.next (ρ := [(11, _)]) ⟨rfl, rfl, rfl, rfl, rfl, rfl, rfl, rfl, rfl, rfl, rfl, trivial⟩ ?_
        exact ⟨_, ⟨M + 1, _, rfl, rfl, hU1, bxM hb1 (by rfl), (by first | omega | assumption | (simp_all; done) | (simp_all; omega)), (by rw [← ec, ← ea, ← eb, ei]; exact hp.step hg (by omega) (by omega) (by omega) (by omega) (by omega) (by assumption) (by omega) (by omega) (by split <;> omega))⟩, by omega⟩
      try simp only [nq] at hc15
      refine CW.exit ?_
      refine XQ.then ?_
      refine XQ.then ?_
      refine XQ.here ?_
      refine NQ.then ?_
      refine CW.reg ?_
      have hgl := gram_left hg K (by omega); have hgl1 : 0 ≤ (xa2.getD K (0, 0, 0, 0)).1 := hgl.1; have hgl2 : (xa2.getD K (0, 0, 0, 0)).1 < a0 := hgl.2; have hyn := hp.n; have ei : i * 104 + (i + L) * 8 + (xa2.getD K (0, 0, 0, 0)).1.toNat = (i * 13 + (i + L)) * 8 + (rl xa2 K).1.toNat := (by simp only [rl]; omega); have ec : cl 0 13 8 ys1 i (i + L) (rl xa2 K).1 = ys1.getD (i * 104 + (i + L) * 8 + (xa2.getD K (0, 0, 0, 0)).1.toNat) 0 := congrArg (fun q => ys1.getD q 0) ei.symm; have hcr := hp.range (by omega) hgl; rw [ec] at hcr
      refine WL.pure rfl rfl rfl (PV.load0 T.na4 rfl hb2.cells (Ext.refl _) rfl) ?_
      refine WL.mv rfl rfl ?_
      refine WL.split (t := 92) rfl (fun hc16 => ?_) (fun hc16 => ?_)
      rotate_left
      · skip
        try simp only [nq] at hc16
        refine WL.skip rfl rfl rfl rfl rfl ?_
        refine WL.skip rfl rfl rfl rfl rfl ?_
        refine WL.skip rfl rfl rfl rfl rfl ?_
        refine WL.skip rfl rfl rfl rfl rfl ?_
        refine WL.pure rfl rfl rfl (PV.pickF rfl rfl) ?_
        refine WL.op rfl (OpK.storeB0 T.sz4 rfl rfl (by first | rfl | exact Osl.oneCell (by assumption) | exact Osn.oneCell (by assumption) | exact Rd.oneCell (by assumption) | exact Rd.oneCell (NL.rd (by assumption)) | assumption) hb2 (fun w22 hXw22 hb2 => ?_))
        have hB := hB.updL hXw22 hl2
        have hb1 := hb1.updD hXw22 hd1_2
        have hb3 := hb3.updD hXw22 (Dj.symm hd2_3)
        have hb4 := hb4.updD hXw22 (Dj.symm hd2_4)
        have hb5 := hb5.updD hXw22 (Dj.symm hd2_5)
        have hb8 := hb8.updD hXw22 (Dj.symm hd2_8)
        have hUB := hUB.step hXw22 hkB_2
        have hU0 := hU0.step hXw22 hk0_2
        refine WL.nil ?_
        refine NQ.block ?_
        refine NQ.then ?_
        refine CW.reg ?_
        refine WL.pure rfl rfl rfl (PV.add rfl rfl (by constructor <;> omega)) ?_
        refine WL.mv rfl rfl ?_
        refine WL.nil ?_
        refine NQ.next (ρ := [(15, _)]) ⟨rfl, rfl, rfl, rfl, rfl, rfl, rfl, rfl, trivial⟩ ?_
        exact ⟨_, ⟨K + 1, _, _, rfl, rfl, hU0, bxM hb1 (by rfl), bxE hb2 (by rfl), (by first | omega | assumption | (simp_all; done) | (simp_all; omega)), (by exact (TQM.imp hp (fun h9 => by first | assumption | cases h9)).close (by first | exact .inl (by omega) | exact .inr (by assumption)) (by omega) (fun h9 => by first | (cases h9; done) | (rw [ec]; exact of_decide_eq_true h9))), (by intro h9; first | exact hf1 (by assumption) | exact hp.bad (by assumption) hg (by omega) (by omega) (by omega) (by omega) (by rw [ec]; have h99 := of_decide_eq_false h9; omega))⟩, by omega⟩
      try simp only [nq] at hc16
      refine WL.pureG rfl rfl rfl rfl rfl (PV.move rfl) ?_
      refine WL.pureG rfl rfl rfl rfl rfl (PV.nilCheck rfl) ?_
      refine WL.pureG rfl rfl rfl rfl rfl (PV.loadArr 0 T.na2 rfl (Bx.cells hb1) (Ext.refl _) (by first | omega | (simp only [List.length_set]; omega))) ?_
      refine WL.pureG rfl rfl rfl rfl rfl (PV.leq rfl rfl) ?_
      refine WL.pure rfl rfl rfl (PV.pickT rfl rfl) ?_
      refine WL.op rfl (OpK.storeB0 T.sz4 rfl rfl (by first | rfl | exact Osl.oneCell (by assumption) | exact Osn.oneCell (by assumption) | exact Rd.oneCell (by assumption) | exact Rd.oneCell (NL.rd (by assumption)) | assumption) hb2 (fun w23 hXw23 hb2 => ?_))
      have hB := hB.updL hXw23 hl2
      have hb1 := hb1.updD hXw23 hd1_2
      have hb3 := hb3.updD hXw23 (Dj.symm hd2_3)
      have hb4 := hb4.updD hXw23 (Dj.symm hd2_4)
      have hb5 := hb5.updD hXw23 (Dj.symm hd2_5)
      have hb8 := hb8.updD hXw23 (Dj.symm hd2_8)
      have hUB := hUB.step hXw23 hkB_2
      have hU0 := hU0.step hXw23 hk0_2
      refine WL.nil ?_
      refine NQ.block ?_
      refine NQ.then ?_
      refine CW.reg ?_
      refine WL.pure rfl rfl rfl (PV.add rfl rfl (by constructor <;> omega)) ?_
      refine WL.mv rfl rfl ?_
      refine WL.nil ?_
      refine NQ.next (ρ := [(15, _)]) ⟨rfl, rfl, rfl, rfl, rfl, rfl, rfl, rfl, trivial⟩ ?_
      exact ⟨_, ⟨K + 1, _, _, rfl, rfl, hU0, bxM hb1 (by rfl), bxE hb2 (by rfl), (by first | omega | assumption | (simp_all; done) | (simp_all; omega)), (by exact (TQM.imp hp (fun h9 => by first | assumption | cases h9)).close (by first | exact .inl (by omega) | exact .inr (by assumption)) (by omega) (fun h9 => by first | (cases h9; done) | (rw [ec]; exact of_decide_eq_true h9))), (by intro h9; first | exact hf1 (by assumption) | exact hp.bad (by assumption) hg (by omega) (by omega) (by omega) (by omega) (by rw [ec]; have h99 := of_decide_eq_false h9; omega))⟩, by omega⟩
    try simp only [nq] at hc12
    refine CW.skipS ?_
    refine CW.seq ?_
    refine CW.seq ?_
    refine CW.reg ?_
    refine WL.mv rfl rfl ?_
    refine WL.pure rfl rfl rfl (PV.add rfl rfl (by constructor <;> omega)) ?_
    refine WL.asg rfl rfl ?_
    refine WL.nilS ?_
    refine CW.block ?_
    refine CW.loop (σk := [(0, _), (1, _), (3, _), (4, _), (5, _), (9, _), (10, _), (13, _), (14, _), (15, _)]) (fun ρ wz m => ∃ (M : Nat) (ys1 : List Int), ρ = [(11, .int .i64 (M : Nat))] ∧ m = i + L - M ∧ UpdL [(some pc.block)] w4 wz ∧ Bx wz pc (List.map VI (ys1)) ∧ (i + 1 ≤ M ∧ M ≤ i + L) ∧ (TQM (f1 = true) xa2 xs a0 13 8 1248 ys1 L i K M)) (ρ₀ := [(11, _)]) (m₀ := _) ⟨rfl, rfl, rfl, rfl, rfl, rfl, rfl, rfl, rfl, rfl, rfl, trivial⟩ ⟨i + 1, _, rfl, rfl, (UpdL.refl _ _), bxM hb1 (by rfl), (by first | omega | rfl | (simp; done) | assumption | (simp_all; done)), (by first | exact hp0.open_no (fun h9 => by have h91 : (xa2.getD K (0, 0, 0, 0)).2.2.1 < 0 := h9.1; have h92 := h9.2.1; first | omega | exact absurd h9.2.2 (by assumption)) | (rw [← ec, ei]; exact hp0.open_leaf hg (by omega) (by omega) (by omega) (by omega) (by omega) (by omega) (by assumption) (by omega) (by assumption)))⟩ ?_
    rintro _ wl5 _ ⟨M, ys1, rfl, rfl, hU1, hb1, hm, hp⟩
    have hUB := hUB.trans hU1 ⟨hkB_1, trivial⟩
    have hU0 := hU0.trans hU1 ⟨hk0_1, trivial⟩
    have hb2 := hb2.loop hU1 ⟨(Dj.symm hd1_2), trivial⟩
    have hb3 := hb3.loop hU1 ⟨(Dj.symm hd1_3), trivial⟩
    have hb4 := hb4.loop hU1 ⟨(Dj.symm hd1_4), trivial⟩
    have hb5 := hb5.loop hU1 ⟨(Dj.symm hd1_5), trivial⟩
    have hb8 := hb8.loop hU1 ⟨(Dj.symm hd1_8), trivial⟩
    have hk1_1 : OkB [(some pc.block)] w4 (some pc.block) := OkB.mem (by simp)
    have hB := hB.loop hU1 ⟨hl1, trivial⟩
    refine CW.seq ?_
    refine CW.seq ?_
    refine CW.reg ?_
    refine WL.mv rfl rfl ?_
    refine WL.mv rfl rfl ?_
    refine WL.pure rfl rfl rfl (PV.lss rfl rfl) ?_
    refine WL.mv rfl rfl ?_
    refine WL.split (t := 56) rfl (fun hc17 => ?_) (fun hc17 => ?_)
    rotate_left
    · skip
      try simp only [nq] at hc17
      refine WL.skip rfl rfl rfl rfl rfl ?_
      refine WL.skip rfl rfl rfl rfl rfl ?_
      refine WL.skip rfl rfl rfl rfl rfl ?_
      refine WL.pure rfl rfl rfl (PV.pickF rfl rfl) ?_
      refine WL.nilS ?_
      refine CW.condF rfl ?_
      refine CW.exit ?_
      refine XQ.then ?_
      refine XQ.then ?_
      refine XQ.here ?_
      refine NQ.then ?_
      refine CW.reg ?_
      have hgl := gram_left hg K (by omega); have hgl1 : 0 ≤ (xa2.getD K (0, 0, 0, 0)).1 := hgl.1; have hgl2 : (xa2.getD K (0, 0, 0, 0)).1 < a0 := hgl.2; have hyn := hp.n; have ei : i * 104 + (i + L) * 8 + (xa2.getD K (0, 0, 0, 0)).1.toNat = (i * 13 + (i + L)) * 8 + (rl xa2 K).1.toNat := (by simp only [rl]; omega); have ec : cl 0 13 8 ys1 i (i + L) (rl xa2 K).1 = ys1.getD (i * 104 + (i + L) * 8 + (xa2.getD K (0, 0, 0, 0)).1.toNat) 0 := congrArg (fun q => ys1.getD q 0) ei.symm; have hcr := hp.range (by omega) hgl; rw [ec] at hcr
      refine WL.pure rfl rfl rfl (PV.load0 T.na4 rfl hb2.cells (Ext.refl _) rfl) ?_
      refine WL.mv rfl rfl ?_
      refine WL.split (t := 92) rfl (fun hc18 => ?_) (fun hc18 => ?_)
      rotate_left
      · skip
        try simp only [nq] at hc18
        refine WL.skip rfl rfl rfl rfl rfl ?_
        refine WL.skip rfl rfl rfl rfl rfl ?_
        refine WL.skip rfl rfl rfl rfl rfl ?_
        refine WL.skip rfl rfl rfl rfl rfl ?_
        refine WL.pure rfl rfl rfl (PV.pickF rfl rfl) ?_
        refine WL.op rfl (OpK.storeB0 T.sz4 rfl rfl (by first | rfl | exact Osl.oneCell (by assumption) | exact Osn.oneCell (by assumption) | exact Rd.oneCell (by assumption) | exact Rd.oneCell (NL.rd (by assumption)) | assumption) hb2 (fun w24 hXw24 hb2 => ?_))
        have hB := hB.updL hXw24 hl2
        have hb1 := hb1.updD hXw24 hd1_2
        have hb3 := hb3.updD hXw24 (Dj.symm hd2_3)
        have hb4 := hb4.updD hXw24 (Dj.symm hd2_4)
        have hb5 := hb5.updD hXw24 (Dj.symm hd2_5)
        have hb8 := hb8.updD hXw24 (Dj.symm hd2_8)
        have hUB := hUB.step hXw24 hkB_2
        have hU0 := hU0.step hXw24 hk0_2
        refine WL.nil ?_
        refine NQ.block ?_
        refine NQ.then ?_
        refine CW.reg ?_
        refine WL.pure rfl rfl rfl (PV.add rfl rfl (by constructor <;> omega)) ?_
        refine WL.mv rfl rfl ?_
        refine WL.nil ?_
        refine NQ.next (ρ := [(15, _)]) ⟨rfl, rfl, rfl, rfl, rfl, rfl, rfl, rfl, trivial⟩ ?_
        exact ⟨_, ⟨K + 1, _, _, rfl, rfl, hU0, bxM hb1 (by rfl), bxE hb2 (by rfl), (by first | omega | assumption | (simp_all; done) | (simp_all; omega)), (by exact (TQM.imp hp (fun h9 => by first | assumption | cases h9)).close (by first | exact .inl (by omega) | exact .inr (by assumption)) (by omega) (fun h9 => by first | (cases h9; done) | (rw [ec]; exact of_decide_eq_true h9))), (by intro h9; first | exact hf1 (by assumption) | exact hp.bad (by assumption) hg (by omega) (by omega) (by omega) (by omega) (by rw [ec]; have h99 := of_decide_eq_false h9; omega))⟩, by omega⟩
      try simp only [nq] at hc18
      refine WL.pureG rfl rfl rfl rfl rfl (PV.move rfl) ?_
      refine WL.pureG rfl rfl rfl rfl rfl (PV.nilCheck rfl) ?_
      refine WL.pureG rfl rfl rfl rfl rfl (PV.loadArr 0 T.na2 rfl (Bx.cells hb1) (Ext.refl _) (by first | omega | (simp only [List.length_set]; omega))) ?_
      refine WL.pureG rfl rfl rfl rfl rfl (PV.leq rfl rfl) ?_
      refine WL.pure rfl rfl rfl (PV.pickT rfl rfl) ?_
      refine WL.op rfl (OpK.storeB0 T.sz4 rfl rfl (by first | rfl | exact Osl.oneCell (by assumption) | exact Osn.oneCell (by assumption) | exact Rd.oneCell (by assumption) | exact Rd.oneCell (NL.rd (by assumption)) | assumption) hb2 (fun w25 hXw25 hb2 => ?_))
      have hB := hB.updL hXw25 hl2
      have hb1 := hb1.updD hXw25 hd1_2
      have hb3 := hb3.updD hXw25 (Dj.symm hd2_3)
      have hb4 := hb4.updD hXw25 (Dj.symm hd2_4)
      have hb5 := hb5.updD hXw25 (Dj.symm hd2_5)
      have hb8 := hb8.updD hXw25 (Dj.symm hd2_8)
      have hUB := hUB.step hXw25 hkB_2
      have hU0 := hU0.step hXw25 hk0_2
      refine WL.nil ?_
      refine NQ.block ?_
      refine NQ.then ?_
      refine CW.reg ?_
      refine WL.pure rfl rfl rfl (PV.add rfl rfl (by constructor <;> omega)) ?_
      refine WL.mv rfl rfl ?_
      refine WL.nil ?_
      refine NQ.next (ρ := [(15, _)]) ⟨rfl, rfl, rfl, rfl, rfl, rfl, rfl, rfl, trivial⟩ ?_
      exact ⟨_, ⟨K + 1, _, _, rfl, rfl, hU0, bxM hb1 (by rfl), bxE hb2 (by rfl), (by first | omega | assumption | (simp_all; done) | (simp_all; omega)), (by exact (TQM.imp hp (fun h9 => by first | assumption | cases h9)).close (by first | exact .inl (by omega) | exact .inr (by assumption)) (by omega) (fun h9 => by first | (cases h9; done) | (rw [ec]; exact of_decide_eq_true h9))), (by intro h9; first | exact hf1 (by assumption) | exact hp.bad (by assumption) hg (by omega) (by omega) (by omega) (by omega) (by rw [ec]; have h99 := of_decide_eq_false h9; omega))⟩, by omega⟩
    try simp only [nq] at hc17
    refine WL.pureG rfl rfl rfl rfl rfl (PV.fieldAddr T.fl56_2 rfl hb8.cells) ?_
    refine WL.pureG rfl rfl rfl rfl rfl (PV.load1 T.na2 rfl hb8.cells (Ext.refl _) rfl) ?_
    refine WL.pureG rfl rfl rfl rfl rfl (PV.geq rfl rfl) ?_
    refine WL.pure rfl rfl rfl (PV.pickT rfl rfl) ?_
    refine WL.nilS ?_
    refine CW.cond rfl (fun hc19 => ?_) (fun hc19 => ?_)
    · skip
      try simp only [nq] at hc19
      refine CW.skipS ?_
      refine CW.seq ?_
      refine CW.block ?_
      refine CW.draw T.mixed (by kernel_rfl) (fun _ _ _ _ _ h => h) (fun w8 w9 => Upd none w8 w9) 28 (.take 0 (.take 1 (.take 2 (.take 3 (.take 4 (.take 5 (.take 6 (.take 7 (.take 8 (.take 9 (.take 10 (.take 11 (.take 12 (.take 13 (.take 14 (.take 15 (.take 16 (.take 17 (.take 18 (.take 19 (.take 20 (.take 21 (.take 22 (.take 23 (.take 24 (.take 25 (.take 26 (.take 27 (.must 28 .done))))))))))))))))))))))))))))) (by kernel_rfl) (fun w26 hXd => ?_)
      have hB := hB.trans hXd
      have hb1 := hb1.up hXd
      have hb2 := hb2.up hXd
      have hb3 := hb3.up hXd
      have hb4 := hb4.up hXd
      have hb5 := hb5.up hXd
      have hb8 := hb8.up hXd
      have hUB := hUB.ext hXd
      have hU0 := hU0.ext hXd
      have hU1 := hU1.ext hXd
      have hBr := hB
      have hS : Upd none w26 w26 := Ext.toUpd (Ext.refl _)
      have hgl := gram_left hg K (by omega); have hgl1 : 0 ≤ (xa2.getD K (0, 0, 0, 0)).1 := hgl.1; have hgl2 : (xa2.getD K (0, 0, 0, 0)).1 < a0 := hgl.2; have hyn := hp.n; have ei : i * 104 + (i + L) * 8 + (xa2.getD K (0, 0, 0, 0)).1.toNat = (i * 13 + (i + L)) * 8 + (rl xa2 K).1.toNat := (by simp only [rl]; omega); have ec : cl 0 13 8 ys1 i (i + L) (rl xa2 K).1 = ys1.getD (i * 104 + (i + L) * 8 + (xa2.getD K (0, 0, 0, 0)).1.toNat) 0 := congrArg (fun q => ys1.getD q 0) ei.symm; have hcr := hp.range (by omega) hgl; rw [ec] at hcr; have hgn := gram_node hg (k := K) (by omega) (by assumption); have gn1 : 0 ≤ (xa2.getD K (0, 0, 0, 0)).2.1 ∧ (xa2.getD K (0, 0, 0, 0)).2.1 < a0 := hgn.1; have gn2 : 0 ≤ (xa2.getD K (0, 0, 0, 0)).2.2.1 ∧ (xa2.getD K (0, 0, 0, 0)).2.2.1 < a0 := hgn.2; have hsb := hp.sub hg (by omega) (by omega) (by assumption) (by omega) (by omega); have ea : cl 0 13 8 ys1 i M (rl xa2 K).2.1 = ys1.getD (i * 104 + M * 8 + (xa2.getD K (0, 0, 0, 0)).2.1.toNat) 0 := congrArg (fun q => ys1.getD q 0) (show (i * 13 + M) * 8 + (xa2.getD K (0, 0, 0, 0)).2.1.toNat = _ from (by omega)); have eb : cl 0 13 8 ys1 M (i + L) (rl xa2 K).2.2.1 = ys1.getD (M * 104 + (i + L) * 8 + (xa2.getD K (0, 0, 0, 0)).2.2.1.toNat) 0 := congrArg (fun q => ys1.getD q 0) (show (M * 13 + (i + L)) * 8 + (xa2.getD K (0, 0, 0, 0)).2.2.1.toNat = _ from (by omega)); rw [ea, eb] at hsb; have hmb := mul_bd hsb.1 hsb.2
      refine HP.take rfl rfl rfl rfl hS (fun wS hS1 => PV.move rfl) ?_
      refine HP.take rfl rfl rfl rfl hS (fun wS hS1 => PV.move rfl) ?_
      refine HP.take rfl rfl rfl rfl hS (fun wS hS1 => PV.nilCheck rfl) ?_
      refine HP.take rfl rfl rfl rfl hS (fun wS hS1 => PV.loadArr 0 T.na2 rfl (Bx.cells (Bx.updD hb1 hS1 (Dj.nlR _))) (Ext.refl _) (by first | omega | (simp only [List.length_set]; omega))) ?_
      refine HP.take rfl rfl rfl rfl hS (fun wS hS1 => PV.load0 T.na134 rfl (Bx.cells (Bx.updD (by assumption) hS1 (Dj.nlR _))) (Ext.refl _) rfl) ?_
      refine HP.take rfl rfl rfl rfl hS (fun wS hS1 => PV.move rfl) ?_
      refine HP.take rfl rfl rfl rfl hS (fun wS hS1 => PV.move rfl) ?_
      refine HP.take rfl rfl rfl rfl hS (fun wS hS1 => PV.fieldAddr T.fl56_1 rfl hb8.cells) ?_
      refine HP.take rfl rfl rfl rfl hS (fun wS hS1 => PV.load1 T.na2 rfl (Bx.cells (Bx.updD (by assumption) hS1 (Dj.nlR _))) (Ext.refl _) rfl) ?_
      refine HP.take rfl rfl rfl rfl hS (fun wS hS1 => PV.nilCheck rfl) ?_
      refine HP.take rfl rfl rfl rfl hS (fun wS hS1 => (by first | exact PV.ixN T.ar138 rfl hb1.spot rfl (by omega) | exact PV.ixZ T.ar138 rfl hb1.spot rfl (by omega))) ?_
      refine HP.take rfl rfl rfl rfl hS (fun wS hS1 => (by first | exact PV.ixPN T.ar136 rfl rfl (by omega) | exact PV.ixPZ T.ar136 rfl rfl (by omega))) ?_
      refine HP.take rfl rfl rfl rfl hS (fun wS hS1 => (by first | exact PV.ixPN1 T.ar135 rfl rfl (by omega) | exact PV.ixPZ1 T.ar135 rfl rfl (by omega))) ?_
      refine HP.take rfl rfl rfl rfl hS (fun wS hS1 => PV.loadArr 0 T.na2 rfl (Bx.cells (Bx.updD hb1 hS1 (Dj.nlR _))) (Ext.refl _) (by first | omega | (simp only [List.length_set]; omega))) ?_
      refine HP.take rfl rfl rfl rfl hS (fun wS hS1 => PV.load0 T.na134 rfl (Bx.cells (Bx.updD (by assumption) hS1 (Dj.nlR _))) (Ext.refl _) rfl) ?_
      refine HP.take rfl rfl rfl rfl hS (fun wS hS1 => PV.move rfl) ?_
      refine HP.take rfl rfl rfl rfl hS (fun wS hS1 => PV.move rfl) ?_
      refine HP.take rfl rfl rfl rfl hS (fun wS hS1 => PV.fieldAddr T.fl56_2 rfl hb8.cells) ?_
      refine HP.take rfl rfl rfl rfl hS (fun wS hS1 => PV.load1 T.na2 rfl (Bx.cells (Bx.updD (by assumption) hS1 (Dj.nlR _))) (Ext.refl _) rfl) ?_
      refine HP.take rfl rfl rfl rfl hS (fun wS hS1 => PV.nilCheck rfl) ?_
      refine HP.take rfl rfl rfl rfl hS (fun wS hS1 => (by first | exact PV.ixN T.ar138 rfl hb1.spot rfl (by omega) | exact PV.ixZ T.ar138 rfl hb1.spot rfl (by omega))) ?_
      refine HP.take rfl rfl rfl rfl hS (fun wS hS1 => (by first | exact PV.ixPN T.ar136 rfl rfl (by omega) | exact PV.ixPZ T.ar136 rfl rfl (by omega))) ?_
      refine HP.take rfl rfl rfl rfl hS (fun wS hS1 => (by first | exact PV.ixPN1 T.ar135 rfl rfl (by omega) | exact PV.ixPZ1 T.ar135 rfl rfl (by omega))) ?_
      refine HP.take rfl rfl rfl rfl hS (fun wS hS1 => PV.loadArr 0 T.na2 rfl (Bx.cells (Bx.updD hb1 hS1 (Dj.nlR _))) (Ext.refl _) (by first | omega | (simp only [List.length_set]; omega))) ?_
      refine HP.take rfl rfl rfl rfl hS (fun wS hS1 => PV.mul rfl rfl (by constructor <;> omega)) ?_
      refine HP.take rfl rfl rfl rfl hS (fun wS hS1 => PV.add rfl rfl (by constructor <;> omega)) ?_
      refine HP.take rfl rfl rfl rfl hS (fun wS hS1 => PV.min2 rfl rfl) ?_
      refine HP.take rfl rfl rfl rfl hS (fun wS hS1 => PV.nilCheck rfl) ?_
      refine HP.last rfl rfl (OpK.storeArr T.sz2 rfl rfl rfl hb1 (by first | omega | (simp only [List.length_set]; omega)) (fun w27 hXw27 hb1 => ?_))
      have hB := hB.updL hXw27 hl1
      have hb2 := hb2.updD hXw27 (Dj.symm hd1_2)
      have hb3 := hb3.updD hXw27 (Dj.symm hd1_3)
      have hb4 := hb4.updD hXw27 (Dj.symm hd1_4)
      have hb5 := hb5.updD hXw27 (Dj.symm hd1_5)
      have hb8 := hb8.updD hXw27 (Dj.symm hd1_8)
      have hUB := hUB.step hXw27 hkB_1
      have hU0 := hU0.step hXw27 hk0_1
      have hU1 := hU1.step hXw27 hk1_1
      refine HP.done ?_
      refine NQ.block ?_
      refine NQ.then ?_
      refine CW.reg ?_
      refine WL.mv rfl rfl ?_
      refine WL.pure rfl rfl rfl (PV.add rfl rfl (by constructor <;> omega)) ?_
      refine WL.asg rfl rfl ?_
      refine WL.nil ?_
      refine NQ.next (ρ := [(11, _)]) ⟨rfl, rfl, rfl, rfl, rfl, rfl, rfl, rfl, rfl, rfl, rfl, trivial⟩ ?_
      exact ⟨_, ⟨M + 1, _, rfl, rfl, hU1, bxM hb1 (by rfl), (by first | omega | assumption | (simp_all; done) | (simp_all; omega)), (by rw [← ec, ← ea, ← eb, ei]; exact hp.step hg (by omega) (by omega) (by omega) (by omega) (by omega) (by assumption) (by omega) (by omega) (by split <;> omega))⟩, by omega⟩
    try simp only [nq] at hc19
    refine CW.exit ?_
    refine XQ.then ?_
    refine XQ.then ?_
    refine XQ.here ?_
    refine NQ.then ?_
    refine CW.reg ?_
    have hgl := gram_left hg K (by omega); have hgl1 : 0 ≤ (xa2.getD K (0, 0, 0, 0)).1 := hgl.1; have hgl2 : (xa2.getD K (0, 0, 0, 0)).1 < a0 := hgl.2; have hyn := hp.n; have ei : i * 104 + (i + L) * 8 + (xa2.getD K (0, 0, 0, 0)).1.toNat = (i * 13 + (i + L)) * 8 + (rl xa2 K).1.toNat := (by simp only [rl]; omega); have ec : cl 0 13 8 ys1 i (i + L) (rl xa2 K).1 = ys1.getD (i * 104 + (i + L) * 8 + (xa2.getD K (0, 0, 0, 0)).1.toNat) 0 := congrArg (fun q => ys1.getD q 0) ei.symm; have hcr := hp.range (by omega) hgl; rw [ec] at hcr
    refine WL.pure rfl rfl rfl (PV.load0 T.na4 rfl hb2.cells (Ext.refl _) rfl) ?_
    refine WL.mv rfl rfl ?_
    refine WL.split (t := 92) rfl (fun hc20 => ?_) (fun hc20 => ?_)
    rotate_left
    · skip
      try simp only [nq] at hc20
      refine WL.skip rfl rfl rfl rfl rfl ?_
      refine WL.skip rfl rfl rfl rfl rfl ?_
      refine WL.skip rfl rfl rfl rfl rfl ?_
      refine WL.skip rfl rfl rfl rfl rfl ?_
      refine WL.pure rfl rfl rfl (PV.pickF rfl rfl) ?_
      refine WL.op rfl (OpK.storeB0 T.sz4 rfl rfl (by first | rfl | exact Osl.oneCell (by assumption) | exact Osn.oneCell (by assumption) | exact Rd.oneCell (by assumption) | exact Rd.oneCell (NL.rd (by assumption)) | assumption) hb2 (fun w28 hXw28 hb2 => ?_))
      have hB := hB.updL hXw28 hl2
      have hb1 := hb1.updD hXw28 hd1_2
      have hb3 := hb3.updD hXw28 (Dj.symm hd2_3)
      have hb4 := hb4.updD hXw28 (Dj.symm hd2_4)
      have hb5 := hb5.updD hXw28 (Dj.symm hd2_5)
      have hb8 := hb8.updD hXw28 (Dj.symm hd2_8)
      have hUB := hUB.step hXw28 hkB_2
      have hU0 := hU0.step hXw28 hk0_2
      refine WL.nil ?_
      refine NQ.block ?_
      refine NQ.then ?_
      refine CW.reg ?_
      refine WL.pure rfl rfl rfl (PV.add rfl rfl (by constructor <;> omega)) ?_
      refine WL.mv rfl rfl ?_
      refine WL.nil ?_
      refine NQ.next (ρ := [(15, _)]) ⟨rfl, rfl, rfl, rfl, rfl, rfl, rfl, rfl, trivial⟩ ?_
      exact ⟨_, ⟨K + 1, _, _, rfl, rfl, hU0, bxM hb1 (by rfl), bxE hb2 (by rfl), (by first | omega | assumption | (simp_all; done) | (simp_all; omega)), (by exact (TQM.imp hp (fun h9 => by first | assumption | cases h9)).close (by first | exact .inl (by omega) | exact .inr (by assumption)) (by omega) (fun h9 => by first | (cases h9; done) | (rw [ec]; exact of_decide_eq_true h9))), (by intro h9; first | exact hf1 (by assumption) | exact hp.bad (by assumption) hg (by omega) (by omega) (by omega) (by omega) (by rw [ec]; have h99 := of_decide_eq_false h9; omega))⟩, by omega⟩
    try simp only [nq] at hc20
    refine WL.pureG rfl rfl rfl rfl rfl (PV.move rfl) ?_
    refine WL.pureG rfl rfl rfl rfl rfl (PV.nilCheck rfl) ?_
    refine WL.pureG rfl rfl rfl rfl rfl (PV.loadArr 0 T.na2 rfl (Bx.cells hb1) (Ext.refl _) (by first | omega | (simp only [List.length_set]; omega))) ?_
    refine WL.pureG rfl rfl rfl rfl rfl (PV.leq rfl rfl) ?_
    refine WL.pure rfl rfl rfl (PV.pickT rfl rfl) ?_
    refine WL.op rfl (OpK.storeB0 T.sz4 rfl rfl (by first | rfl | exact Osl.oneCell (by assumption) | exact Osn.oneCell (by assumption) | exact Rd.oneCell (by assumption) | exact Rd.oneCell (NL.rd (by assumption)) | assumption) hb2 (fun w29 hXw29 hb2 => ?_))
    have hB := hB.updL hXw29 hl2
    have hb1 := hb1.updD hXw29 hd1_2
    have hb3 := hb3.updD hXw29 (Dj.symm hd2_3)
    have hb4 := hb4.updD hXw29 (Dj.symm hd2_4)
    have hb5 := hb5.updD hXw29 (Dj.symm hd2_5)
    have hb8 := hb8.updD hXw29 (Dj.symm hd2_8)
    have hUB := hUB.step hXw29 hkB_2
    have hU0 := hU0.step hXw29 hk0_2
    refine WL.nil ?_
    refine NQ.block ?_
    refine NQ.then ?_
    refine CW.reg ?_
    refine WL.pure rfl rfl rfl (PV.add rfl rfl (by constructor <;> omega)) ?_
    refine WL.mv rfl rfl ?_
    refine WL.nil ?_
    refine NQ.next (ρ := [(15, _)]) ⟨rfl, rfl, rfl, rfl, rfl, rfl, rfl, rfl, trivial⟩ ?_
    exact ⟨_, ⟨K + 1, _, _, rfl, rfl, hU0, bxM hb1 (by rfl), bxE hb2 (by rfl), (by first | omega | assumption | (simp_all; done) | (simp_all; omega)), (by exact (TQM.imp hp (fun h9 => by first | assumption | cases h9)).close (by first | exact .inl (by omega) | exact .inr (by assumption)) (by omega) (fun h9 => by first | (cases h9; done) | (rw [ec]; exact of_decide_eq_true h9))), (by intro h9; first | exact hf1 (by assumption) | exact hp.bad (by assumption) hg (by omega) (by omega) (by omega) (by omega) (by rw [ec]; have h99 := of_decide_eq_false h9; omega))⟩, by omega⟩
  try simp only [nq] at hc1
  refine CW.exit ?_
  refine XQ.then ?_
  refine XQ.then ?_
  refine XQ.here ?_
  refine NQ.r0 ?_
  refine ⟨hUB, _, _, rfl, ?_, ?_, hb1, hb2⟩
  · skip
    obtain rfl : K = xa2.length := (by omega); exact hp0.fin (by omega) (by omega)
  · skip
    assumption
theorem c_impl_eachPart_impl_Grammar_made_1 {w : World} {b : World} {pg pq pw pc : Addr} {a0 : Int} {a1 : Int} {va2 : Value} {xa2 : List R4} {vw : Value} {xs : List Int} {ys : List Bool} (hB0 : Ext b w) (htb_pc : Bx w pc (List.map VB (ys))) (htl_pc : Lo b (some pc.block)) (htb_pg : Bx w pg [.int .i64 a0, .int .i64 a1, va2]) (htb_pq : Bx w pq [.pointer (some pc)]) (htb_pw : Bx w pw [vw]) (htd_pg_pc : Dj (some pg.block) (some pc.block)) (htd_pq_pc : Dj (some pq.block) (some pc.block)) (htd_pw_pc : Dj (some pw.block) (some pc.block)) (ha2 : Rd ER b va2 xa2) (hw : Rd EI b vw xs) (hg : gramV a0 a1 xa2) (h12 : 1 ≤ xs.length ∧ xs.length ≤ 12) (hTb : TCB xa2 xs a0 13 8 1248 ys 1 0) : Calls Try.prog 113 #[.int .i64 (xs.length : Nat), .func (.func 198) #[] #[.pointer (some pg), .pointer (some pq), .pointer (some pw)]] w (Ret1 (fun v w' => UpdL [some pc.block] w w' ∧ ∃ (zs : List Bool), v = .tuple #[] ∧ (TCB xa2 xs a0 13 8 1248 zs (xs.length + 1) 0) ∧ Bx w' pc (List.map VB (zs)))) := by
  have hB := hB0
  have hla2 := ha2.leI; have hlw := hw.leI; have hg1 := hg.1; have hnn := hTb.n
  refine callsOf (vs := [_, _]) Try.func113 rfl Try.ntmps113 rfl rfl ?_
  have hUB : UpdL [(some pc.block)] w w := UpdL.refl _ _
  have hb1 := htb_pc
  have hl1 := htl_pc
  have hkB_1 : OkB [(some pc.block)] w (some pc.block) := OkB.mem (by simp)
  have hgB_1 := OgR.refl w (some pc.block)
  have hb2 := htb_pg
  have hd1_2 := Dj.symm htd_pg_pc
  have hb3 := htb_pq
  have hd1_3 := Dj.symm htd_pq_pc
  have hb4 := htb_pw
  have hd1_4 := Dj.symm htd_pw_pc
  refine CW.seq ?_
  refine CW.reg ?_
  refine WL.asg rfl rfl ?_
  refine WL.nilS ?_
  refine CW.block ?_
  refine CW.loop (σk := [(0, _), (1, _)]) (fun ρ wz m => ∃ (L : Nat) (ys1 : List Bool), ρ = [(4, .int .i64 (L : Nat))] ∧ m = xs.length + 1 - L ∧ UpdL [(some pc.block)] w wz ∧ Bx wz pc (List.map VB (ys1)) ∧ (1 ≤ L ∧ L ≤ xs.length + 1) ∧ (TCB xa2 xs a0 13 8 1248 ys1 L 0)) (ρ₀ := [(4, _)]) (m₀ := _) ⟨rfl, rfl, rfl, trivial⟩ ⟨1, ys, rfl, rfl, (UpdL.refl _ _), bxM hb1 (by rfl), (by first | omega | rfl | (simp; done) | assumption | (simp_all; done)), (by first | omega | rfl | (simp; done) | assumption | (simp_all; done))⟩ ?_
  rintro _ wl1 _ ⟨L, ys1, rfl, rfl, hU0, hb1, hL, ht⟩
  have hUB := hUB.trans hU0 ⟨hkB_1, trivial⟩
  have hb2 := hb2.loop hU0 ⟨(Dj.symm hd1_2), trivial⟩
  have hb3 := hb3.loop hU0 ⟨(Dj.symm hd1_3), trivial⟩
  have hb4 := hb4.loop hU0 ⟨(Dj.symm hd1_4), trivial⟩
  have hk0_1 : OkB [(some pc.block)] w (some pc.block) := OkB.mem (by simp)
  have hB := hB.loop hU0 ⟨hl1, trivial⟩
  refine CW.seq ?_
  refine CW.seq ?_
  refine CW.reg ?_
  refine WL.mv rfl rfl ?_
  refine WL.mv rfl rfl ?_
  refine WL.pure rfl rfl rfl (PV.leq rfl rfl) ?_
  refine WL.nilS ?_
  refine CW.cond rfl (fun hc1 => ?_) (fun hc1 => ?_)
  · skip
    try simp only [nq] at hc1
    refine CW.skipS ?_
    refine CW.seq ?_
    refine CW.block ?_
    refine CW.seq ?_
    refine CW.reg ?_
    refine WL.mv rfl rfl ?_
    refine WL.mv rfl rfl ?_
    refine WL.pure rfl rfl rfl (PV.sub rfl rfl (by constructor <;> omega)) ?_
    refine WL.pure rfl rfl rfl (PV.add rfl rfl (by constructor <;> omega)) ?_
    refine WL.mv rfl rfl ?_
    refine WL.nilS ?_
    refine CW.block ?_
    refine CW.loop (σk := [(0, _), (1, _), (4, _), (14, _)]) (fun ρ wz m => ∃ (I : Nat) (ys2 : List Bool), ρ = [(15, .int .i64 (I : Nat))] ∧ m = xs.length + 1 - I ∧ UpdL [(some pc.block)] wl1 wz ∧ Bx wz pc (List.map VB (ys2)) ∧ (I + L ≤ xs.length + 1) ∧ (TCB xa2 xs a0 13 8 1248 ys2 L I)) (ρ₀ := [(15, _)]) (m₀ := _) ⟨rfl, rfl, rfl, rfl, rfl, trivial⟩ ⟨0, ys1, rfl, rfl, (UpdL.refl _ _), bxM hb1 (by rfl), (by first | omega | rfl | (simp; done) | assumption | (simp_all; done)), (by first | omega | rfl | (simp; done) | assumption | (simp_all; done))⟩ ?_
    rintro _ wl2 _ ⟨I, ys2, rfl, rfl, hU1, hb1, hI, ht2⟩
    have hUB := hUB.trans hU1 ⟨hkB_1, trivial⟩
    have hU0 := hU0.trans hU1 ⟨hk0_1, trivial⟩
    have hb2 := hb2.loop hU1 ⟨(Dj.symm hd1_2), trivial⟩
    have hb3 := hb3.loop hU1 ⟨(Dj.symm hd1_3), trivial⟩
    have hb4 := hb4.loop hU1 ⟨(Dj.symm hd1_4), trivial⟩
    have hk1_1 : OkB [(some pc.block)] wl1 (some pc.block) := OkB.mem (by simp)
    have hB := hB.loop hU1 ⟨hl1, trivial⟩
    refine CW.seq ?_
    refine CW.reg ?_
    refine WL.pure rfl rfl rfl (PV.lss rfl rfl) ?_
    refine WL.nilS ?_
    refine CW.seq ?_
    refine CW.cond rfl (fun hc2 => ?_) (fun hc2 => ?_)
    · skip
      try simp only [nq] at hc2
      refine CW.skipS ?_
      refine CW.seq ?_
      refine CW.block ?_
      refine CW.seq ?_
      refine CW.reg ?_
      refine WL.mv rfl rfl ?_
      refine WL.asg rfl rfl ?_
      refine WL.nilS ?_
      refine CW.reg ?_
      refine WL.mv rfl rfl ?_
      refine WL.mv rfl rfl ?_
      refine WL.mv rfl rfl ?_
      refine WL.mv rfl rfl ?_
      refine WL.pure rfl rfl rfl (PV.add rfl rfl (by constructor <;> omega)) ?_
      refine WL.op rfl (OpK.callC rfl T.cf198 rfl rfl (c_impl_Grammar_made_1 (i := I) (L := L) (ys := ys2) hB (by first | assumption | exact Lo.nl _) (by first | assumption | exact Lo.nl _) (by first | assumption | exact Lo.nl _) (by first | assumption | exact Lo.nl _) (by first | assumption | exact Lo.nl _) (by first | assumption | exact Dj.symm (by assumption)) (by first | assumption | exact Dj.symm (by assumption)) (by first | assumption | exact Dj.symm (by assumption)) (by first | assumption | exact Rd.up (by assumption) hB | exact Osl.rd (by assumption) | exact Osn.rdR (by assumption)) (by first | assumption | exact Rd.up (by assumption) hB | exact Osl.rd (by assumption) | exact Osn.rdR (by assumption)) (by first | assumption | omega | (simp only [marks_len]; omega)) (by first | assumption | omega | (simp only [marks_len]; omega)) (by first | assumption | omega | (simp only [marks_len]; omega)) (by first | assumption | omega | (simp only [marks_len]; omega))) (fun rv1 w1 hR => ?_))
      obtain ⟨hUC7, zs8, rfl, hm9, hbn1⟩ := hR
      have hUB := hUB.trans hUC7 ⟨hkB_1, trivial⟩
      have hU0 := hU0.trans hUC7 ⟨hk0_1, trivial⟩
      have hU1 := hU1.trans hUC7 ⟨hk1_1, trivial⟩
      have hb2 := hb2.loop hUC7 ⟨(Dj.symm hd1_2), trivial⟩
      have hb3 := hb3.loop hUC7 ⟨(Dj.symm hd1_3), trivial⟩
      have hb4 := hb4.loop hUC7 ⟨(Dj.symm hd1_4), trivial⟩
      have hB := hB.loop hUC7 ⟨hl1, trivial⟩
      have hb1 := hbn1
      refine WL.nil ?_
      refine NQ.block ?_
      refine NQ.then ?_
      refine CW.reg ?_
      refine WL.pure rfl rfl rfl (PV.add rfl rfl (by constructor <;> omega)) ?_
      refine WL.mv rfl rfl ?_
      refine WL.nil ?_
      refine NQ.next (ρ := [(15, _)]) ⟨rfl, rfl, rfl, rfl, rfl, trivial⟩ ?_
      exact ⟨_, ⟨I + 1, _, rfl, rfl, hU1, bxM hb1 (by rfl), (by first | omega | assumption | (simp_all; done) | (simp_all; omega)), (by assumption)⟩, by omega⟩
    try simp only [nq] at hc2
    refine CW.exit ?_
    refine XQ.then ?_
    refine XQ.then ?_
    refine XQ.here ?_
    refine NQ.block ?_
    refine NQ.then ?_
    refine CW.reg ?_
    refine WL.mv rfl rfl ?_
    refine WL.pure rfl rfl rfl (PV.add rfl rfl (by constructor <;> omega)) ?_
    refine WL.asg rfl rfl ?_
    refine WL.nil ?_
    refine NQ.next (ρ := [(4, _)]) ⟨rfl, rfl, rfl, trivial⟩ ?_
    exact ⟨_, ⟨L + 1, _, rfl, rfl, hU0, bxM hb1 (by rfl), (by first | omega | assumption | (simp_all; done) | (simp_all; omega)), (by exact ht2.next (by omega))⟩, by omega⟩
  try simp only [nq] at hc1
  refine CW.exit ?_
  refine XQ.then ?_
  refine XQ.then ?_
  refine XQ.here ?_
  refine NQ.r0 ?_
  refine ⟨hUB, _, rfl, ?_, hb1⟩
  · skip
    (obtain rfl : L = xs.length + 1 := (by omega)); exact ht
theorem c_impl_eachPart_impl_Grammar_choices_1 {w : World} {b : World} {pg pq pw pc : Addr} {a0 : Int} {a1 : Int} {va2 : Value} {xa2 : List R4} {vw : Value} {xs : List Int} {ys : List Int} (hB0 : Ext b w) (htb_pc : Bx w pc (List.map VI (ys))) (htl_pc : Lo b (some pc.block)) (htb_pg : Bx w pg [.int .i64 a0, .int .i64 a1, va2]) (htb_pq : Bx w pq [.pointer (some pc)]) (htb_pw : Bx w pw [vw]) (htd_pg_pc : Dj (some pg.block) (some pc.block)) (htd_pq_pc : Dj (some pq.block) (some pc.block)) (htd_pw_pc : Dj (some pw.block) (some pc.block)) (ha2 : Rd ER b va2 xa2) (hw : Rd EI b vw xs) (hg : gramV a0 a1 xa2) (h12 : 1 ≤ xs.length ∧ xs.length ≤ 12) (hTb : TCT 1099511627776 xa2 xs a0 ys 1 0) : Calls Try.prog 113 #[.int .i64 (xs.length : Nat), .func (.func 196) #[] #[.pointer (some pq), .pointer (some pg), .pointer (some pw)]] w (Ret1 (fun v w' => UpdL [some pc.block] w w' ∧ ∃ (zs : List Int), v = .tuple #[] ∧ (TCT 1099511627776 xa2 xs a0 zs (xs.length + 1) 0) ∧ Bx w' pc (List.map VI (zs)))) := by
  have hB := hB0
  have hla2 := ha2.leI; have hlw := hw.leI; have hg1 := hg.1; have hnn := hTb.1
  refine callsOf (vs := [_, _]) Try.func113 rfl Try.ntmps113 rfl rfl ?_
  have hUB : UpdL [(some pc.block)] w w := UpdL.refl _ _
  have hb1 := htb_pc
  have hl1 := htl_pc
  have hkB_1 : OkB [(some pc.block)] w (some pc.block) := OkB.mem (by simp)
  have hgB_1 := OgR.refl w (some pc.block)
  have hb2 := htb_pg
  have hd1_2 := Dj.symm htd_pg_pc
  have hb3 := htb_pq
  have hd1_3 := Dj.symm htd_pq_pc
  have hb4 := htb_pw
  have hd1_4 := Dj.symm htd_pw_pc
  refine CW.seq ?_
  refine CW.reg ?_
  refine WL.asg rfl rfl ?_
  refine WL.nilS ?_
  refine CW.block ?_
  refine CW.loop (σk := [(0, _), (1, _)]) (fun ρ wz m => ∃ (L : Nat) (ys1 : List Int), ρ = [(4, .int .i64 (L : Nat))] ∧ m = xs.length + 1 - L ∧ UpdL [(some pc.block)] w wz ∧ Bx wz pc (List.map VI (ys1)) ∧ (1 ≤ L ∧ L ≤ xs.length + 1) ∧ (TCT 1099511627776 xa2 xs a0 ys1 L 0)) (ρ₀ := [(4, _)]) (m₀ := _) ⟨rfl, rfl, rfl, trivial⟩ ⟨1, ys, rfl, rfl, (UpdL.refl _ _), bxM hb1 (by rfl), (by first | omega | rfl | (simp; done) | assumption | (simp_all; done)), (by first | omega | rfl | (simp; done) | assumption | (simp_all; done))⟩ ?_
  rintro _ wl1 _ ⟨L, ys1, rfl, rfl, hU0, hb1, hL, ht⟩
  have hUB := hUB.trans hU0 ⟨hkB_1, trivial⟩
  have hb2 := hb2.loop hU0 ⟨(Dj.symm hd1_2), trivial⟩
  have hb3 := hb3.loop hU0 ⟨(Dj.symm hd1_3), trivial⟩
  have hb4 := hb4.loop hU0 ⟨(Dj.symm hd1_4), trivial⟩
  have hk0_1 : OkB [(some pc.block)] w (some pc.block) := OkB.mem (by simp)
  have hB := hB.loop hU0 ⟨hl1, trivial⟩
  refine CW.seq ?_
  refine CW.seq ?_
  refine CW.reg ?_
  refine WL.mv rfl rfl ?_
  refine WL.mv rfl rfl ?_
  refine WL.pure rfl rfl rfl (PV.leq rfl rfl) ?_
  refine WL.nilS ?_
  refine CW.cond rfl (fun hc1 => ?_) (fun hc1 => ?_)
  · skip
    try simp only [nq] at hc1
    refine CW.skipS ?_
    refine CW.seq ?_
    refine CW.block ?_
    refine CW.seq ?_
    refine CW.reg ?_
    refine WL.mv rfl rfl ?_
    refine WL.mv rfl rfl ?_
    refine WL.pure rfl rfl rfl (PV.sub rfl rfl (by constructor <;> omega)) ?_
    refine WL.pure rfl rfl rfl (PV.add rfl rfl (by constructor <;> omega)) ?_
    refine WL.mv rfl rfl ?_
    refine WL.nilS ?_
    refine CW.block ?_
    refine CW.loop (σk := [(0, _), (1, _), (4, _), (14, _)]) (fun ρ wz m => ∃ (I : Nat) (ys2 : List Int), ρ = [(15, .int .i64 (I : Nat))] ∧ m = xs.length + 1 - I ∧ UpdL [(some pc.block)] wl1 wz ∧ Bx wz pc (List.map VI (ys2)) ∧ (I + L ≤ xs.length + 1) ∧ (TCT 1099511627776 xa2 xs a0 ys2 L I)) (ρ₀ := [(15, _)]) (m₀ := _) ⟨rfl, rfl, rfl, rfl, rfl, trivial⟩ ⟨0, ys1, rfl, rfl, (UpdL.refl _ _), bxM hb1 (by rfl), (by first | omega | rfl | (simp; done) | assumption | (simp_all; done)), (by first | omega | rfl | (simp; done) | assumption | (simp_all; done))⟩ ?_
    rintro _ wl2 _ ⟨I, ys2, rfl, rfl, hU1, hb1, hI, ht2⟩
    have hUB := hUB.trans hU1 ⟨hkB_1, trivial⟩
    have hU0 := hU0.trans hU1 ⟨hk0_1, trivial⟩
    have hb2 := hb2.loop hU1 ⟨(Dj.symm hd1_2), trivial⟩
    have hb3 := hb3.loop hU1 ⟨(Dj.symm hd1_3), trivial⟩
    have hb4 := hb4.loop hU1 ⟨(Dj.symm hd1_4), trivial⟩
    have hk1_1 : OkB [(some pc.block)] wl1 (some pc.block) := OkB.mem (by simp)
    have hB := hB.loop hU1 ⟨hl1, trivial⟩
    refine CW.seq ?_
    refine CW.reg ?_
    refine WL.pure rfl rfl rfl (PV.lss rfl rfl) ?_
    refine WL.nilS ?_
    refine CW.seq ?_
    refine CW.cond rfl (fun hc2 => ?_) (fun hc2 => ?_)
    · skip
      try simp only [nq] at hc2
      refine CW.skipS ?_
      refine CW.seq ?_
      refine CW.block ?_
      refine CW.seq ?_
      refine CW.reg ?_
      refine WL.mv rfl rfl ?_
      refine WL.asg rfl rfl ?_
      refine WL.nilS ?_
      refine CW.reg ?_
      refine WL.mv rfl rfl ?_
      refine WL.mv rfl rfl ?_
      refine WL.mv rfl rfl ?_
      refine WL.mv rfl rfl ?_
      refine WL.pure rfl rfl rfl (PV.add rfl rfl (by constructor <;> omega)) ?_
      refine WL.op rfl (OpK.callC rfl T.cf196 rfl rfl (c_impl_Grammar_choices_1 (i := I) (L := L) (ys := ys2) hB (by first | assumption | exact Lo.nl _) (by first | assumption | exact Lo.nl _) (by first | assumption | exact Lo.nl _) (by first | assumption | exact Lo.nl _) (by first | assumption | exact Lo.nl _) (by first | assumption | exact Dj.symm (by assumption)) (by first | assumption | exact Dj.symm (by assumption)) (by first | assumption | exact Dj.symm (by assumption)) (by first | assumption | exact Rd.up (by assumption) hB | exact Osl.rd (by assumption) | exact Osn.rdR (by assumption)) (by first | assumption | exact Rd.up (by assumption) hB | exact Osl.rd (by assumption) | exact Osn.rdR (by assumption)) (by first | assumption | omega | (simp only [marks_len]; omega)) (by first | assumption | omega | (simp only [marks_len]; omega)) (by first | assumption | omega | (simp only [marks_len]; omega)) (by first | assumption | omega | (simp only [marks_len]; omega))) (fun rv1 w1 hR => ?_))
      obtain ⟨hUC7, zs8, rfl, hm9, hbn1⟩ := hR
      have hUB := hUB.trans hUC7 ⟨hkB_1, trivial⟩
      have hU0 := hU0.trans hUC7 ⟨hk0_1, trivial⟩
      have hU1 := hU1.trans hUC7 ⟨hk1_1, trivial⟩
      have hb2 := hb2.loop hUC7 ⟨(Dj.symm hd1_2), trivial⟩
      have hb3 := hb3.loop hUC7 ⟨(Dj.symm hd1_3), trivial⟩
      have hb4 := hb4.loop hUC7 ⟨(Dj.symm hd1_4), trivial⟩
      have hB := hB.loop hUC7 ⟨hl1, trivial⟩
      have hb1 := hbn1
      refine WL.nil ?_
      refine NQ.block ?_
      refine NQ.then ?_
      refine CW.reg ?_
      refine WL.pure rfl rfl rfl (PV.add rfl rfl (by constructor <;> omega)) ?_
      refine WL.mv rfl rfl ?_
      refine WL.nil ?_
      refine NQ.next (ρ := [(15, _)]) ⟨rfl, rfl, rfl, rfl, rfl, trivial⟩ ?_
      exact ⟨_, ⟨I + 1, _, rfl, rfl, hU1, bxM hb1 (by rfl), (by first | omega | assumption | (simp_all; done) | (simp_all; omega)), (by assumption)⟩, by omega⟩
    try simp only [nq] at hc2
    refine CW.exit ?_
    refine XQ.then ?_
    refine XQ.then ?_
    refine XQ.here ?_
    refine NQ.block ?_
    refine NQ.then ?_
    refine CW.reg ?_
    refine WL.mv rfl rfl ?_
    refine WL.pure rfl rfl rfl (PV.add rfl rfl (by constructor <;> omega)) ?_
    refine WL.asg rfl rfl ?_
    refine WL.nil ?_
    refine NQ.next (ρ := [(4, _)]) ⟨rfl, rfl, rfl, trivial⟩ ?_
    exact ⟨_, ⟨L + 1, _, rfl, rfl, hU0, bxM hb1 (by rfl), (by first | omega | assumption | (simp_all; done) | (simp_all; omega)), (by exact ht2.next (by omega))⟩, by omega⟩
  try simp only [nq] at hc1
  refine CW.exit ?_
  refine XQ.then ?_
  refine XQ.then ?_
  refine XQ.here ?_
  refine NQ.r0 ?_
  refine ⟨hUB, _, rfl, ?_, hb1⟩
  · skip
    (obtain rfl : L = xs.length + 1 := (by omega)); exact ht
theorem c_impl_eachPart_impl_CountTrees_1 {w : World} {b : World} {pg pq pw pc pf : Addr} {a0 : Int} {a1 : Int} {va2 : Value} {xa2 : List R4} {vw : Value} {xs ys : List Int} {f : Bool} (hB0 : Ext b w) (htb_pc : Bx w pc (List.map VI (ys))) (htb_pf : Bx w pf [.bool f]) (htl_pc : Lo b (some pc.block)) (htl_pf : Lo b (some pf.block)) (htb_pg : Bx w pg [.int .i64 a0, .int .i64 a1, va2]) (htb_pq : Bx w pq [.pointer (some pc)]) (htb_pw : Bx w pw [vw]) (htd_pg_pc : Dj (some pg.block) (some pc.block)) (htd_pg_pf : Dj (some pg.block) (some pf.block)) (htd_pq_pc : Dj (some pq.block) (some pc.block)) (htd_pq_pf : Dj (some pq.block) (some pf.block)) (htd_pw_pc : Dj (some pw.block) (some pc.block)) (htd_pw_pf : Dj (some pw.block) (some pf.block)) (htm_pc_pf : Dj (some pc.block) (some pf.block)) (ha2 : Rd ER b va2 xa2) (hw : Rd EI b vw xs) (hg : gramV a0 a1 xa2) (h12 : 1 ≤ xs.length ∧ xs.length ≤ 12) (hTb : TDC (f = true) xa2 xs a0 13 8 1248 ys 1 0) (hfn : f = false → ¬ okT xa2 xs a0) : Calls Try.prog 113 #[.int .i64 (xs.length : Nat), .func (.func 114) #[] #[.pointer (some pg), .pointer (some pq), .pointer (some pw), .pointer (some pf)]] w (Ret1 (fun v w' => UpdL [some pc.block, some pf.block] w w' ∧ ∃ (zs : List Int) (f2 : Bool), v = .tuple #[] ∧ (TDC (f2 = true) xa2 xs a0 13 8 1248 zs (xs.length + 1) 0) ∧ (f2 = false → ¬ okT xa2 xs a0) ∧ Bx w' pc (List.map VI (zs)) ∧ Bx w' pf [.bool f2])) := by
  have hB := hB0
  have hla2 := ha2.leI; have hlw := hw.leI; have hg1 := hg.1; have hnn := hTb.n
  refine callsOf (vs := [_, _]) Try.func113 rfl Try.ntmps113 rfl rfl ?_
  have hUB : UpdL [(some pc.block), (some pf.block)] w w := UpdL.refl _ _
  have hb1 := htb_pc
  have hl1 := htl_pc
  have hkB_1 : OkB [(some pc.block), (some pf.block)] w (some pc.block) := OkB.mem (by simp)
  have hgB_1 := OgR.refl w (some pc.block)
  have hb2 := htb_pf
  have hl2 := htl_pf
  have hkB_2 : OkB [(some pc.block), (some pf.block)] w (some pf.block) := OkB.mem (by simp)
  have hgB_2 := OgR.refl w (some pf.block)
  have hd1_2 := htm_pc_pf
  have hb3 := htb_pg
  have hd1_3 := Dj.symm htd_pg_pc
  have hd2_3 := Dj.symm htd_pg_pf
  have hb4 := htb_pq
  have hd1_4 := Dj.symm htd_pq_pc
  have hd2_4 := Dj.symm htd_pq_pf
  have hb5 := htb_pw
  have hd1_5 := Dj.symm htd_pw_pc
  have hd2_5 := Dj.symm htd_pw_pf
  refine CW.seq ?_
  refine CW.reg ?_
  refine WL.asg rfl rfl ?_
  refine WL.nilS ?_
  refine CW.block ?_
  refine CW.loop (σk := [(0, _), (1, _)]) (fun ρ wz m => ∃ (L : Nat) (ys1 : List Int) (f1 : Bool), ρ = [(4, .int .i64 (L : Nat))] ∧ m = xs.length + 1 - L ∧ UpdL [(some pc.block), (some pf.block)] w wz ∧ Bx wz pc (List.map VI (ys1)) ∧ Bx wz pf [.bool f1] ∧ (1 ≤ L ∧ L ≤ xs.length + 1) ∧ (TDC (f1 = true) xa2 xs a0 13 8 1248 ys1 L 0) ∧ (f1 = false → ¬ okT xa2 xs a0)) (ρ₀ := [(4, _)]) (m₀ := _) ⟨rfl, rfl, rfl, trivial⟩ ⟨1, ys, f, rfl, rfl, (UpdL.refl _ _), bxM hb1 (by rfl), bxE hb2 (by rfl), (by first | omega | rfl | (simp; done) | assumption | (simp_all; done)), (by first | omega | rfl | (simp; done) | assumption | (simp_all; done)), (by first | omega | rfl | (simp; done) | assumption | (simp_all; done))⟩ ?_
  rintro _ wl1 _ ⟨L, ys1, f1, rfl, rfl, hU0, hb1, hb2, hL, ht, hf1⟩
  have hUB := hUB.trans hU0 ⟨hkB_1, hkB_2, trivial⟩
  have hb3 := hb3.loop hU0 ⟨(Dj.symm hd1_3), (Dj.symm hd2_3), trivial⟩
  have hb4 := hb4.loop hU0 ⟨(Dj.symm hd1_4), (Dj.symm hd2_4), trivial⟩
  have hb5 := hb5.loop hU0 ⟨(Dj.symm hd1_5), (Dj.symm hd2_5), trivial⟩
  have hk0_1 : OkB [(some pc.block), (some pf.block)] w (some pc.block) := OkB.mem (by simp)
  have hk0_2 : OkB [(some pc.block), (some pf.block)] w (some pf.block) := OkB.mem (by simp)
  have hB := hB.loop hU0 ⟨hl1, hl2, trivial⟩
  refine CW.seq ?_
  refine CW.seq ?_
  refine CW.reg ?_
  refine WL.mv rfl rfl ?_
  refine WL.mv rfl rfl ?_
  refine WL.pure rfl rfl rfl (PV.leq rfl rfl) ?_
  refine WL.nilS ?_
  refine CW.cond rfl (fun hc1 => ?_) (fun hc1 => ?_)
  · skip
    try simp only [nq] at hc1
    refine CW.skipS ?_
    refine CW.seq ?_
    refine CW.block ?_
    refine CW.seq ?_
    refine CW.reg ?_
    refine WL.mv rfl rfl ?_
    refine WL.mv rfl rfl ?_
    refine WL.pure rfl rfl rfl (PV.sub rfl rfl (by constructor <;> omega)) ?_
    refine WL.pure rfl rfl rfl (PV.add rfl rfl (by constructor <;> omega)) ?_
    refine WL.mv rfl rfl ?_
    refine WL.nilS ?_
    refine CW.block ?_
    refine CW.loop (σk := [(0, _), (1, _), (4, _), (14, _)]) (fun ρ wz m => ∃ (I : Nat) (ys2 : List Int) (f3 : Bool), ρ = [(15, .int .i64 (I : Nat))] ∧ m = xs.length + 1 - I ∧ UpdL [(some pc.block), (some pf.block)] wl1 wz ∧ Bx wz pc (List.map VI (ys2)) ∧ Bx wz pf [.bool f3] ∧ (I + L ≤ xs.length + 1) ∧ (TDC (f3 = true) xa2 xs a0 13 8 1248 ys2 L I) ∧ (f3 = false → ¬ okT xa2 xs a0)) (ρ₀ := [(15, _)]) (m₀ := _) ⟨rfl, rfl, rfl, rfl, rfl, trivial⟩ ⟨0, ys1, f1, rfl, rfl, (UpdL.refl _ _), bxM hb1 (by rfl), bxE hb2 (by rfl), (by first | omega | rfl | (simp; done) | assumption | (simp_all; done)), (by first | omega | rfl | (simp; done) | assumption | (simp_all; done)), (by first | omega | rfl | (simp; done) | assumption | (simp_all; done))⟩ ?_
    rintro _ wl2 _ ⟨I, ys2, f3, rfl, rfl, hU1, hb1, hb2, hI, ht2, hf3⟩
    have hUB := hUB.trans hU1 ⟨hkB_1, hkB_2, trivial⟩
    have hU0 := hU0.trans hU1 ⟨hk0_1, hk0_2, trivial⟩
    have hb3 := hb3.loop hU1 ⟨(Dj.symm hd1_3), (Dj.symm hd2_3), trivial⟩
    have hb4 := hb4.loop hU1 ⟨(Dj.symm hd1_4), (Dj.symm hd2_4), trivial⟩
    have hb5 := hb5.loop hU1 ⟨(Dj.symm hd1_5), (Dj.symm hd2_5), trivial⟩
    have hk1_1 : OkB [(some pc.block), (some pf.block)] wl1 (some pc.block) := OkB.mem (by simp)
    have hk1_2 : OkB [(some pc.block), (some pf.block)] wl1 (some pf.block) := OkB.mem (by simp)
    have hB := hB.loop hU1 ⟨hl1, hl2, trivial⟩
    refine CW.seq ?_
    refine CW.reg ?_
    refine WL.pure rfl rfl rfl (PV.lss rfl rfl) ?_
    refine WL.nilS ?_
    refine CW.seq ?_
    refine CW.cond rfl (fun hc2 => ?_) (fun hc2 => ?_)
    · skip
      try simp only [nq] at hc2
      refine CW.skipS ?_
      refine CW.seq ?_
      refine CW.block ?_
      refine CW.seq ?_
      refine CW.reg ?_
      refine WL.mv rfl rfl ?_
      refine WL.asg rfl rfl ?_
      refine WL.nilS ?_
      refine CW.reg ?_
      refine WL.mv rfl rfl ?_
      refine WL.mv rfl rfl ?_
      refine WL.mv rfl rfl ?_
      refine WL.mv rfl rfl ?_
      refine WL.pure rfl rfl rfl (PV.add rfl rfl (by constructor <;> omega)) ?_
      refine WL.op rfl (OpK.callC rfl T.cf114 rfl rfl (c_impl_CountTrees_1 (i := I) (L := L) (ys := ys2) (f := f3) hB (by first | assumption | exact Lo.nl _) (by first | assumption | exact Lo.nl _) (by first | assumption | exact Lo.nl _) (by first | assumption | exact Lo.nl _) (by first | assumption | exact Lo.nl _) (by first | assumption | exact Lo.nl _) (by first | assumption | exact Lo.nl _) (by first | assumption | exact Dj.symm (by assumption)) (by first | assumption | exact Dj.symm (by assumption)) (by first | assumption | exact Dj.symm (by assumption)) (by first | assumption | exact Dj.symm (by assumption)) (by first | assumption | exact Dj.symm (by assumption)) (by first | assumption | exact Dj.symm (by assumption)) (by first | assumption | exact Dj.symm (by assumption)) (by first | assumption | exact Rd.up (by assumption) hB | exact Osl.rd (by assumption) | exact Osn.rdR (by assumption)) (by first | assumption | exact Rd.up (by assumption) hB | exact Osl.rd (by assumption) | exact Osn.rdR (by assumption)) (by first | assumption | omega | (simp only [marks_len]; omega)) (by first | assumption | omega | (simp only [marks_len]; omega)) (by first | assumption | omega | (simp only [marks_len]; omega)) (by first | assumption | exact fun h9 => by cases h9) (by first | assumption | omega | (simp only [marks_len]; omega))) (fun rv1 w1 hR => ?_))
      obtain ⟨hUC10, zs11, f212, rfl, hm13, hm14, hbn1, hbn2⟩ := hR
      have hUB := hUB.trans hUC10 ⟨hkB_1, hkB_2, trivial⟩
      have hU0 := hU0.trans hUC10 ⟨hk0_1, hk0_2, trivial⟩
      have hU1 := hU1.trans hUC10 ⟨hk1_1, hk1_2, trivial⟩
      have hb3 := hb3.loop hUC10 ⟨(Dj.symm hd1_3), (Dj.symm hd2_3), trivial⟩
      have hb4 := hb4.loop hUC10 ⟨(Dj.symm hd1_4), (Dj.symm hd2_4), trivial⟩
      have hb5 := hb5.loop hUC10 ⟨(Dj.symm hd1_5), (Dj.symm hd2_5), trivial⟩
      have hB := hB.loop hUC10 ⟨hl1, hl2, trivial⟩
      have hb1 := hbn1
      have hb2 := hbn2
      refine WL.nil ?_
      refine NQ.block ?_
      refine NQ.then ?_
      refine CW.reg ?_
      refine WL.pure rfl rfl rfl (PV.add rfl rfl (by constructor <;> omega)) ?_
      refine WL.mv rfl rfl ?_
      refine WL.nil ?_
      refine NQ.next (ρ := [(15, _)]) ⟨rfl, rfl, rfl, rfl, rfl, trivial⟩ ?_
      exact ⟨_, ⟨I + 1, _, _, rfl, rfl, hU1, bxM hb1 (by rfl), bxE hb2 (by rfl), (by first | omega | assumption | (simp_all; done) | (simp_all; omega)), (by assumption), (by assumption)⟩, by omega⟩
    try simp only [nq] at hc2
    refine CW.exit ?_
    refine XQ.then ?_
    refine XQ.then ?_
    refine XQ.here ?_
    refine NQ.block ?_
    refine NQ.then ?_
    refine CW.reg ?_
    refine WL.mv rfl rfl ?_
    refine WL.pure rfl rfl rfl (PV.add rfl rfl (by constructor <;> omega)) ?_
    refine WL.asg rfl rfl ?_
    refine WL.nil ?_
    refine NQ.next (ρ := [(4, _)]) ⟨rfl, rfl, rfl, trivial⟩ ?_
    exact ⟨_, ⟨L + 1, _, _, rfl, rfl, hU0, bxM hb1 (by rfl), bxE hb2 (by rfl), (by first | omega | assumption | (simp_all; done) | (simp_all; omega)), (by exact ht2.next (by omega)), (by assumption)⟩, by omega⟩
  try simp only [nq] at hc1
  refine CW.exit ?_
  refine XQ.then ?_
  refine XQ.then ?_
  refine XQ.here ?_
  refine NQ.r0 ?_
  refine ⟨hUB, _, _, rfl, ?_, ?_, hb1, hb2⟩
  · skip
    (obtain rfl : L = xs.length + 1 := (by omega)); exact ht
  · skip
    assumption
theorem c_impl_Grammar_choices {w : World} {a0 : Int} {a1 : Int} {va2 : Value} {xa2 : List R4} {vw : Value} {xs : List Int} (ha2 : Rd ER w va2 xa2) (hw : Rd EI w vw xs) (hg : gramV a0 a1 xa2) (h12 : 1 ≤ xs.length ∧ xs.length ≤ 12) : Calls Try.prog 111 #[.agg #[.int .i64 a0, .int .i64 a1, va2], vw] w (Ret1 (fun v w' => Ext w w' ∧ ∃ (ys : List Int) (p : Addr), v = .pointer (some p) ∧ (TCT 1099511627776 xa2 xs a0 ys (xs.length + 1) 0) ∧ Bx w' p (List.map VI (ys)) ∧ w.heap.size ≤ p.block)) := by
  have hB : Ext w w := Ext.refl w
  have hla2 := ha2.leI; have hlw := hw.leI; have hg1 := hg.1
  refine callsOf (vs := [_, _]) Try.func111 rfl Try.ntmps111 rfl rfl ?_
  refine CW.seq ?_
  refine CW.reg ?_
  refine WL.op rfl (OpK.box rfl rfl (by first | exact Rd.cells1 (by assumption) | exact Osl.cells1 (by assumption) | exact Osn.cells1 (by assumption) | exact Rd.cells1 (NL.rd (by assumption)) | exact Inn.cell1 (by assumption) (by omega) | assumption | rfl) (fun b1 w1 hXw1 hb1 hge1 => ?_))
  have hl1 := Lo.new hB hge1
  have hB := hB.trans hXw1
  refine WL.op rfl (OpK.box rfl rfl (by first | exact Rd.cells1 (by assumption) | exact Osl.cells1 (by assumption) | exact Osn.cells1 (by assumption) | exact Rd.cells1 (NL.rd (by assumption)) | exact Inn.cell1 (by assumption) (by omega) | assumption | rfl) (fun b2 w2 hXw2 hb2 hge2 => ?_))
  have hl2 := Lo.new hB hge2
  have hd1_2 := Dj.new hb1.ltO hge2
  have hB := hB.trans hXw2
  have hb1 := hb1.up hXw2
  have hT0 := TCT.zero (F := 1099511627776) (rs := xa2) (wd := xs) (nm := a0) (by omega) (by omega)
  refine WL.asg rfl rfl ?_
  refine WL.nilS ?_
  refine CW.seq ?_
  refine CW.reg ?_
  refine WL.pure rfl rfl rfl (PV.buildArr (f := VI) (x0 := 0) T.az220) ?_
  refine WL.op rfl (OpK.boxArr (f := VI) rfl rfl (fun b3 w3 hXw3 hb3 hge3 => ?_))
  have hl3 := Lo.new hB hge3
  have hd1_3 := Dj.new hb1.ltO hge3
  have hd2_3 := Dj.new hb2.ltO hge3
  have hB := hB.trans hXw3
  have hb1 := hb1.up hXw3
  have hb2 := hb2.up hXw3
  refine WL.op rfl (OpK.alloc rfl T.zv131 rfl (fun b4 w4 hXw4 hb4 hge4 => ?_))
  have hl4 := Lo.new hB hge4
  have hd1_4 := Dj.new hb1.ltO hge4
  have hd2_4 := Dj.new hb2.ltO hge4
  have hd3_4 := Dj.new hb3.ltO hge4
  have hB := hB.trans hXw4
  have hb1 := hb1.up hXw4
  have hb2 := hb2.up hXw4
  have hb3 := hb3.up hXw4
  refine WL.op rfl (OpK.storeB0 T.sz131 rfl rfl (by first | rfl | exact Osl.oneCell (by assumption) | exact Osn.oneCell (by assumption) | exact Rd.oneCell (by assumption) | exact Rd.oneCell (NL.rd (by assumption)) | assumption) hb4 (fun w5 hXw5 hb4 => ?_))
  have hB := hB.updL hXw5 hl4
  have hb1 := hb1.updD hXw5 hd1_4
  have hb2 := hb2.updD hXw5 hd2_4
  have hb3 := hb3.updD hXw5 hd3_4
  refine WL.nilS ?_
  refine CW.seq ?_
  refine CW.reg ?_
  refine WL.pure rfl rfl rfl (PV.load0 T.na28 rfl hb2.cells (Ext.refl _) rfl) ?_
  refine WL.pure rfl rfl rfl ((by first | exact PV.len rfl (by assumption) T.sl28 | exact PV.lenOs rfl (by assumption) T.sl28 | exact PV.len rfl (NL.rd (by assumption)) T.sl28 | exact PV.len rfl (Inn.rd (by assumption) (by omega)) T.sl28)) ?_
  refine WL.pure rfl rfl rfl (PV.makeFunc (fs := []) (cs := [.tmp 5, .tmp 2, .tmp 3]) rfl rfl) ?_
  refine WL.op rfl (OpK.call rfl T.cf113 rfl (c_impl_eachPart_impl_Grammar_choices_1 hB (by first | assumption | exact Lo.nl _) (by first | assumption | exact Lo.nl _) (by first | assumption | exact Lo.nl _) (by first | assumption | exact Lo.nl _) (by first | assumption | exact Lo.nl _) (by first | assumption | exact Dj.symm (by assumption)) (by first | assumption | exact Dj.symm (by assumption)) (by first | assumption | exact Dj.symm (by assumption)) (by first | assumption | exact Rd.up (by assumption) hB | exact Osl.rd (by assumption) | exact Osn.rdR (by assumption)) (by first | assumption | exact Rd.up (by assumption) hB | exact Osl.rd (by assumption) | exact Osn.rdR (by assumption)) (by first | assumption | omega | (simp only [marks_len]; omega)) (by first | assumption | omega | (simp only [marks_len]; omega)) (by first | assumption | omega | (simp only [marks_len]; omega))) (fun rv1 w6 hR => ?_))
  obtain ⟨hUC5, zs6, rfl, hm7, hbn3⟩ := hR
  have hb1 := hb1.loop hUC5 ⟨hd1_3, trivial⟩
  have hb2 := hb2.loop hUC5 ⟨hd2_3, trivial⟩
  have hb4 := hb4.loop hUC5 ⟨(Dj.symm hd3_4), trivial⟩
  have hB := hB.loop hUC5 ⟨hl3, trivial⟩
  have hb3 := hbn3
  refine WL.nilS ?_
  refine CW.seq ?_
  refine CW.reg ?_
  refine WL.pure rfl rfl rfl (PV.load0 T.na131 rfl hb4.cells (Ext.refl _) rfl) ?_
  refine WL.asg rfl rfl ?_
  refine WL.nilS ?_
  refine CW.ret ?_
  refine RQ.r1 rfl ?_
  refine ⟨hB, _, b3, ?_, ?_, hb3, (hl3 _ rfl)⟩
  · skip
    rfl
  · skip
    assumption
theorem c_impl_ParseCost {w : World} {a0 : Int} {a1 : Int} {va2 : Value} {xa2 : List R4} {vw : Value} {xs : List Int} (ha2 : Rd ER w va2 xa2) (hw : Rd EI w vw xs) : Calls Try.prog 26 #[.agg #[.int .i64 a0, .int .i64 a1, va2], vw] w (Ret1 (RQt (.tuple #[.int .i64 (onI (canB a0 a1 xa2 xs) (leastC xa2 xs 0 xs.length 0)), .bool (canB a0 a1 xa2 xs)]) w)) := by
  have hB : Ext w w := Ext.refl w
  have hla2 := ha2.leI; have hlw := hw.leI
  refine callsOf (vs := [_, _]) Try.func26 rfl Try.ntmps26 rfl rfl ?_
  refine CW.seq ?_
  refine CW.reg ?_
  refine WL.op rfl (OpK.box rfl rfl (by first | exact Rd.cells1 (by assumption) | exact Osl.cells1 (by assumption) | exact Osn.cells1 (by assumption) | exact Rd.cells1 (NL.rd (by assumption)) | exact Inn.cell1 (by assumption) (by omega) | assumption | rfl) (fun b1 w1 hXw1 hb1 hge1 => ?_))
  have hl1 := Lo.new hB hge1
  have hB := hB.trans hXw1
  refine WL.asg rfl rfl ?_
  refine WL.asg rfl rfl ?_
  refine WL.nilS ?_
  refine CW.seq ?_
  refine CW.seq ?_
  refine CW.reg ?_
  refine WL.pure rfl rfl rfl (PV.loadA T.ag33 rfl hb1.cells (Ext.refl _) rfl) ?_
  refine WL.mv rfl rfl ?_
  refine WL.op rfl (OpK.callR rfl T.cf110 rfl (c_impl_Grammar_has (by first | assumption | exact Rd.up (by assumption) hB | exact Osl.rd (by assumption) | exact Osn.rdR (by assumption)) (by first | assumption | exact Rd.up (by assumption) hB | exact Osl.rd (by assumption) | exact Osn.rdR (by assumption))) (fun w2 hXw2 => ?_))
  have hB := hB.trans hXw2
  have hb1 := hb1.up hXw2
  refine WL.pure rfl rfl rfl (PV.not rfl) ?_
  refine WL.nilS ?_
  refine CW.cond rfl (fun hc1 => ?_) (fun hc1 => ?_)
  · skip
    try simp only [nq] at hc1
    refine CW.seq ?_
    refine CW.reg ?_
    refine WL.asg rfl rfl ?_
    refine WL.asg rfl rfl ?_
    refine WL.nilS ?_
    refine CW.ret ?_
    refine RQ.then ?_
    refine RQ.r2 rfl rfl ?_
    refine ⟨?_, hB⟩
    first | exact tE2 (iE (by rw [onI_no (by rw [(by assumption : canB a0 a1 xa2 xs = false)]; decide)])) (bE (by assumption : canB a0 a1 xa2 xs = false).symm) | exact tE2 (iE (by rw [onI_yes (by assumption), ← told_eq oc hg (by omega) (by omega)]; first | rw [if_pos (by omega)] | rw [if_neg (by omega)])) (bE (by assumption : canB a0 a1 xa2 xs = true).symm)
  try simp only [nq] at hc1
  refine CW.skipS ?_
  refine CW.seq ?_
  refine CW.reg ?_
  have hcan := canB_y (by assumption : canB a0 a1 xa2 xs = true); have hg := hcan.1; have h12 := hcan.2.1; have hg1 := hg.1
  refine WL.pure rfl rfl rfl (PV.loadA T.ag33 rfl hb1.cells (Ext.refl _) rfl) ?_
  refine WL.mv rfl rfl ?_
  refine WL.op rfl (OpK.call rfl T.cf111 rfl (c_impl_Grammar_choices (by first | assumption | exact Rd.up (by assumption) hB | exact Osl.rd (by assumption) | exact Osn.rdR (by assumption)) (by first | assumption | exact Rd.up (by assumption) hB | exact Osl.rd (by assumption) | exact Osn.rdR (by assumption)) (by first | assumption | omega | (simp only [marks_len]; omega)) (by first | assumption | omega | (simp only [marks_len]; omega))) (fun rv1 w3 hR => ?_))
  obtain ⟨hXw3, ys3, b2, rfl, hm4, hb2, hge2⟩ := hR
  have hl2 := Lo.new hB hge2
  have hd1_2 := Dj.new hb1.ltO hge2
  have hB := hB.trans hXw3
  have hb1 := hb1.up hXw3
  refine WL.mv rfl rfl ?_
  refine WL.pure rfl rfl rfl ((by first | exact PV.len rfl (by assumption) T.sl28 | exact PV.lenOs rfl (by assumption) T.sl28 | exact PV.len rfl (NL.rd (by assumption)) T.sl28 | exact PV.len rfl (Inn.rd (by assumption) (by omega)) T.sl28)) ?_
  have hT := (by assumption : TCT 1099511627776 xa2 xs a0 _ (xs.length + 1) 0); have hTn := hT.1; have oc := hT.topC (k := 0 * 312 + xs.length * 24 + 0 * 3) (by omega) (by omega) (by omega)
  refine WL.pure rfl rfl rfl (PV.nilCheck rfl) ?_
  refine WL.pure rfl rfl rfl (PV.ixN (i := 0) T.ar220 rfl hb2.spot rfl (by omega)) ?_
  refine WL.pure rfl rfl rfl ((by first | exact PV.ixPN T.ar130 rfl rfl (by omega) | exact PV.ixPZ T.ar130 rfl rfl (by omega))) ?_
  refine WL.pure rfl rfl rfl (PV.ixPN (i := 0) T.ar129 rfl rfl (by omega)) ?_
  refine WL.pure rfl rfl rfl (PV.fieldAddrP0 T.fl128_0 rfl) ?_
  refine WL.pure rfl rfl rfl (PV.loadArr 0 T.na2 rfl (Bx.cells hb2) (Ext.refl _) (by first | omega | (simp only [List.length_set]; omega))) ?_
  refine WL.asg rfl rfl ?_
  refine WL.nilS ?_
  refine CW.seq ?_
  refine CW.seq ?_
  refine CW.reg ?_
  refine WL.mv rfl rfl ?_
  refine WL.pure rfl rfl rfl (PV.geq rfl rfl) ?_
  refine WL.nilS ?_
  refine CW.cond rfl (fun hc2 => ?_) (fun hc2 => ?_)
  · skip
    try simp only [nq] at hc2
    refine CW.seq ?_
    refine CW.reg ?_
    refine WL.asg rfl rfl ?_
    refine WL.asg rfl rfl ?_
    refine WL.nilS ?_
    refine CW.ret ?_
    refine RQ.then ?_
    refine RQ.r2 rfl rfl ?_
    refine ⟨?_, hB⟩
    first | exact tE2 (iE (by rw [onI_no (by rw [(by assumption : canB a0 a1 xa2 xs = false)]; decide)])) (bE (by assumption : canB a0 a1 xa2 xs = false).symm) | exact tE2 (iE (by rw [onI_yes (by assumption), ← told_eq oc hg (by omega) (by omega)]; first | rw [if_pos (by omega)] | rw [if_neg (by omega)])) (bE (by assumption : canB a0 a1 xa2 xs = true).symm)
  try simp only [nq] at hc2
  refine CW.skipS ?_
  refine CW.seq ?_
  refine CW.reg ?_
  refine WL.mv rfl rfl ?_
  refine WL.asg rfl rfl ?_
  refine WL.asg rfl rfl ?_
  refine WL.nilS ?_
  refine CW.ret ?_
  refine RQ.r2 rfl rfl ?_
  refine ⟨?_, hB⟩
  first | exact tE2 (iE (by rw [onI_no (by rw [(by assumption : canB a0 a1 xa2 xs = false)]; decide)])) (bE (by assumption : canB a0 a1 xa2 xs = false).symm) | exact tE2 (iE (by rw [onI_yes (by assumption), ← told_eq oc hg (by omega) (by omega)]; first | rw [if_pos (by omega)] | rw [if_neg (by omega)])) (bE (by assumption : canB a0 a1 xa2 xs = true).symm)

end Go.Proofs.Ythemmoceomdccaa
